/- The contract of (*End).Out at any end. -/
import Derived.Test.YtacfffegmmdgfaaSegs
import Derived.WalkLawsBesides
namespace Go.Proofs.Ytacfffegmmdgfaa
open Go.RowKit
set_option linter.unusedVariables false

def segOf (e : EndD) (f : Int) (ds : List UInt8) : SegD := ⟨e.nxt, ackE e, flE e f, 64 - e.inn.length, ds⟩
def outAt (e : EndD) : Int := (e.nxt - e.first) % 4294967296
def outN (e : EndD) : Int := min 32 (min (e.out.length - outAt e) (max e.peer 1 - outAt e))
def outDs (e : EndD) : List UInt8 := (e.out.drop (outAt e).toNat).take (outN e).toNat
def outLoop : Nat → EndD → EndD × List SegD
  | 0, e => (e, [])
  | k + 1, e => if outN e ≤ 0 then (e, []) else ((outLoop k (sayE e 0 (outN e))).1, segOf e 0 (outDs e) :: (outLoop k (sayE e 0 (outN e))).2)
def outFin (r : EndD × List SegD) : EndD × List SegD := if r.1.shut = true ∧ outAt r.1 = r.1.out.length then (sayE r.1 4 0, r.2 ++ [segOf r.1 4 []]) else r
def outDue (r : EndD × List SegD) : EndD × List SegD := if r.1.due = true then (sayE r.1 0 0, r.2 ++ [segOf r.1 0 []]) else r
def outE (e : EndD) : EndD × List SegD :=
  if (e.st = 2 ∨ e.st = 3) ∧ e.nxt = e.una then (sayE e 1 0, [segOf e 1 []])
  else if e.st = 4 then outDue (outFin (outLoop 64 e))
  else (e, [])
theorem say_ok {e : EndD} (ok : e.Ok) (f n : Int) : (sayE e f n).Ok := by
  have h : U32 (nxtE e f n) := ⟨Int.emod_nonneg _ (by omega), Int.emod_lt_of_pos _ (by omega)⟩
  refine ⟨ok.st, ok.una, h, ?_, ok.first, ok.rcv, ok.out, ok.inn, ok.peer, ok.wait, ok.tries⟩
  show U32 (if _ then _ else _)
  split
  · exact h
  · exact ok.top
theorem say_same (e : EndD) (f n : Int) : (sayE e f n).st = e.st ∧ (sayE e f n).out = e.out ∧ (sayE e f n).inn = e.inn ∧ (sayE e f n).shut = e.shut ∧ (sayE e f n).first = e.first ∧ (sayE e f n).peer = e.peer ∧ (sayE e f n).una = e.una := ⟨rfl, rfl, rfl, rfl, rfl, rfl, rfl⟩
/-- What is said is there, with one segment more. -/
structure OutAt (w : World) (g : Nat) (vo vi : Value) (e : EndD) (A : Option Addr) (c : Nat) (l : List SegD) (w' : World) : Prop where
  segs : SegsAt w' w.heap.size (.slice A l.length c) l
  box : EndB w' g e vo vi
  grown : w.grownBy w' (some g)
def OutPost (w : World) (g : Nat) (e : EndD) (vo vi : Value) (r : Ending) (w' : World) : Prop := ∃ A c, r = .returned (.slice A (outE e).2.length c) ∧ OutAt w g vo vi (outE e).1 A c (outE e).2 w'
/-- say, as Out uses it: the segment's data are new. -/
def SayPost (w1 : World) (g : Nat) (e : EndD) (vo vi : Value) (f : Int) (ds : List UInt8) (r : Ending) (w' : World) : Prop :=
  ∃ A' c', r = .returned (.agg #[.int .u32 (segOf e f ds).seq, .int .u32 (segOf e f ds).ack, .int .i64 (segOf e f ds).fl, .int .i64 (segOf e f ds).wd, .slice A' ds.length c']) ∧ w'.ownsRow w1.heap.size 5 1 (.slice A' ds.length c') ds.length (bytesV ds) ∧ EndB w' g (sayE e f ds.length) vo vi ∧ w1.grownBy w' (some g)
theorem say_post (w : World) (g : Nat) (e : EndD) (vo : Value) (Ai : Option Addr) (ci : Nat) (f : Int) (D : Option Addr) (n c B : Nat) (ds : List UInt8) (hb : EndB w g e vo (.slice Ai e.inn.length ci)) (ok : e.Ok) (hf : f = 0 ∨ f = 1 ∨ f = 4)
    (hd : Reads w B 1 D n (bytesV ds)) (hB : B ≤ w.heap.size) (hn : n ≤ 64) (hD : D = none → n = 0) :
    Calls Try.prog 33 #[.pointer (some ⟨g, 0, none⟩), .int .i64 f, .slice D n c] w (SayPost w g e vo (.slice Ai e.inn.length ci) f ds) := by
  have hdl : ds.length = n := by have := hd.1; rw [bytesV_length] at this; omega
  refine (say_any w g e vo Ai ci f D n c B ds hb ok hf hd hB hn hD).mono ?_
  rintro r w' ⟨A', c', rfl, h1, h2, h3⟩
  subst hdl
  exact ⟨A', c', rfl, h1, h2, h3⟩
theorem outAt_more {w w1 w3 w4 : World} {g : Nat} {vo vi : Value} {e : EndD} {A A3 A4 : Option Addr} {c c3 c4 : Nat} {l : List SegD} {f : Int} {ds : List UInt8} {ls : List (SegD × Value)} {o : Obj} (h1 : ls.map (·.1) = l) (h2 : ∀ x ∈ ls, SegAt w1 w.heap.size x) (hbx1 : EndB w1 g e vo vi) (hgr : w.grownBy w1 (some g))
    (hown1 : w1.ownsRow w.heap.size 60 5 (.slice A l.length c) l.length (ls.flatMap segC))
    (hd : w3.ownsRow w1.heap.size 5 1 (.slice A3 ds.length c3) ds.length (bytesV ds)) (hb3 : EndB w3 g (sayE e f ds.length) vo vi) (hg3 : w1.grownBy w3 (some g))
    (ho4 : w4.ownsRow w.heap.size 60 5 (.slice A4 (l.length + 1) c4) (l.length + 1) (ls.flatMap segC ++ segC (segOf e f ds, .slice A3 ds.length c3)))
    (hg4 : (w3.alloc o).grownBy w4 (Value.ownBlock (.slice A l.length c))) : OutAt w g vo vi (sayE e f ds.length) A4 c4 (l ++ [segOf e f ds]) w4 := by
  have hg4' : w3.grownBy w4 (Value.ownBlock (.slice A l.length c)) := grown_trans' (grown_of_ext ((Ext.refl w3).alloc o) _) hg4
  have hown3 : w3.ownsRow w.heap.size 60 5 (.slice A l.length c) l.length (ls.flatMap segC) := own_of_keep hown1 (fun k hv => hg3.block k (hown1.lt k hv).2 (fun e => own_blk_ne hown1 hbx1 (by decide) (by rw [hv]; exact e)))
  have key : ∀ {base n : Nat} {v : Value} {xs : List Value}, w3.ownsRow base 5 1 v n xs → w4.ownsRow base 5 1 v n xs := fun ho => own_of_keep ho (fun k hv => hg4'.block k (ho.lt k hv).2 (fun e => own_ne_own ho hown3 (by decide) hv e.symm))
  have key1 : ∀ {base n : Nat} {v : Value} {xs : List Value}, w1.ownsRow base 5 1 v n xs → w3.ownsRow base 5 1 v n xs := fun ho => own_of_keep ho (fun k hv => hg3.block k (ho.lt k hv).2 (fun e => own_blk_ne ho hbx1 (by decide) (by rw [hv]; exact e)))
  refine ⟨⟨ls ++ [(segOf e f ds, .slice A3 ds.length c3)], by simp [h1], ?_, ?_⟩, ?_, ?_⟩
  · rw [List.length_append, List.length_singleton, List.flatMap_append]
    simpa using ho4
  · intro x hx
    rcases List.mem_append.1 hx with hx | hx
    · exact key (key1 (h2 x hx))
    · obtain rfl := List.mem_singleton.1 hx
      exact key (own_mono hd hgr.size)
  · exact hb3.grown hg4' (fun e => own_blk_ne hown3 hb3 (by decide) e.symm)
  · have hg := grown_trans' hgr hg3
    exact ⟨hg4'.os.trans hg.os, hg4'.tape.trans hg.tape, hg4'.output.trans hg.output, Nat.le_trans hg.size hg4'.size, fun k hk hne => (hg4'.block k (Nat.lt_of_lt_of_le hk hg.size) (fun e => by have := (hown1.lt k e.symm).1; omega)).trans (hg.block k hk hne)⟩
def LoopRel (w : World) (g : Nat) (vo vi : Value) (e : EndD) (k : Nat) (v : Value) (wr : World) : Prop :=
  ∃ (e' : EndD) (l : List SegD) (A : Option Addr) (c : Nat), outLoop 64 e = ((outLoop k e').1, l ++ (outLoop k e').2) ∧ v = .slice A l.length c ∧ OutAt w g vo vi e' A c l wr ∧ e'.Ok ∧ e'.out = e.out ∧ e'.inn = e.inn ∧ e'.st = 4 ∧ (e.out.length : Int) - outAt e' ≤ k ∧ l.length + k ≤ 64
def LoopEnd (w : World) (g : Nat) (vo vi : Value) (e : EndD) (v : Value) (wr : World) : Prop :=
  ∃ (A : Option Addr) (c : Nat), v = .slice A (outLoop 64 e).2.length c ∧ OutAt w g vo vi (outLoop 64 e).1 A c (outLoop 64 e).2 wr ∧ (outLoop 64 e).1.Ok ∧ (outLoop 64 e).1.out = e.out ∧ (outLoop 64 e).1.inn = e.inn ∧ (outLoop 64 e).1.st = 4 ∧ (outLoop 64 e).2.length ≤ 64
def finB (e : EndD) : Bool := e.shut && decide (outAt e = e.out.length)
def BMid (W : World) (b : Bool) (v : Value) (wc : World) : Prop := v = .bool b ∧ Ext W wc
/-- What is said so far: slot 3, and the end. -/
def SoFar (w : World) (g : Nat) (vo vi : Value) (e : EndD) (r : EndD × List SegD) (n : Nat) (v : Value) (wr : World) : Prop :=
  ∃ (A : Option Addr) (c : Nat), v = .slice A r.2.length c ∧ OutAt w g vo vi r.1 A c r.2 wr ∧ r.1.Ok ∧ r.1.out = e.out ∧ r.1.inn = e.inn ∧ r.1.st = 4 ∧ r.2.length ≤ n
def NMid (W : World) (at_ : Nat) (n : Int) (v4 v5 : Value) (wc : World) : Prop := v4 = .int .i64 at_ ∧ v5 = .int .i64 n ∧ Ext W wc
set_option maxHeartbeats 4000000 in
set_option maxRecDepth 100000 in
theorem out_open (w : World) (g : Nat) (e : EndD) (vo : Value) (Ao Ai : Option Addr) (co ci : Nat) (hb : EndB w g e (.slice Ao e.out.length co) (.slice Ai e.inn.length ci)) (ok : e.Ok) (hst : e.st = 4) (ho : w.ownsRow 0 5 1 (.slice Ao e.out.length co) e.out.length (bytesV e.out)) :
    Calls Try.prog 23 #[.pointer (some ⟨g, 0, none⟩)] w (OutPost w g e (.slice Ao e.out.length co) (.slice Ai e.inn.length ci)) := by
  obtain ⟨i0, hi0, hz0, hz1, hz2⟩ := info_parts seg_info
  obtain ⟨i8, hi8, hz8, hz81, hz82⟩ := info_parts byte_info
  have c0 : w.cell? ⟨g, 0, none⟩ = some (.int .i64 e.st) := hb.cell 0
  rw [hst] at c0
  have HB := hide hb
  have HOK := hide ok
  have HST := hide hst
  have HO := hide ho
  have hl64 := ok.out
  obtain ⟨vi, hvi⟩ : ∃ x, Value.slice Ai e.inn.length ci = x := ⟨_, rfl⟩
  rw [hvi] at HB
  have HVI := hide hvi
  clear hb ok hst ho hvi
  go_enter Try.func23, Try.ntmps23
  go_upto_region 2 with fail
  go_quiet (fail)
  go_upto_block 0 with fail
  have HXQ := hide ((Ext.refl w).drewN nq)
  generalize w.drewN nq = W at *
  clear c0
  go_cut [3] (LoopEnd w g (.slice Ao e.out.length co) vi e)
  case first =>
    go_wp2_with fail
    go_loopg [3] 64 (LoopRel w g (.slice Ao e.out.length co) vi e)
    case atStart => exact ⟨e, [], none, 0, by simp, rfl, ⟨(SegsAt.nil _ _), HB.out.ext HXQ.out, grown_of_ext HXQ.out _⟩, HOK.out, rfl, rfl, HST.out, by have : 0 ≤ outAt e := Int.emod_nonneg _ (by omega); omega, by simp⟩
    case round =>
      obtain ⟨e', l, A, c, hL, rfl, hat, ok', hout, hinn, hst', hk, hlk⟩ := hrel
      have HL := hide hL
      have HAT := hide hat
      have HOK' := hide ok'
      have HOUT := hide hout
      have HINN := hide hinn
      have HST' := hide hst'
      have hbx := hat.box
      have c2 : wr.cell? ⟨g, 2, none⟩ = some (.int .u32 e'.nxt) := hbx.cell 2
      have c4 : wr.cell? ⟨g, 4, none⟩ = some (.int .u32 e'.first) := hbx.cell 4
      have c6 : wr.cell? ⟨g, 6, none⟩ = some (.slice Ao e.out.length co) := hbx.cell 6
      have c8 : wr.cell? ⟨g, 8, none⟩ = some (.int .i64 e'.peer) := hbx.cell 8
      obtain ⟨n1, n2⟩ := ok'.nxt
      obtain ⟨f1, f2⟩ := ok'.first
      obtain ⟨p1, p2⟩ := ok'.peer
      have a1 : 0 ≤ outAt e' := Int.emod_nonneg _ (by omega)
      have a2 : outAt e' < 4294967296 := Int.emod_lt_of_pos _ (by omega)
      obtain ⟨at_, hat_⟩ : ∃ x : Nat, outAt e' = x := ⟨(outAt e').toNat, by omega⟩
      have hae : (e'.nxt - e'.first) % 4294967296 = (at_ : Int) := hat_
      rw [hat_] at a1 a2 hk
      have HATE := hide hat_
      have hN : outN e' = min 32 (min ((e'.out.length : Int) - at_) (max e'.peer 1 - at_)) := by unfold outN; rw [hat_]
      rw [hout] at hN
      have HN := hide hN
      clear hL hat ok' hout hinn hst' hbx hat_ hN
      obtain ⟨ol, hol⟩ : ∃ x, e.out.length = x := ⟨_, rfl⟩
      rw [hol] at c6 hk HN hl64
      have HOL := hide hol
      clear hol
      obtain ⟨pe, hpe⟩ : ∃ x, e'.peer = x := ⟨_, rfl⟩
      rw [hpe] at c8 p1 p2 HN
      clear hpe
      generalize e'.nxt = nx at c2 n1 n2 hae
      generalize e'.first = fs at c4 f1 f2 hae
      have w1 : IntKind.i64.wrap ((ol : Int) - (at_ : Int)) = (ol : Int) - (at_ : Int) := by rw [IntKind.wrap_i64]; omega
      go_upto_region 6 with fail
      go_quiet (fail)
      go_upto_region 7 with fail
      go_cut [4, 5] (NMid wr at_ (outN e'))
      case first =>
        have hv : (if (if pe < 1 then 1 else pe) - (at_ : Int) < if (ol : Int) - (at_ : Int) < 32 then (ol : Int) - (at_ : Int) else 32 then (if pe < 1 then 1 else pe) - (at_ : Int) else if (ol : Int) - (at_ : Int) < 32 then (ol : Int) - (at_ : Int) else 32) = outN e' := by
          rw [HN.out]
          split <;> split <;> split <;> omega
        have HV := hide hv
        clear hv
        go_quiet (fail)
        rw [HV.out]
        generalize (if pe < 1 then (1 : Int) else pe) - (at_ : Int) = y1
        generalize (if pe < 1 then (1 : Int) else pe) = y2
        go_wp2_with fail
        go_meet
        exact ⟨rfl, rfl, ((Ext.refl wr).drewN _).drewN _⟩
      case rest =>
      obtain ⟨rfl, rfl, hxd⟩ := hcut
      clear w1 hae n1 n2 f1 f2 p1 p2 c2 c4 c8
      have HXD := hide hxd
      have HAT2 := hide (show OutAt w g (.slice Ao ol co) vi e' A c l wc from ⟨HAT.out.segs.ext hxd, by have := HAT.out.box.ext hxd; rw [HOL.out] at this; exact this, grown_trans' HAT.out.grown (grown_of_ext hxd _)⟩)
      clear hxd HAT c6
      by_cases hn : outN e' ≤ 0
      · have hLk : outLoop 64 e = (e', l) := by
          rw [HL.out]
          cases gk with
          | zero => simp [outLoop]
          | succ k => simp [outLoop, hn]
        have HLK := hide hLk
        clear hLk HN
        generalize outN e' = nn at *
        go_wp2_with fail
        go_meet
        refine ⟨A, c, by rw [HLK.out], ?_⟩
        rw [HLK.out, HOL.out]
        exact ⟨HAT2.out, HOK'.out, HOUT.out, HINN.out, HST'.out, by dsimp only; omega⟩
      · obtain ⟨m, hm⟩ : ∃ m : Nat, outN e' = m := ⟨(outN e').toNat, by omega⟩
        have hmo : m ≤ 32 ∧ at_ + m ≤ ol := by have := HN.out; omega
        obtain ⟨hm32, hmol⟩ := hmo
        obtain ⟨k, hgk⟩ : ∃ k, gk = k + 1 := ⟨gk - 1, by omega⟩
        subst hgk
        have hm0 : 0 < m := by omega
        have hm0' : ¬ m = 0 := by omega
        have hmI : ¬ ((m : Int) ≤ 0) := by omega
        have hLk : outLoop 64 e = ((outLoop k (sayE e' 0 m)).1, (l ++ [segOf e' 0 (outDs e')]) ++ (outLoop k (sayE e' 0 m)).2) := by
          rw [HL.out]
          show (_, _) = _
          rw [outLoop, if_neg hn, hm]
          simp
        have hds : outDs e' = (e.out.drop at_).take m := by
          unfold outDs
          rw [HATE.out, hm, HOUT.out]
          simp
        have hdl : (outDs e').length = m := by
          rw [hds, List.length_take, List.length_drop, HOL.out]; omega
        have hat3 : outAt (sayE e' 0 m) = at_ + m := by
          have h := HATE.out
          unfold outAt at h ⊢
          show ((e'.nxt + spanF 0 m) % 4294967296 - e'.first) % 4294967296 = _
          have hsp : spanF 0 m = m := by simp [spanF]
          rw [hsp]
          omega
        have HLK := hide hLk
        have HDS := hide hds
        have HDL := hide hdl
        have HAT3 := hide hat3
        rw [hm]
        clear hn hLk hds hdl hat3 HL HN
        have HM := hide hm
        clear hm
        have hoo : wc.ownsRow 0 5 1 (.slice Ao ol co) ol (bytesV e.out) := by
          have h0 := HO.out
          rw [HOL.out] at h0
          exact own_of_keep h0 (fun x hv => HAT2.out.grown.block x (h0.lt x hv).2 (fun e9 => own_blk_ne h0 (by have := HB.out; rw [HOL.out] at this; exact this) (by decide) (by rw [hv]; exact e9)))
        have hle := own_le hoo
        obtain ⟨A', hcut0, hrd, hnl⟩ := cut_mid (P := Try.prog) Try.underlying24 hi8 hz81 (Reads.of_own hoo) at_ (at_ + m) co (by omega) hmol hle.1 .i64 .i64
        have hcut1 : ∀ W, (Instr.slice 24 (.slice Ao ol co) (some (.int .i64 (at_ : Int))) (some (.int .i64 ((at_ : Int) + (m : Int)))) none).run Try.prog W = .ok (.slice A' m (co - at_)) W := by
          intro W
          have := hcut0 W
          rw [Nat.add_sub_cancel_left] at this
          rw [← Int.natCast_add]
          exact this
        rw [Nat.add_sub_cancel_left] at hrd
        have HRD := hide (show Reads wc wc.heap.size 1 A' m (bytesV (outDs e')) by rw [HDS.out, ← bytesV_take, ← bytesV_drop]; exact hrd)
        have HNL := hide (show A' = none → m = 0 from fun h0 => by
          have h1 := hnl h0
          obtain ⟨g9, h2, _⟩ := own_addr hoo (by omega)
          rw [h1] at h2; cases h2)
        obtain ⟨cr, hcr⟩ : ∃ x, co - at_ = x := ⟨_, rfl⟩
        rw [hcr] at hcut1
        have c6 : wc.cell? ⟨g, 6, none⟩ = some (.slice Ao ol co) := HAT2.out.box.cell 6
        have HBV := hide (show EndB wc g e' (.slice Ao ol co) (.slice Ai e'.inn.length ci) by rw [HINN.out, HVI.out]; exact HAT2.out.box)
        have HVI' := hide (show Value.slice Ai e'.inn.length ci = vi by rw [HINN.out]; exact HVI.out)
        clear hcut0 hrd hnl hoo hcr
        have hco := hle.2
        unfold maxLen at hco
        clear hle
        go_upto_region 9 with fail

        go_wp2_with fail
        refine (say_post wc g e' (.slice Ao ol co) Ai ci 0 A' m cr wc.heap.size (outDs e') HBV.out HOK'.out (.inl rfl) HRD.out (Nat.le_refl _) (by omega) HNL.out).mono ?_
        rintro r w3 ⟨A3, c3, rfl, ho3, hb3, hg3⟩
        rw [HDL.out] at ho3 hb3
        rw [HVI'.out] at hb3
        have HO3 := hide ho3
        have HB3 := hide hb3
        have HG3 := hide hg3
        rw [HDL.out]
        clear ho3 hb3 hg3 c6 hcut1
        obtain ⟨ls, hl1, hl2, hl3⟩ := HAT2.out.segs
        have HL1 := hide hl1
        have HL3 := hide hl3
        have HL2 := hide hl2
        have hown3 : w3.ownsRow w.heap.size 60 5 (.slice A l.length c) l.length (ls.flatMap segC) := own_of_keep hl2 (fun k hv => HG3.out.block k (hl2.lt k hv).2 (fun e => own_blk_ne hl2 HAT2.out.box (by decide) (by rw [hv]; exact e)))
        have HOWN := hide (hown3.alloc (.cells #[.int .u32 (segOf e' 0 (outDs e')).seq, .int .u32 (segOf e' 0 (outDs e')).ack, .int .i64 (segOf e' 0 (outDs e')).fl, .int .i64 (segOf e' 0 (outDs e')).wd, .slice A3 m c3] 60))
        have HNB := hide (Blk.new w3 60 #[.int .u32 (segOf e' 0 (outDs e')).seq, .int .u32 (segOf e' 0 (outDs e')).ack, .int .i64 (segOf e' 0 (outDs e')).fl, .int .i64 (segOf e' 0 (outDs e')).wd, .slice A3 m c3])
        have hs3 : w.heap.size ≤ w3.heap.size := Nat.le_trans HAT2.out.grown.size HG3.out.size
        clear hl1 hl2 hl3 hown3
        go_wp2_with (at_builtin; refine wpList_append_any _ rfl (.tmp 67) (.tmp 79) 57 rfl w.heap.size 60 i0 _ 5 48 Try.underlying57 hi0 hz0 hz1 hz2 rfl (by omega) (.slice A l.length c) l.length (ls.flatMap segC) rfl HOWN.out _ _ 1 1 (segC (segOf e' 0 (outDs e'), .slice A3 m c3)) rfl HNB.out.reads5 (by simp [segC, Value.oneCell']) (by simp only [maxLen]; omega) (by omega) (by simp; omega) ?_; intro A4 c4 w4 ho4 hg4 ha4)
        have HNEW := hide (outAt_more HL1.out HL3.out HAT2.out.box HAT2.out.grown HL2.out (by rw [HDL.out]; exact HO3.out) (by rw [HDL.out]; exact HB3.out) HG3.out (by rw [HDL.out]; exact ho4) hg4)
        clear ho4 hg4 ha4
        go_roundg k
        case rel =>
          refine ⟨sayE e' 0 m, l ++ [segOf e' 0 (outDs e')], A4, c4, HLK.out, by simp, ?_, say_ok HOK'.out 0 m, HOUT.out, HINN.out, HST'.out, ?_, ?_⟩
          · have := HNEW.out
            rw [HDL.out] at this
            rw [HOL.out]
            exact this
          · rw [HAT3.out, HOL.out]
            omega
          · rw [List.length_append, List.length_singleton]
            omega
        case measure => omega
  case rest =>
  have HE := hide (show outE e = outDue (outFin (outLoop 64 e)) by unfold outE; rw [if_neg (by rw [HST.out]; simp), if_pos HST.out])
  have HS1 := hide (show SoFar w g (.slice Ao e.out.length co) vi e (outLoop 64 e) 64 _ wc from hcut)
  clear hcut
  generalize outLoop 64 e = r1 at *
  obtain ⟨e1, l1⟩ := r1
  obtain ⟨A, c, hv3, hat, ok1, hout1, hinn1, hst1, hl1⟩ := HS1.out
  dsimp only at hv3 hat ok1 hout1 hinn1 hst1 hl1
  subst hv3
  have HAT2 := hide hat
  have HOK1 := hide ok1
  have HOUT1 := hide hout1
  have HINN1 := hide hinn1
  have HST1 := hide hst1
  have hbx := hat.box
  have c2 : wc.cell? ⟨g, 2, none⟩ = some (.int .u32 e1.nxt) := hbx.cell 2
  have c4 : wc.cell? ⟨g, 4, none⟩ = some (.int .u32 e1.first) := hbx.cell 4
  have c6 : wc.cell? ⟨g, 6, none⟩ = some (.slice Ao e.out.length co) := hbx.cell 6
  have c9 : wc.cell? ⟨g, 9, none⟩ = some (.bool e1.shut) := hbx.cell 9
  obtain ⟨n1, n2⟩ := ok1.nxt
  obtain ⟨f1, f2⟩ := ok1.first
  have HBV := hide (show ∀ W', Ext wc W' → EndB W' g e1 (.slice Ao e.out.length co) (.slice Ai e1.inn.length ci) from fun W' hx => by rw [hinn1, HVI.out]; exact hbx.ext hx)
  have HVI' := hide (show Value.slice Ai e1.inn.length ci = vi by rw [hinn1]; exact HVI.out)
  have HFB := hide (show finB e1 = (e1.shut && decide (outAt e1 = e.out.length)) by unfold finB; rw [hout1])
  clear hat ok1 hout1 hinn1 hst1 hbx HS1
  go_upto_region 10 with fail
  go_cut [102] (BMid wc (finB e1))
  case first =>
    obtain ⟨at_, hat_⟩ : ∃ x : Nat, outAt e1 = x := ⟨(outAt e1).toNat, by have : 0 ≤ outAt e1 := Int.emod_nonneg _ (by omega); omega⟩
    have hae : (e1.nxt - e1.first) % 4294967296 = (at_ : Int) := hat_
    have a2 : (at_ : Int) < 4294967296 := by omega
    cases hs : e1.shut with
    | false =>
      have HV := hide (show finB e1 = false by rw [HFB.out, hs]; rfl)
      rw [hs] at c9
      clear hs hat_
      generalize e1.nxt = nx at c2 n1 n2 hae
      generalize e1.first = fs at c4 f1 f2 hae
      go_quiet (fail)
      go_wp2_with fail
      go_meet
      exact ⟨by rw [HV.out], (Ext.refl wc).drewN _⟩
    | true =>
      rw [hs] at c9
      obtain ⟨ol, hol⟩ : ∃ x, e.out.length = x := ⟨_, rfl⟩
      rw [hol] at c6
      by_cases ha : at_ = ol
      · have HV := hide (show finB e1 = true by rw [HFB.out, hs, hat_, hol, ha]; simp)
        subst ha
        have t1 : (at_ == at_) = true := by simp
        have t2 : ((at_ : Int) == (at_ : Int)) = true := by simp
        clear hs hat_ hol
        generalize e1.nxt = nx at c2 n1 n2 hae
        generalize e1.first = fs at c4 f1 f2 hae
        go_quiet (fail)
        go_wp2_with fail
        go_meet
        exact ⟨by rw [HV.out], (Ext.refl wc).drewN _⟩
      · have HV := hide (show finB e1 = false by rw [HFB.out, hs, hat_, hol]; simp; omega)
        have t1 : (at_ == ol) = false := by simpa using ha
        have t2 : ((at_ : Int) == (ol : Int)) = false := by simp; omega
        clear hs hat_ hol ha
        generalize e1.nxt = nx at c2 n1 n2 hae
        generalize e1.first = fs at c4 f1 f2 hae
        go_quiet (fail)
        go_wp2_with fail
        go_meet
        exact ⟨by rw [HV.out], (Ext.refl wc).drewN _⟩
  case rest =>
  obtain ⟨rfl, hxd⟩ := hcut
  have HBV := hide (HBV.out _ hxd)
  have HAT2 := hide (show OutAt w g (.slice Ao e.out.length co) vi e1 A c l1 _ from ⟨HAT2.out.segs.ext hxd, HAT2.out.box.ext hxd, grown_trans' HAT2.out.grown (grown_of_ext hxd _)⟩)
  clear hxd c2 c4 c6 c9 n1 n2 f1 f2
  go_upto_if 102 with fail
  go_cut [3] (SoFar w g (.slice Ao e.out.length co) vi e (outFin (e1, l1)) 65)
  case first =>
    have hfv : outFin (e1, l1) = if finB e1 = true then (sayE e1 4 0, l1 ++ [segOf e1 4 []]) else (e1, l1) := by
      unfold outFin finB
      simp
    have HFV := hide hfv
    clear hfv
    cases hb : finB e1 with
    | true =>
      have HV := hide (show outFin (e1, l1) = (sayE e1 4 0, l1 ++ [segOf e1 4 []]) by rw [HFV.out, hb]; rfl)
      clear hb
      go_wp2_with fail
      refine (say_post _ g e1 (.slice Ao e.out.length co) Ai ci 4 none 0 0 0 [] HBV.out HOK1.out (by omega) Reads.none_ (Nat.zero_le _) (by omega) (fun _ => rfl)).mono ?_
      rintro r w3 ⟨A3, c3, rfl, ho3, hb3, hg3⟩
      rw [HVI'.out] at hb3
      have HO3 := hide ho3
      have HB3 := hide hb3
      have HG3 := hide hg3
      clear ho3 hb3 hg3
      obtain ⟨ls, hl1, hl2, hl3⟩ := HAT2.out.segs
      have HL1 := hide hl1
      have HL3 := hide hl3
      have HL2 := hide hl2
      have hown3 : w3.ownsRow w.heap.size 60 5 (.slice A l1.length c) l1.length (ls.flatMap segC) := own_of_keep hl2 (fun k hv => HG3.out.block k (hl2.lt k hv).2 (fun e => own_blk_ne hl2 HAT2.out.box (by decide) (by rw [hv]; exact e)))
      have HOWN := hide (hown3.alloc (.cells #[.int .u32 (segOf e1 4 []).seq, .int .u32 (segOf e1 4 []).ack, .int .i64 (segOf e1 4 []).fl, .int .i64 (segOf e1 4 []).wd, .slice A3 0 c3] 60))
      have HNB := hide (Blk.new w3 60 #[.int .u32 (segOf e1 4 []).seq, .int .u32 (segOf e1 4 []).ack, .int .i64 (segOf e1 4 []).fl, .int .i64 (segOf e1 4 []).wd, .slice A3 0 c3])
      have hs3 : w.heap.size ≤ w3.heap.size := Nat.le_trans HAT2.out.grown.size HG3.out.size
      clear hl1 hl2 hl3 hown3
      go_wp2_with (at_builtin; refine wpList_append_any _ rfl (.tmp 103) (.tmp 106) 57 rfl w.heap.size 60 i0 _ 5 48 Try.underlying57 hi0 hz0 hz1 hz2 rfl (by omega) (.slice A l1.length c) l1.length (ls.flatMap segC) rfl HOWN.out _ _ 1 1 (segC (segOf e1 4 [], .slice A3 0 c3)) rfl HNB.out.reads5 (by simp [segC, Value.oneCell']) (by simp only [maxLen]; omega) (by omega) (by simp; omega) ?_; intro A4 c4 w4 ho4 hg4 ha4)
      have HNEW := hide (outAt_more HL1.out HL3.out HAT2.out.box HAT2.out.grown HL2.out HO3.out HB3.out HG3.out ho4 hg4)
      clear ho4 hg4 ha4
      go_meet
      refine ⟨A4, c4, by rw [HV.out]; simp, ?_⟩
      rw [HV.out]
      exact ⟨HNEW.out, say_ok HOK1.out _ _, HOUT1.out, HINN1.out, HST1.out, by simp; omega⟩
    | false =>
      have HV := hide (show outFin (e1, l1) = (e1, l1) by rw [HFV.out, hb]; rfl)
      clear hb
      go_wp2_with fail
      go_meet
      refine ⟨A, c, by rw [HV.out], ?_⟩
      rw [HV.out]
      exact ⟨HAT2.out, HOK1.out, HOUT1.out, HINN1.out, HST1.out, by dsimp only; omega⟩
  case rest =>
  clear HBV HAT2 HOK1 HOUT1 HINN1 HST1 HVI' HFB
  have HS2 := hide hcut
  clear hcut
  generalize outFin (e1, l1) = r2 at *
  clear hl1
  obtain ⟨e2, l2⟩ := r2
  obtain ⟨A, c, hv3, hat, ok1, hout1, hinn1, hst1, hl1⟩ := HS2.out
  dsimp only at hv3 hat ok1 hout1 hinn1 hst1 hl1
  subst hv3
  have HAT2 := hide hat
  have HOK1 := hide ok1
  have hbx := hat.box
  have c11 : wc.cell? ⟨g, 11, none⟩ = some (.bool e2.due) := hbx.cell 11
  have HBV := hide (show EndB wc g e2 (.slice Ao e.out.length co) (.slice Ai e2.inn.length ci) by rw [hinn1, HVI.out]; exact hbx)
  have HVI' := hide (show Value.slice Ai e2.inn.length ci = vi by rw [hinn1]; exact HVI.out)
  clear hat ok1 hout1 hinn1 hst1 hbx HS2
  cases hd : e2.due with
  | true =>
    have HV := hide (show outE e = (sayE e2 0 0, l2 ++ [segOf e2 0 []]) by rw [HE.out]; simp [outDue, hd])
    rw [hd] at c11
    clear hd
    go_wp2_with fail
    refine (say_post _ g e2 (.slice Ao e.out.length co) Ai ci 0 none 0 0 0 [] HBV.out HOK1.out (by omega) Reads.none_ (Nat.zero_le _) (by omega) (fun _ => rfl)).mono ?_
    rintro r w3 ⟨A3, c3, rfl, ho3, hb3, hg3⟩
    rw [HVI'.out] at hb3
    have HO3 := hide ho3
    have HB3 := hide hb3
    have HG3 := hide hg3
    clear ho3 hb3 hg3
    obtain ⟨ls, hl1, hl2, hl3⟩ := HAT2.out.segs
    have HL1 := hide hl1
    have HL3 := hide hl3
    have HL2 := hide hl2
    have hown3 : w3.ownsRow w.heap.size 60 5 (.slice A l2.length c) l2.length (ls.flatMap segC) := own_of_keep hl2 (fun k hv => HG3.out.block k (hl2.lt k hv).2 (fun e => own_blk_ne hl2 HAT2.out.box (by decide) (by rw [hv]; exact e)))
    have HOWN := hide (hown3.alloc (.cells #[.int .u32 (segOf e2 0 []).seq, .int .u32 (segOf e2 0 []).ack, .int .i64 (segOf e2 0 []).fl, .int .i64 (segOf e2 0 []).wd, .slice A3 0 c3] 60))
    have HNB := hide (Blk.new w3 60 #[.int .u32 (segOf e2 0 []).seq, .int .u32 (segOf e2 0 []).ack, .int .i64 (segOf e2 0 []).fl, .int .i64 (segOf e2 0 []).wd, .slice A3 0 c3])
    have hs3 : w.heap.size ≤ w3.heap.size := Nat.le_trans HAT2.out.grown.size HG3.out.size
    clear hl1 hl2 hl3 hown3
    go_upto_region 14 with (at_builtin; refine wpList_append_any _ rfl (.tmp 112) (.tmp 115) 57 rfl w.heap.size 60 i0 _ 5 48 Try.underlying57 hi0 hz0 hz1 hz2 rfl (by omega) (.slice A l2.length c) l2.length (ls.flatMap segC) rfl HOWN.out _ _ 1 1 (segC (segOf e2 0 [], .slice A3 0 c3)) rfl HNB.out.reads5 (by simp [segC, Value.oneCell']) (by simp only [maxLen]; omega) (by omega) (by simp; omega) ?_; intro A4 c4 w4 ho4 hg4 ha4)
    have HNEW := hide (outAt_more HL1.out HL3.out HAT2.out.box HAT2.out.grown HL2.out HO3.out HB3.out HG3.out ho4 hg4)
    clear ho4 hg4 ha4
    go_wp2_with fail
    go_ret
    refine ⟨A4, c4, by rw [HV.out]; simp, ?_⟩
    rw [HV.out, HVI.out]
    exact HNEW.out
  | false =>
    have HV := hide (show outE e = (e2, l2) by rw [HE.out]; simp [outDue, hd])
    rw [hd] at c11
    clear hd
    go_wp2_with fail
    go_ret
    refine ⟨A, c, by rw [HV.out]; rfl, ?_⟩
    rw [HV.out, HVI.out]
    exact HAT2.out
end Go.Proofs.Ytacfffegmmdgfaa
