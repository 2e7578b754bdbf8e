/- The text of jobs without where tokens stood: plain words, the Builder, the contract of the closure that writes a word. -/
import Derived.Test.YtjbgkcljjgofnaaDoorShPrint
namespace Go.Proofs.YtjbgkcljjgofnaaDoor
open Go.RowKit
set_option linter.unusedVariables false

def partB (p : PartD) : List UInt8 := quoteL p.text ++ ((if p.var = true then [118] else []) ++ (if p.quoted = true then [113] else []))
def wordB (x : Bare) : List UInt8 := x.2.flatMap partB ++ [44]
def redB (r : List UInt8 × Bare) : List UInt8 := r.1 ++ wordB r.2
def cmdB (c : CmdJ Bare) : List UInt8 := [40] ++ (c.words.flatMap wordB ++ (c.redirs.flatMap redB ++ [41]))
def pipeB (p : PipeJ Bare) : List UInt8 := ([91] ++ p.iff) ++ (p.cmds.flatMap cmdB ++ [93])
def jobB (j : JobJ Bare) : List UInt8 := j.pipes.flatMap pipeB ++ ((if j.back = true then [38] else []) ++ [59])
/-- The text of jobs: of nothing but what is told without where it stood. -/
def plainB (js : List (JobJ Bare)) : List UInt8 := js.flatMap jobB
theorem plainB_app (a b : List (JobJ Bare)) : plainB (a ++ b) = plainB a ++ plainB b := List.flatMap_append
def wordK (x : Tk) : List UInt8 := wordB (bareK x)
def redK (r : List UInt8 × Tk) : List UInt8 := r.1 ++ wordK r.2
def cmdK (c : CmdJ Tk) : List UInt8 := [40] ++ (c.words.flatMap wordK ++ (c.redirs.flatMap redK ++ [41]))
def pipeK (p : PipeJ Tk) : List UInt8 := ([91] ++ p.iff) ++ (p.cmds.flatMap cmdK ++ [93])
def jobK (j : JobJ Tk) : List UInt8 := j.pipes.flatMap pipeK ++ ((if j.back = true then [38] else []) ++ [59])
theorem flat_ext {α β : Type} {f g : α → List β} (l : List α) (h : ∀ x, f x = g x) : l.flatMap f = l.flatMap g := by rw [show f = g from funext h]
theorem cmdK_bare (c : CmdJ Tk) : cmdK c = cmdB (c.map bareK) := by
  unfold cmdK cmdB CmdJ.map
  simp only [List.flatMap_map]
  rfl
theorem pipeK_bare (p : PipeJ Tk) : pipeK p = pipeB (p.map bareK) := by
  unfold pipeK pipeB PipeJ.map
  simp only [List.flatMap_map]
  rw [flat_ext p.cmds cmdK_bare]
theorem jobK_bare (j : JobJ Tk) : jobK j = jobB (j.map bareK) := by
  unfold jobK jobB JobJ.map
  simp only [List.flatMap_map]
  rw [flat_ext j.pipes pipeK_bare]
theorem plainK_bare (js : List (JobJ Tk)) : js.flatMap jobK = plainB (bareJ js) := by
  unfold plainB bareJ
  rw [List.flatMap_map]
  exact flat_ext js jobK_bare
/-- Blocks that are neither a Builder nor bytes are as they were. -/
def KeepB (w w' : World) : Prop := ∀ (b : Nat) (e : TypeId) (cs : Array Value), e ≠ 58 → e ≠ 5 → Blk w b e cs → Blk w' b e cs
theorem KeepB.of {w w' : World} (h : Ext w w') : KeepB w w' := fun b e cs _ _ hb => hb.ext h
theorem KeepB.trans {a b c : World} (h1 : KeepB a b) (h2 : KeepB b c) : KeepB a c := fun x e cs n1 n2 hb => h2 x e cs n1 n2 (h1 x e cs n1 n2 hb)
/-- The Builder at b holds l; nothing that was in w0 has changed. -/
def TxtAt (w0 : World) (b : Nat) (l : List UInt8) (w : World) : Prop := w0.heap.size ≤ w.heap.size ∧ Lib.IsBuilderF 58 5 w0.heap.size b (bytesV l) w ∧ Ext w0 w
section
variable {w0 w w' : World} {b : Nat} {l : List UInt8}
theorem TxtAt.from_ (h : TxtAt w0 b l w) : Ext w0 w := h.2.2
theorem TxtAt.ext (h : TxtAt w0 b l w) (hx : Ext w w') : TxtAt w0 b l w' := by
  have key : ∀ p, Lib.BuilderAtF 58 5 w0.heap.size b p (bytesV l) w → Lib.BuilderAtF 58 5 w0.heap.size b p (bytesV l) w' := fun p ⟨h1, v, h2, h3, h4⟩ => ⟨h1, v, (Below.block hx b (Blk.lt h2)).trans h2, h3.kept (grown_of_ext hx none) (by cases hv : v.ownBlock <;> simp), h4⟩
  exact ⟨Nat.le_trans h.1 hx.size, h.2.1.imp (key _) (key _), h.2.2.trans hx⟩
theorem TxtAt.new_ (w : World) : TxtAt w w.heap.size [] (w.alloc (.cells #[.pointer none, .slice none 0 0] 58)) := ⟨by simp, .inl ⟨Nat.le_refl _, .slice none 0 0, heap_alloc_new w _, World.ownsRowF_nil _ _ _ _, by simp [Value.ownBlock]⟩, (Ext.refl w).alloc _⟩
theorem TxtAt.keep (h : TxtAt w0 b l w) (hk : Lib.OthersKept 5 (some b) w w') : KeepB w w' := by
  intro k e cs n1 n2 hb
  have hbb : ∃ p v, w.heap[b]? = some (.cells #[p, v] 58 (0, 0)) := by
    rcases h.2.1 with ⟨_, v, h2, _⟩ | ⟨_, v, h2, _⟩
    · exact ⟨_, v, h2⟩
    · exact ⟨_, v, h2⟩
  obtain ⟨p, v, hbb⟩ := hbb
  have hb' : w.heap[k]? = some (.cells cs e (0, 0)) := hb
  refine hk k _ hb' (fun he => ?_) (fun c fz he => ?_)
  · injection he with he
    subst he
    rw [hb'] at hbb
    injection hbb with hbb
    injection hbb with h3 h4
    exact n1 h4
  · injection he with h3 h4
    exact n2 h4
end
theorem wr_any (w0 : World) (b : Nat) (l x : List UInt8) (xv : ByteArray) (w : World) (hxv : xv = str x) (h : TxtAt w0 b l w) (hl : l.length + x.length ≤ 100000000000000) :
    Calls Tryd.prog 16 #[.pointer (some ⟨b, 0, none⟩), .string xv] w fun e w' => e = .returned (.tuple #[.int .i64 (x.length : Int), .nilIface]) ∧ TxtAt w0 b (l ++ x) w' ∧ KeepB w w' := by
  subst hxv
  refine (Any.Builder_WriteString_k lays166 Tryd.Builder_Extra_156 w0.heap.size b (bytesV l) (str x) w h.2.1 (by rw [str_size, bytesV_length]; omega) h.1).mono ?_
  rintro e w' ⟨h1, h2, h3, h4⟩
  rw [strCells_str, ← bytesV_append] at h2
  exact ⟨by rw [h1, str_size], ⟨Nat.le_trans h.1 h3.size, .inr h2, h.2.2.trans' h3⟩, h.keep h4⟩
theorem rd_any (w0 : World) (b : Nat) (l : List UInt8) (w : World) (h : TxtAt w0 b l w) :
    Calls Tryd.prog 18 #[.pointer (some ⟨b, 0, none⟩)] w fun e w' => e = .returned (.string (str l)) ∧ Ext w0 w' := by
  refine (Tryd.Builder_String_any_k w0.heap.size b l w h.2.1 h.1).mono ?_
  rintro e w' ⟨h1, h2, h3, h4⟩
  exact ⟨h1, h.2.2.trans' h3⟩
def WRel (w0 : World) (b : Nat) (l : List UInt8) (ps : List PartD) (w1 : World) (v8 : Value) (wr : World) : Prop := ∃ k : Nat, k ≤ ps.length ∧ v8 = .int .i64 k ∧ TxtAt w0 b (l ++ (ps.take k).flatMap partB) wr ∧ KeepB w1 wr
theorem flat_len_le (ps : List PartD) (k : Nat) : ((ps.take k).flatMap partB).length ≤ (ps.flatMap partB).length := by
  conv => rhs; rw [← List.take_append_drop k ps, List.flatMap_append, List.length_append]
  omega
theorem flat_next (ps : List PartD) (k : Nat) (h : k < ps.length) : (ps.take (k + 1)).flatMap partB = (ps.take k).flatMap partB ++ partB ps[k] := by
  rw [List.take_succ_eq_append_getElem h, List.flatMap_append]
  simp
set_option maxHeartbeats 8000000 in
set_option maxRecDepth 100000 in
theorem wordK_any (t : TokD) (A' : Option Addr) (c' B : Nat) (at_ : Int) (b : Nat) (l : List UInt8) (w0 w : World) (h : TxtAt w0 b l w) (hr : Reads w0 B 3 A' t.parts.length (t.parts.flatMap partC)) (hB : B ≤ w0.heap.size) (hn : t.parts.length ≤ 1000) (hx : ∀ p ∈ t.parts, p.text.length ≤ 1000) (hm : MaxAt w0) (hl : l.length + (wordB (bareT t)).length ≤ 100000000000000) :
    Calls Tryd.prog 15 #[.agg #[.string (str t.op), .slice A' t.parts.length c', .int .i64 at_], .pointer (some ⟨b, 0, none⟩)] w fun e w' => e = .returned (.tuple #[]) ∧ TxtAt w0 b (l ++ wordB (bareT t)) w' ∧ KeepB w w' := by
  obtain ⟨op, ps, ta⟩ := t
  dsimp only at hr hn hx hl ⊢
  have HW := hide (show wordB (bareT ⟨op, ps, ta⟩) = ps.flatMap partB ++ [44] from rfl)
  rw [HW.out] at hl ⊢
  have hl2 : l.length + ((ps.flatMap partB).length + 1) ≤ 100000000000000 := by simpa using hl
  have HR := hide hr
  have HX := hide hx
  have HM := hide hm
  have HT := hide (h.ext ((Ext.refl w).alloc (.cells #[.string (str op), .slice A' ps.length c', .int .i64 at_] 47)))
  have HK := hide (KeepB.of ((Ext.refl w).alloc (.cells #[.string (str op), .slice A' ps.length c', .int .i64 at_] 47)))
  have hb9 := Blk.new w 47 #[.string (str op), .slice A' ps.length c', .int .i64 at_]
  generalize str op = So at *
  clear hr hx hm h hl
  go_enter Tryd.func15, Tryd.ntmps15
  go_upto_region 1 with fail
  generalize w.alloc (.cells #[.string So, .slice A' ps.length c', .int .i64 at_] 47) = W at *
  generalize w.heap.size = gt at *
  have z1 : W.cell? ⟨gt, 1, none⟩ = some (.slice A' ps.length c') := hb9.cell 1
  clear hb9
  go_wp2_with fail
  clear z1
  go_loopw [8] (WRel w0 b l ps w) (fun i _ => ps.length - (intOf i).toNat)
  case atStart => exact ⟨0, Nat.zero_le _, rfl, by simpa using HT.out, HK.out⟩
  case round =>
    obtain ⟨k, hk, rfl, ht, hkp⟩ := hrel
    have HT1 := hide ht
    have HK1 := hide hkp
    clear ht hkp HT HK
    by_cases hlt : k < ps.length
    · obtain ⟨b2, off, rfl, hb2⟩ := HR.out.addr (by omega) (by omega)
      have hx0 := HT1.out.from_
      have q0 := hx0.cell (Reads.elem partC_len HR.out k hlt (by omega) 0 (by omega) rfl)
      have q1 := hx0.cell (Reads.elem partC_len HR.out k hlt (by omega) 1 (by omega) rfl)
      have q2 := hx0.cell (Reads.elem partC_len HR.out k hlt (by omega) 2 (by omega) rfl)
      rw [Nat.add_zero] at q0
      have hpx := HX.out ps[k] (List.getElem_mem hlt)
      have HNX := hide (flat_next ps k hlt)
      have hl3 := flat_len_le ps (k + 1)
      rw [HNX.out, List.length_append] at hl3
      generalize ps[k] = p at *
      obtain ⟨tx, v, q⟩ := p
      dsimp only at q0 q1 q2 hpx
      have HPB := hide (show partB ⟨tx, v, q⟩ = quoteL tx ++ ((if v = true then [118] else []) ++ (if q = true then [113] else [])) from rfl)
      have hl4 : (partB ⟨tx, v, q⟩).length = (quoteL tx).length + ((if v = true then [118] else ([] : List UInt8)).length + (if q = true then [113] else ([] : List UInt8)).length) := by rw [HPB.out, List.length_append, List.length_append]
      have HQ := hide (fun (W : World) (hm : MaxAt W) => quote_any tx (by omega) W hm)
      have hb9 := Blk.new wr partT #[.string (str tx), .bool v, .bool q]
      have HXB := hide ((Ext.refl wr).alloc (.cells #[.string (str tx), .bool v, .bool q] partT))
      generalize str tx = TX at *
      generalize quoteL tx = qt at *
      generalize hlp : (ps.take k).flatMap partB = pre at *
      go_upto_region 4 with fail
      generalize wr.alloc (.cells #[.string TX, .bool v, .bool q] partT) = W1 at *
      generalize wr.heap.size = gp at *
      have z0 : W1.cell? ⟨gp, 0, none⟩ = some (.string TX) := hb9.cell 0
      have HB9 := hide hb9
      have HT2 := hide (HT1.out.ext HXB.out)
      have HK2 := hide (HK1.out.trans (KeepB.of HXB.out))
      clear hb9 q0 q1 q2 HXB HT1 HK1 hx0 hlp
      go_wp2_with fail
      refine (HQ.out W1 (HM.out.ext HT2.out.from_)).mono ?_
      rintro e W2 ⟨rfl, hx2⟩
      have HT3 := hide (HT2.out.ext hx2)
      have HB3 := hide (HB9.out.ext hx2)
      have HK3 := hide (HK2.out.trans (KeepB.of hx2))
      clear hx2 HT2 HK2 HB9 z0
      go_wp2_with fail
      refine (wr_any w0 b _ qt _ W2 rfl HT3.out (by rw [List.length_append]; omega)).mono ?_
      rintro e W3 ⟨rfl, ht4, hk4⟩
      have HT4 := hide ht4
      have hb4 := hk4 _ _ _ (by decide) (by decide) HB3.out
      have HK4 := hide (HK3.out.trans hk4)
      have z1 : W3.cell? ⟨gp, 1, none⟩ = some (.bool v) := hb4.cell 1
      have z2 : W3.cell? ⟨gp, 2, none⟩ = some (.bool q) := hb4.cell 2
      have HB4 := hide hb4
      clear ht4 hk4 hb4 HT3 HK3 HB3 HQ
      cases v
      case' true =>
        go_wp2_with fail
        refine (wr_any w0 b _ [118] _ W3 rfl HT4.out (by simp only [List.length_append, List.length_cons, List.length_nil] at hl4 ⊢; simp at hl4; omega)).mono ?_
        rintro e W4 ⟨rfl, ht5, hk5⟩
        obtain ⟨vx, hvx⟩ : ∃ vx : List UInt8, vx = [118] := ⟨_, rfl⟩
        rw [← hvx] at ht5
        have HVX := hide (show partB ⟨tx, true, q⟩ = qt ++ (vx ++ (if q = true then [113] else [])) by rw [HPB.out, hvx]; rfl)
        have HT5 := hide ht5
        have HK5 := hide (HK4.out.trans hk5)
        have z3 : W4.cell? ⟨gp, 2, none⟩ = some (.bool q) := (hk5 _ _ _ (by decide) (by decide) HB4.out).cell 2
        clear ht5 hk5 hvx
      case' false =>
        obtain ⟨vx, hvx⟩ : ∃ vx : List UInt8, vx = [] := ⟨_, rfl⟩
        have HVX := hide (show partB ⟨tx, false, q⟩ = qt ++ (vx ++ (if q = true then [113] else [])) by rw [HPB.out, hvx]; rfl)
        have HT5 := hide (show TxtAt w0 b (l ++ pre ++ qt ++ vx) W3 by rw [hvx, List.append_nil]; exact HT4.out)
        have HK5 := HK4
        clear hvx
        go_upto_region 7 with fail
        have z3 := z2
        generalize W3 = W4 at *
      all_goals
        have hl5 : (l ++ pre ++ qt ++ vx).length + (if q = true then [113] else ([] : List UInt8)).length ≤ 100000000000000 := by
          have := congrArg List.length HVX.out
          simp only [List.length_append] at this ⊢
          omega
        clear HT4 HK4 HB4
        cases q
        case' true =>
          go_wp2_with fail
          refine (wr_any w0 b _ [113] _ W4 rfl HT5.out (by simpa using hl5)).mono ?_
          rintro e W5 ⟨rfl, ht6, hk6⟩
          have HT6 := hide (show TxtAt w0 b (l ++ (ps.take (k + 1)).flatMap partB) W5 by
            rw [HNX.out, HVX.out]
            simpa using ht6)
          have HK6 := hide (HK5.out.trans hk6)
          clear ht6 hk6
        case' false =>
          have HT6 := hide (show TxtAt w0 b (l ++ (ps.take (k + 1)).flatMap partB) W4 by
            rw [HNX.out, HVX.out]
            simpa using HT5.out)
          have HK6 := HK5
          generalize W4 = W5 at *
        all_goals
          clear HT5 HK5 hl5
          go_wp2_with fail
          go_roundw
          case rel => exact ⟨k + 1, by omega, by go_num, HT6.out, HK6.out⟩
          case measure => simp [intOf]; omega
    · obtain rfl : k = ps.length := by omega
      have HT2 := hide (show TxtAt w0 b (l ++ ps.flatMap partB) wr by have := HT1.out; rwa [List.take_length] at this)
      go_wp2_with fail
      refine (wr_any w0 b _ [44] _ wr rfl HT2.out (by simp only [List.length_append, List.length_cons, List.length_nil]; omega)).mono ?_
      rintro e W3 ⟨rfl, ht4, hk4⟩
      have HT4 := hide (show TxtAt w0 b (l ++ (ps.flatMap partB ++ [44])) W3 by rw [← List.append_assoc]; exact ht4)
      have HK4 := hide (HK1.out.trans hk4)
      clear ht4 hk4
      go_wp2_with fail
      first | ((first | go_end0 | ((try simp only [Exit.inBlock, Exit.then]); refine bodyPost_ret (results_none rfl _ _ _) rfl ?_))) | skip
      exact ⟨rfl, HT4.out, HK4.out⟩
end Go.Proofs.YtjbgkcljjgofnaaDoor
