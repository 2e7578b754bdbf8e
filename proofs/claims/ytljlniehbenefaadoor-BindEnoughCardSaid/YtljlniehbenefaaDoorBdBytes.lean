/- The contract of bind.Bytes. -/
import Derived.Test.YtljlniehbenefaaDoorBdByP
import Derived.Test.YtljlniehbenefaaDoorBdPlaces
import Derived.Laws.OwnMore
namespace Go.Proofs.YtljlniehbenefaaDoor
open Go.RowKit
set_option linter.unusedVariables false

def By1Rel (w1 : World) (gm : Nat) (l : List PlD) (v31 : Value) (wr : World) : Prop := ∃ k : Nat, k ≤ l.length ∧ v31 = .int .i64 k ∧ MapSI wr gm k (atF (l.take k)) ∧ Ext w1 wr
/-- The bytes so far. -/
structure BySt (w2 : World) (g N : Nat) (bs : Bs) (w : World) : Prop where
  row : w.ownsRow w2.heap.size 5 1 (.slice (some ⟨g, 0, none⟩) N N) N (bytesV bs)
  ext : Ext w2 w
theorem BySt.len {w2 w : World} {g N : Nat} {bs : Bs} (h : BySt w2 g N bs w) : bs.length = N := by have := h.row.1; rw [bytesV_length] at this; omega
theorem BySt.lo {w2 w : World} {g N : Nat} {bs : Bs} (h : BySt w2 g N bs w) : w2.heap.size ≤ g := (h.row.lt g rfl).1
theorem BySt.to {w2 w w' : World} {g N : Nat} {bs : Bs} (h : BySt w2 g N bs w) (hx : Ext w w') : BySt w2 g N bs w' := ⟨hx.own h.row, h.ext.trans hx⟩
theorem BySt.set_ {w2 w : World} {g N : Nat} {bs : Bs} (h : BySt w2 g N bs w) (i : Nat) (x : UInt8) : BySt w2 g N (bs.set i x) (w.setCell ⟨g, i, none⟩ (.int .u8 (x.toNat : Int))) := by
  have h1 := own_set h.row i (.int .u8 (x.toNat : Int))
  rw [bytesV_set'] at h1
  exact ⟨h1, h.ext.setCell (p := ⟨g, i, none⟩) h.lo _⟩
def By2Rel (w2 : World) (g N : Nat) (os : List ObX) (at_ : Bs → Option Int) (F : Option Bs) (v51 : Value) (wr : World) : Prop :=
  ∃ (i : Nat) (bs : Bs), i ≤ os.length ∧ v51 = .int .i64 i ∧ bytesG at_ (cAt os) (dAt os) (os.drop i) i bs = F ∧ BySt w2 g N bs wr
/-- While a part's words are written: its box, its words. -/
structure By3St (w2 : World) (g N : Nat) (gb : Nat) (ob : Array Value) (bw : Nat) (Aw : Option Addr) (cw : Nat) (Wd : List Nat) (L : Nat) (bs : Bs) (w : World) : Prop where
  st : BySt w2 g N bs w
  box : Blk w gb obT ob
  row : w.ownsRow bw 31 1 (.slice Aw L cw) L (codeV Wd)
  ne : Value.ownBlock (.slice Aw L cw) ≠ some g
  neb : gb ≠ g
theorem By3St.to {w2 w w' : World} {g N gb bw cw L : Nat} {ob : Array Value} {Aw : Option Addr} {Wd : List Nat} {bs : Bs} (h : By3St w2 g N gb ob bw Aw cw Wd L bs w) (hx : Ext w w') : By3St w2 g N gb ob bw Aw cw Wd L bs w' := ⟨h.st.to hx, h.box.ext hx, hx.own h.row, h.ne, h.neb⟩
theorem By3St.set_ {w2 w : World} {g N gb bw cw L : Nat} {ob : Array Value} {Aw : Option Addr} {Wd : List Nat} {bs : Bs} (h : By3St w2 g N gb ob bw Aw cw Wd L bs w) (i : Nat) (x : UInt8) : By3St w2 g N gb ob bw Aw cw Wd L (bs.set i x) (w.setCell ⟨g, i, none⟩ (.int .u8 (x.toNat : Int))) :=
  ⟨h.st.set_ i x, h.box.far (p := ⟨g, i, none⟩) h.neb _, own_far h.row (p := ⟨g, i, none⟩) h.ne _, h.ne, h.neb⟩
def By3Rel (w2 : World) (g N gb : Nat) (ob : Array Value) (bw : Nat) (Aw : Option Addr) (cw : Nat) (Wd : List Nat) (L : Nat) (bs : Bs) (c : Nat) (v72 : Value) (wr : World) : Prop :=
  ∃ k : Nat, k ≤ L ∧ v72 = .int .i64 k ∧ By3St w2 g N gb ob bw Aw cw Wd L (splice bs c ((Wd.take k).flatMap w4)) wr
def By4Rel (w2 : World) (g N gb : Nat) (ob : Array Value) (bw : Nat) (Aw : Option Addr) (cw : Nat) (Wd : List Nat) (L : Nat) (bs : Bs) (c : Nat) (l : Bs) (x : Nat) (v77 : Value) (wr : World) : Prop :=
  ∃ b : Nat, b ≤ 4 ∧ v77 = .int .i64 b ∧ By3St w2 g N gb ob bw Aw cw Wd L (splice bs c (l ++ (w4 x).take b)) wr
def opB27 : Op := Op.load 36 (Operand.tmp 106)
theorem opB27_eq : opB27 = Op.load 36 (Operand.tmp 106) := rfl
def BytesOut (w : World) (ps : List ObX) (e : Ending) (w' : World) : Prop :=
  Ext w w' ∧ ((∃ S bs A c, placesP ps = some S ∧ bytesP ps S = some bs ∧ bs.length = endL ps ∧ e = .returned (.tuple #[.slice A (endL ps) c, .int .i64 0]) ∧ w'.ownsRow w.heap.size 5 1 (.slice A (endL ps) c) (endL ps) (bytesV bs))
    ∨ (placesP ps = none ∧ e = .returned (.tuple #[.slice none 0 0, .int .i64 5])) ∨ (∃ S, placesP ps = some S ∧ bytesP ps S = none ∧ e = .returned (.tuple #[.slice none 0 0, .int .i64 4])))
theorem u8_info2 : (Tryd.prog.info? 5).map (fun i => (i.zero, i.size, i.bytes)) = some (some (.int .u8 0), 1, 1) := by kernel_rfl
theorem made_bytes (n : Nat) : (madeCells (Value.int .u8 0).cells (n * 1)).toList = bytesV (List.replicate n 0) := by
  show (madeCells #[Value.int .u8 0] (n * 1)).toList = _
  rw [toList_madeCells_one, Nat.mul_one]
  simp [bytesV]
theorem words_some {o : ObD} {v : ObV} {beg gm K : Nat} {at_ : Bs → Option Int} {w : World} {W : List Nat} (h : ObRd w o v) (hck : ChkOk o) (hsm : ObSm o) (hbeg : beg ≤ 10000) (hm : MapSI w gm K at_) (hat : ∀ s t, at_ s = some t → 0 ≤ t ∧ t < 30000) (hW : wordsP at_ beg o.needs o.code = some W) :
    Calls Tryd.prog 32 #[.agg v.cells, .int .i64 (beg : Int), .map (some gm)] w fun e w' => ∃ A c, e = .returned (.tuple #[.slice A W.length c, .int .i64 0]) ∧ (∀ x ∈ W, x < 4294967296) ∧ W.length = o.code.length ∧ w'.ownsRow w.heap.size 31 1 (.slice A W.length c) W.length (codeV W) ∧ Ext w w' :=
  (words_any o v beg gm K at_ w h hck hsm hbeg hm hat).mono (by
    rintro e w' ⟨hx, ⟨W', A, c, hW', hl, hb, rfl, ho⟩ | ⟨hN, -⟩⟩
    · rw [hW] at hW'
      injection hW' with hW'
      subst hW'
      rw [hl]
      exact ⟨A, c, rfl, hb, rfl, ho, hx⟩
    · rw [hW] at hN; cases hN)
theorem words_none {o : ObD} {v : ObV} {beg gm K : Nat} {at_ : Bs → Option Int} {w : World} (h : ObRd w o v) (hck : ChkOk o) (hsm : ObSm o) (hbeg : beg ≤ 10000) (hm : MapSI w gm K at_) (hat : ∀ s t, at_ s = some t → 0 ≤ t ∧ t < 30000) (hW : wordsP at_ beg o.needs o.code = none) :
    Calls Tryd.prog 32 #[.agg v.cells, .int .i64 (beg : Int), .map (some gm)] w fun e w' => e = .returned (.tuple #[.slice none 0 0, .int .i64 4]) ∧ Ext w w' :=
  (words_any o v beg gm K at_ w h hck hsm hbeg hm hat).mono (by
    rintro e w' ⟨hx, ⟨W', A, c, hW', -⟩ | ⟨-, rfl⟩⟩
    · rw [hW] at hW'; cases hW'
    · exact ⟨rfl, hx⟩)
set_option maxHeartbeats 16000000 in
set_option maxRecDepth 100000 in
theorem bytes_any (A : Option Addr) (n c : Nat) (ps : List ObX) (w : World) (h : Good w A n ps) (hn : n ≤ 12) (hfit : endL ps ≤ 1024) :
    Calls Tryd.prog 16 #[.slice A n c] w (BytesOut w ps) := by
  obtain ⟨i0, hi0, hz0, hz1, hz2⟩ := info_parts u8_info2
  have HG := hide h
  have hpl := h.len
  have HFIT := hide hfit
  have HPC := hide (places_any A n c ps w h hn hfit)
  clear h
  go_enter Tryd.func16, Tryd.ntmps16
  go_wp2_with fail
  refine HPC.out.mono ?_
  rintro e w1 ⟨hx1, ⟨S, Ap, cp, hS, rfl, ho1⟩ | ⟨hS, rfl⟩⟩
  case inr =>
    have HX1 := hide hx1
    have HSN := hide hS
    clear hx1 hS HPC
    go_wp2_with fail
    exact bodyPost_ret (v := .tuple #[.slice none 0 0, .int .i64 5]) (by simp [results, Tryd.results16, go_sem]) rfl ⟨HX1.out, .inr (.inl ⟨HSN.out, rfl⟩)⟩
  case inl =>
    have HX1 := hide hx1
    have HS := hide hS
    have HRP := hide (Reads.of_own ho1)
    have HAD := hide (places_addr hS HG.out.chk (by omega) hfit)
    have hmm := @run_makeMap Tryd.prog
    have HM0 := hide (MapSI.made w1)
    have HXM := hide ((Ext.refl w1).alloc (.map #[] 0))
    have hmx : S.out.length ≤ maxLen := (Nat.le_trans (own_le ho1).1 (own_le ho1).2)
    unfold maxLen at hmx
    clear hx1 hS ho1 HPC
    go_upto_region 5 with fail
    clear hmm
    generalize w1.alloc (.map #[] 0) = W1 at *
    generalize hgm : w1.heap.size = gm at *
    go_wp2_with fail
    go_loopw [31] (By1Rel w1 gm S.out) (fun i _ => S.out.length - (intOf i).toNat)
    case atStart => exact ⟨0, Nat.zero_le _, rfl, HM0.out, HXM.out⟩
    case round =>
      obtain ⟨k, hk, rfl, hm, hx⟩ := hrel
      have HM := hide hm
      have HX := hide hx
      clear hm hx HM0 HXM
      by_cases hlt : k < S.out.length
      · obtain ⟨b, off, rfl, -⟩ := HRP.out.addr (by omega) (by omega)
        have q0 := HX.out.cell (Reads.elem plC_len HRP.out k hlt (by omega) 0 (by omega) rfl)
        have q1 := HX.out.cell (Reads.elem plC_len HRP.out k hlt (by omega) 1 (by omega) rfl)
        have q2 := HX.out.cell (Reads.elem plC_len HRP.out k hlt (by omega) 2 (by omega) rfl)
        rw [Nat.add_zero] at q0
        have haz := HAD.out _ (List.getElem_mem hlt)
        have HNX := hide (atF_next S.out k hlt)
        generalize S.out[k] = x at *
        obtain ⟨nm, part, az⟩ := x
        dsimp only at q0 q1 q2 haz HNX
        have hb9 := Blk.new wr plT #[.string (str nm), .int .i64 (part : Int), .int .i64 az]
        have hx9 := (Ext.refl wr).alloc (.cells #[.string (str nm), .int .i64 (part : Int), .int .i64 az] plT)
        obtain ⟨W11, hrun1, hm11, hg11⟩ := (HM.out.ext hx9).store (show k < maxLen by simp only [maxLen]; omega) nm (by simp only [maxLen]; omega) az (by omega) (by omega)
        rw [← HNX.out] at hm11
        have HM11 := hide hm11
        have HX11 := hide ((HX.out.trans hx9).grown hg11 (fun j hj => by injection hj with hj; omega))
        clear hm11 hg11 hx9 HX HM
        go_upto_region 8 with fail
        generalize wr.alloc (.cells #[.string (str nm), .int .i64 (part : Int), .int .i64 az] plT) = W9 at *
        generalize wr.heap.size = gp at *
        have p0 : W9.cell? ⟨gp, 0, none⟩ = some (.string (str nm)) := hb9.cell 0
        have p2 : W9.cell? ⟨gp, 2, none⟩ = some (.int .i64 az) := hb9.cell 2
        clear q0 q1 q2 hb9
        go_wp2_with fail
        go_roundw
        case rel => exact ⟨k + 1, by omega, by go_num, HM11.out, HX11.out⟩
        case measure => simp [intOf]; omega
      · obtain rfl : k = S.out.length := by omega
        have HAT := hide (atF_bd HAD.out)
        have HM2 := hide (show MapSI wr gm S.out.length (atF S.out) by have := HM.out; rwa [List.take_length] at this)
        have HXW := hide (HX1.out.trans HX.out)
        have HSP := hide (spots_any A n c ps wr (HG.out.ext HXW.out) hn hfit)
        clear HM HRP HAD HX1 HX
        obtain ⟨F, hF⟩ : ∃ F, bytesP ps S = F := ⟨_, rfl⟩
        have HF := hide hF
        clear hF
        generalize S.out.length = K at *
        obtain ⟨at_, hat⟩ : ∃ at_, atF S.out = at_ := ⟨_, rfl⟩
        have HF2 := hide (show bytesG at_ (cAt ps) (dAt ps) ps 0 (List.replicate (endL ps) 0) = F by rw [← hat]; exact HF.out)
        rw [hat] at HM2 HAT
        clear hat
        go_wp2_with fail
        refine HSP.out.mono ?_
        rintro e w2 ⟨As, cs, rfl, ho2, hx2⟩
        have HM3 := hide (HM2.out.ext hx2)
        have HRS := hide (Reads.of_own ho2)
        have HXW2 := hide (HXW.out.trans hx2)
        obtain ⟨w3, hmk, ho3, hg3⟩ := run_makeSlice_full (P := Tryd.prog) (w := w2) w2.heap.size 36 5 i0 (.int .u8 0) 1 Tryd.underlying36 hi0 hz0 hz1 .i64 .i64 (endL ps) (by omega) (by rw [hz2]; omega) (by simp only [maxLen]; omega) (Nat.le_refl _)
        rw [made_bytes] at ho3
        have HBY := hide (show BySt w2 w2.heap.size (endL ps) (List.replicate (endL ps) 0) w3 from ⟨ho3, (Ext.refl w2).grown hg3 (fun k hk => by cases hk)⟩)
        clear ho2 hx2 ho3 hg3 HM2 HSP HXW
        have hcb := cLen_bd HG.out.chk (by omega)
        have HCB := hide (fun i => Nat.le_trans (cAt_le ps i) (Nat.add_le_add_left hcb 16))
        clear hcb
        generalize w2.heap.size = g12 at *
        obtain ⟨N, hN⟩ : ∃ N, endL ps = N := ⟨_, rfl⟩
        have HN := hide hN
        rw [hN] at HBY hfit HFIT
        rw [hN] at hmk
        rw [hN]
        go_upto_region 12 with fail
        clear hmk
        go_wp2_with fail
        go_loopw [51] (By2Rel w2 g12 N ps at_ F) (fun i _ => n - (intOf i).toNat)
        case atStart => exact ⟨0, List.replicate N 0, Nat.zero_le _, rfl, by have := HF2.out; rwa [HN.out] at this, HBY.out⟩
        case round =>
          obtain ⟨i, bs, hi, rfl, hrun, hst⟩ := hrel
          have HRUN := hide hrun
          have HST := hide hst
          clear hrun hst HBY HF2
          by_cases hlt2 : i < n
          · obtain ⟨b, off, o, v, hi', rfl, hpi, hrd, hck, hsm, q0, q1, q2, q3⟩ := HG.out.at_ i hlt2
            have HRU := HRUN
            rw [bytesG_drop _ _ _ _ _ hi', hpi] at HRU
            have hcf := code_fits ps i hi'
            have hdf := data_fits ps i hi'
            rw [hpi, HN.out] at hcf hdf
            obtain ⟨A1, n1, c1, A2, n2, c2, A3, n3, c3, A4, n4, c4⟩ := v
            have hl1 : o.code.length = n1 := hrd.l1
            have hl2 : o.data.length = n2 := hrd.l2
            have hca := HCB.out i
            have hsl : i < (spotsL ps).length := by simp [spotsL]; omega
            obtain ⟨bp, op, rfl, hbp⟩ := HRS.out.addr (by omega) (by omega)
            have s0 := HST.out.ext.cell (Reads.elem spC_len HRS.out i hsl (by omega) 0 (by omega) rfl)
            have s1 := HST.out.ext.cell (Reads.elem spC_len HRS.out i hsl (by omega) 1 (by omega) rfl)
            rw [Nat.add_zero, show (spotsL ps)[i] = (cAt ps i, dAt ps i) by simp [spotsL]] at s0
            rw [show (spotsL ps)[i] = (cAt ps i, dAt ps i) by simp [spotsL]] at s1
            have HXR := hide (HXW2.out.trans HST.out.ext)
            have q0 := HXR.out.cell q0
            have q1 := HXR.out.cell q1
            have q2 := HXR.out.cell q2
            have q3 := HXR.out.cell q3
            dsimp only at q0 q1 q2 q3 s0 s1 hcf hdf
            rw [hl1] at hcf
            rw [hl2] at hdf
            have hx9 := (Ext.refl wr).alloc (.cells #[.slice A1 n1 c1, .slice A2 n2 c2, .slice A3 n3 c3, .slice A4 n4 c4] obT)
            have hb9 := Blk.new wr obT #[.slice A1 n1 c1, .slice A2 n2 c2, .slice A3 n3 c3, .slice A4 n4 c4]
            have s0 := hx9.cell s0
            have s1 := hx9.cell s1
            have HRD0 := hide hrd
            have HRD := hide ((hrd.ext HXR.out).ext hx9)
            have HM9 := hide ((HM3.out.ext HST.out.ext).ext hx9)
            have HST9 := hide (HST.out.to hx9)
            have HCK := hide hck
            have HSM := hide hsm
            generalize hcg : cAt ps i = ca at *
            generalize hdg : dAt ps i = da at *
            clear hrd hck hsm hpi hx9 HST HRUN HXR
            go_upto_region 15 with fail
            generalize wr.alloc (.cells #[.slice A1 n1 c1, .slice A2 n2 c2, .slice A3 n3 c3, .slice A4 n4 c4] obT) = W at *
            generalize wr.heap.size = gb at *
            clear q0 q1 q2 q3
            have HB9 := hide hb9
            have p0 : W.cell? ⟨gb, 0, none⟩ = some (.slice A1 n1 c1) := hb9.cell 0
            have p1 : W.cell? ⟨gb, 1, none⟩ = some (.slice A2 n2 c2) := hb9.cell 1
            have p2 : W.cell? ⟨gb, 2, none⟩ = some (.slice A3 n3 c3) := hb9.cell 2
            have p3 : W.cell? ⟨gb, 3, none⟩ = some (.slice A4 n4 c4) := hb9.cell 3
            clear hb9
            cases hW : wordsP at_ ca o.needs o.code with
            | none =>
              have HFN := hide (show F = none by rw [← HRU.out, hW]; rfl)
              have HWC := hide (fun (W' : World) (hx : Ext W W') => words_none (HRD.out.ext hx) HCK.out HSM.out (by omega) (HM9.out.ext hx) HAT.out hW)
              have HXF := hide (HXW2.out.trans HST9.out.ext)
              clear hW HRU
              go_region_held3 (fun w' => w'.cell? ⟨gb, 0, none⟩ = some (.slice A1 n1 c1) ∧ w'.cell? ⟨gb, 1, none⟩ = some (.slice A2 n2 c2) ∧ w'.cell? ⟨gb, 2, none⟩ = some (.slice A3 n3 c3) ∧ w'.cell? ⟨gb, 3, none⟩ = some (.slice A4 n4 c4) ∧ w'.cell? ⟨bp, op + i * 2, none⟩ = some (.int .i64 (ca : Int)))
                (first | exact ⟨p0, p1, p2, p3, s0⟩ | (refine ⟨Ext.cell (w := W) ?_ p0, Ext.cell (w := W) ?_ p1, Ext.cell (w := W) ?_ p2, Ext.cell (w := W) ?_ p3, Ext.cell (w := W) ?_ s0⟩ <;> ((repeat (first | with_reducible exact Ext.refl _ | with_reducible assumption | with_reducible refine Ext.alloc ?_ _ | with_reducible refine Ext.drew ?_ | with_reducible refine Ext.drewN ?_ _ | with_reducible refine Ext.setCell ?_ (by first | exact Nat.le_refl _ | assumption | (simp; done) | omega) _ | with_reducible refine Ext.trans ?_ (by with_reducible assumption))); done)) | fail)
                (first
                  | (go_at_call_of 32 (Value.agg #[.slice A1 n1 c1, .slice A2 n2 c2, .slice A3 n3 c3, .slice A4 n4 c4]); refine (HWC.out _ (by ((repeat (first | with_reducible exact Ext.refl _ | with_reducible assumption | with_reducible refine Ext.alloc ?_ _ | with_reducible refine Ext.drew ?_ | with_reducible refine Ext.drewN ?_ _ | with_reducible refine Ext.setCell ?_ (by first | exact Nat.le_refl _ | assumption | (simp; done) | omega) _ | with_reducible refine Ext.trans ?_ (by with_reducible assumption))); done))).mono ?_; rintro e w6 ⟨rfl, hx6⟩; have HX6 := hide (Ext.trans (a := W) (by ((repeat (first | with_reducible exact Ext.refl _ | with_reducible assumption | with_reducible refine Ext.alloc ?_ _ | with_reducible refine Ext.drew ?_ | with_reducible refine Ext.drewN ?_ _ | with_reducible refine Ext.setCell ?_ (by first | exact Nat.le_refl _ | assumption | (simp; done) | omega) _ | with_reducible refine Ext.trans ?_ (by with_reducible assumption))); done)) hx6))
                  | fail)
              go_wp2_with fail
              exact bodyPost_ret (v := .tuple #[.slice none 0 0, .int .i64 4]) (by simp [results, Tryd.results16, go_sem]) rfl ⟨HXF.out.trans HX6.out, .inr (.inr ⟨S, HS.out, by rw [HF.out, HFN.out], rfl⟩)⟩
            | some Wd =>
              have HWC := hide (fun (W' : World) (hx : Ext W W') => words_some (HRD.out.ext hx) HCK.out HSM.out (by omega) (HM9.out.ext hx) HAT.out hW)
              have HRU2 := hide (show bytesG at_ (cAt ps) (dAt ps) (ps.drop (i + 1)) (i + 1) (splice (splice bs ca (Wd.flatMap w4)) da o.data) = F by
                have h1 := HRU.out
                rw [hW] at h1
                exact h1)
              clear hW HRU
              go_region_held3 (fun w' => w'.cell? ⟨gb, 0, none⟩ = some (.slice A1 n1 c1) ∧ w'.cell? ⟨gb, 1, none⟩ = some (.slice A2 n2 c2) ∧ w'.cell? ⟨gb, 2, none⟩ = some (.slice A3 n3 c3) ∧ w'.cell? ⟨gb, 3, none⟩ = some (.slice A4 n4 c4) ∧ w'.cell? ⟨bp, op + i * 2, none⟩ = some (.int .i64 (ca : Int)))
                (first | exact ⟨p0, p1, p2, p3, s0⟩ | (refine ⟨Ext.cell (w := W) ?_ p0, Ext.cell (w := W) ?_ p1, Ext.cell (w := W) ?_ p2, Ext.cell (w := W) ?_ p3, Ext.cell (w := W) ?_ s0⟩ <;> ((repeat (first | with_reducible exact Ext.refl _ | with_reducible assumption | with_reducible refine Ext.alloc ?_ _ | with_reducible refine Ext.drew ?_ | with_reducible refine Ext.drewN ?_ _ | with_reducible refine Ext.setCell ?_ (by first | exact Nat.le_refl _ | assumption | (simp; done) | omega) _ | with_reducible refine Ext.trans ?_ (by with_reducible assumption))); done)) | fail)
                (first
                  | (go_at_call_of 32 (Value.agg #[.slice A1 n1 c1, .slice A2 n2 c2, .slice A3 n3 c3, .slice A4 n4 c4]); refine (HWC.out _ (by ((repeat (first | with_reducible exact Ext.refl _ | with_reducible assumption | with_reducible refine Ext.alloc ?_ _ | with_reducible refine Ext.drew ?_ | with_reducible refine Ext.drewN ?_ _ | with_reducible refine Ext.setCell ?_ (by first | exact Nat.le_refl _ | assumption | (simp; done) | omega) _ | with_reducible refine Ext.trans ?_ (by with_reducible assumption))); done))).mono ?_; rintro e w6 ⟨Aw, cw, rfl, hwb, hwl, how, hx6⟩; have HX6 := hide (Ext.trans (a := W) (by ((repeat (first | with_reducible exact Ext.refl _ | with_reducible assumption | with_reducible refine Ext.alloc ?_ _ | with_reducible refine Ext.drew ?_ | with_reducible refine Ext.drewN ?_ _ | with_reducible refine Ext.setCell ?_ (by first | exact Nat.le_refl _ | assumption | (simp; done) | omega) _ | with_reducible refine Ext.trans ?_ (by with_reducible assumption))); done)) hx6); have HWB := hide hwb; have HOW := hide (own_mono how (Ext.size (w := W) (by ((repeat (first | with_reducible exact Ext.refl _ | with_reducible assumption | with_reducible refine Ext.alloc ?_ _ | with_reducible refine Ext.drew ?_ | with_reducible refine Ext.drewN ?_ _ | with_reducible refine Ext.setCell ?_ (by first | exact Nat.le_refl _ | assumption | (simp; done) | omega) _ | with_reducible refine Ext.trans ?_ (by with_reducible assumption))); done)))); have HWL := hide hwl; clear hwb hwl how)
                  | fail)
              have HST6 := hide (HST9.out.to HX6.out)
              have HB6 := hide (HB9.out.ext HX6.out)
              have s0' := HX6.out.cell s0
              have s1' := HX6.out.cell s1
              have HRW := hide (Reads.of_own HOW.out)
              obtain ⟨ob, hob⟩ : ∃ ob : Array Value, ob = #[.slice A1 n1 c1, .slice A2 n2 c2, .slice A3 n3 c3, .slice A4 n4 c4] := ⟨_, rfl⟩
              have HOB := hide hob
              rw [← hob] at HB6
              have hwn : Wd.length = n1 := by rw [HWL.out]; exact hl1
              have hg9 := HST9.out.lo
              have hgl := (HST9.out.row.lt g12 rfl).2
              have HS3 := hide (show By3St w2 g12 N gb ob _ Aw cw Wd Wd.length (splice bs ca (([] : List Nat).flatMap w4)) w6 from
                ⟨by rw [List.flatMap_nil, splice_nil]; exact HST6.out, HB6.out, HOW.out, fun e => by have := (HOW.out.lt g12 e).1; omega, fun e => by have := HST9.out.row; exact own_blk_ne this HB9.out (by decide) (by rw [e]; rfl)⟩)
              have HLW := hide hwn
              have HBL := hide HST6.out.len
              clear hob p0 p1 p2 p3 s0 s1 s0' s1' HWC HB9 HST9 HWL HOW HST6 HB6 HRW hwn hg9 hgl
              generalize W.heap.size = bw at *
              obtain ⟨L, hL⟩ : ∃ L, Wd.length = L := ⟨_, rfl⟩
              have HLL := hide hL
              rw [hL] at HS3 HLW
              rw [hL]
              have hLb : L ≤ 1024 := by have := HLW.out; omega
              clear hL
              go_wp2_with fail
              go_loopw [72] (By3Rel w2 g12 N gb ob bw Aw cw Wd L bs ca) (fun i _ => L - (intOf i).toNat)
              case atStart => exact ⟨0, Nat.zero_le _, rfl, HS3.out⟩
              case round =>
                obtain ⟨k, hk, rfl, hst⟩ := hrel
                have HST := hide hst
                clear hst HS3
                by_cases hlt3 : k < L
                · have hkl : k < Wd.length := by rw [HLL.out]; exact hlt3
                  obtain ⟨bA, rfl, hA1, hA2, hA3, hA4⟩ := own_addr HST.out.row (by omega)
                  obtain ⟨x0, -⟩ := own_cell HST.out.row k (List.getElem?_eq_getElem (by rw [codeV_len]; exact hkl))
                  rw [show (codeV Wd)[k]'(by rw [codeV_len]; exact hkl) = .int .u32 (Wd[k] : Int) by simp [codeV]] at x0
                  have hxb := HWB.out _ (List.getElem_mem hkl)
                  have HNX := hide (show (Wd.take (k + 1)).flatMap w4 = (Wd.take k).flatMap w4 ++ w4 Wd[k] by rw [List.take_succ_eq_append_getElem hkl, List.flatMap_append, List.flatMap_cons, List.flatMap_nil, List.append_nil])
                  have HTL := hide (show ((Wd.take k).flatMap w4).length = 4 * k by rw [w4_flat_len, List.length_take]; omega)
                  generalize Wd[k] = x at *
                  generalize (Wd.take k).flatMap w4 = l at *
                  go_wp2_with fail
                  go_loopw [77] (By4Rel w2 g12 N gb ob bw (some ⟨bA, 0, none⟩) cw Wd L bs ca l x) (fun i _ => 4 - (intOf i).toNat)
                  case atStart => exact ⟨0, by omega, rfl, by rw [List.take_zero, List.append_nil]; exact HST.out⟩
                  case round =>
                    obtain ⟨q, hq, rfl, hst⟩ := hrel
                    have HST4 := hide hst
                    clear hst HST x0
                    by_cases hlt4 : q < 4
                    · obtain ⟨m, hm⟩ : ∃ m, ca + 4 * k + q = m := ⟨_, rfl⟩
                      have hidx : m < N := by have := HLW.out; omega
                      obtain ⟨y0, fy0⟩ := own_cell HST4.out.st.row m (List.getElem?_eq_getElem (by rw [bytesV_length, HST4.out.st.len]; exact hidx))
                      have s0 := HST4.out.st.ext.cell (Reads.elem spC_len HRS.out i hsl (by omega) 0 (by omega) rfl)
                      rw [Nat.add_zero, show (spotsL ps)[i] = (ca, da) by simp [spotsL, hcg, hdg]] at s0
                      dsimp only at s0
                      have HSET := hide (fun (y : UInt8) => HST4.out.set_ m y)
                      have HSP := hide (show ∀ y, (w4 x)[q]? = some y → (splice bs ca (l ++ (w4 x).take q)).set m y = splice bs ca (l ++ (w4 x).take (q + 1)) by
                        intro y hy
                        obtain ⟨hq', rfl⟩ := List.getElem?_eq_some_iff.1 hy
                        have hln : (l ++ (w4 x).take q).length = 4 * k + q := by rw [List.length_append, HTL.out, List.length_take, w4_len]; omega
                        rw [show m = ca + (l ++ (w4 x).take q).length by rw [hln]; omega, splice_set _ _ _ _ (by rw [hln, HBL.out]; omega), List.take_succ_eq_append_getElem hq', List.append_assoc])
                      generalize splice bs ca (l ++ (w4 x).take q) = bs4 at *
                      have h256 : (u8N x).toNat = x % 256 ∧ (u8N (x / 256)).toNat = x / 256 % 256 ∧ (u8N (x / 65536)).toNat = x / 65536 % 256 ∧ (u8N (x / 16777216)).toNat = x / 16777216 % 256 := ⟨u8N_nat _, u8N_nat _, u8N_nat _, u8N_nat _⟩
                      have HBN := hide (show bs4.length = N from HST4.out.st.len)
                      rcases (show q = 0 ∨ q = 1 ∨ q = 2 ∨ q = 3 by omega) with rfl | rfl | rfl | rfl
                      · have HST5 := hide (HSET.out (u8N x))
                        rw [HSP.out _ rfl, h256.1] at HST5
                        have hw0 : IntKind.i64.wrap 0 = 0 := rfl
                        have hw1 : IntKind.i64.wrap (4 * (k : Int)) = 4 * (k : Int) := by rw [IntKind.wrap_i64]; omega
                        have hw2 : IntKind.i64.wrap ((ca : Int) + 4 * (k : Int)) = (m : Int) := by rw [IntKind.wrap_i64]; omega
                        have hw3 : IntKind.i64.wrap (m : Int) = (m : Int) := by rw [IntKind.wrap_i64]; omega
                        obtain ⟨vz, hvz⟩ : ∃ vz : Nat, x % 256 = vz := ⟨_, rfl⟩
                        have hv8 : IntKind.u8.wrap (x : Int) = (vz : Int) := by rw [IntKind.wrap_u8]; omega
                        rw [hvz] at HST5
                        clear HSET HSP h256 hlt4 hq hvz
                        go_upto_region 24 with fail
                        go_region_held3 (fun w' => w'.cell? ⟨bp, op + i * 2, none⟩ = some (.int .i64 (ca : Int))) (first | exact s0 | exact far1 s0 (show g12 ≠ bp by omega) _ | fail) (fail)
                        all_goals
                          have HST6 := hide (HST5.out.to ((Ext.refl _).drew))
                          clear s0 y0 fy0 hw0 hw1 hw2 hw3 hv8
                          go_wp2_with fail
                          go_roundw
                          case rel => exact ⟨1, by omega, by go_num, HST6.out⟩
                          case measure => simp [intOf]
                      · have HST5 := hide (HSET.out (u8N (x / 256)))
                        rw [HSP.out _ rfl, h256.2.1] at HST5
                        have hw0 : IntKind.i64.wrap 8 = 8 := rfl
                        have hw1 : IntKind.i64.wrap (4 * (k : Int)) = 4 * (k : Int) := by rw [IntKind.wrap_i64]; omega
                        have hw2 : IntKind.i64.wrap ((ca : Int) + 4 * (k : Int)) = (ca : Int) + 4 * (k : Int) := by rw [IntKind.wrap_i64]; omega
                        have hw3 : IntKind.i64.wrap ((ca : Int) + 4 * (k : Int) + 1) = (m : Int) := by rw [IntKind.wrap_i64]; omega
                        obtain ⟨vz, hvz⟩ : ∃ vz : Nat, x / 256 % 256 = vz := ⟨_, rfl⟩
                        have hv8 : IntKind.u8.wrap ((x : Int) / 256) = (vz : Int) := by rw [IntKind.wrap_u8]; omega
                        rw [hvz] at HST5
                        clear HSET HSP h256 hlt4 hq hvz
                        go_upto_region 24 with fail
                        go_region_held3 (fun w' => w'.cell? ⟨bp, op + i * 2, none⟩ = some (.int .i64 (ca : Int))) (first | exact s0 | exact far1 s0 (show g12 ≠ bp by omega) _ | fail) (fail)
                        all_goals
                          have HST6 := hide (HST5.out.to ((Ext.refl _).drew))
                          clear s0 y0 fy0 hw0 hw1 hw2 hw3 hv8
                          go_wp2_with fail
                          go_roundw
                          case rel => exact ⟨2, by omega, by go_num, HST6.out⟩
                          case measure => simp [intOf]
                      · have HST5 := hide (HSET.out (u8N (x / 65536)))
                        rw [HSP.out _ rfl, h256.2.2.1] at HST5
                        have hw0 : IntKind.i64.wrap 16 = 16 := rfl
                        have hw1 : IntKind.i64.wrap (4 * (k : Int)) = 4 * (k : Int) := by rw [IntKind.wrap_i64]; omega
                        have hw2 : IntKind.i64.wrap ((ca : Int) + 4 * (k : Int)) = (ca : Int) + 4 * (k : Int) := by rw [IntKind.wrap_i64]; omega
                        have hw3 : IntKind.i64.wrap ((ca : Int) + 4 * (k : Int) + 2) = (m : Int) := by rw [IntKind.wrap_i64]; omega
                        obtain ⟨vz, hvz⟩ : ∃ vz : Nat, x / 65536 % 256 = vz := ⟨_, rfl⟩
                        have hv8 : IntKind.u8.wrap ((x : Int) / 65536) = (vz : Int) := by rw [IntKind.wrap_u8]; omega
                        rw [hvz] at HST5
                        clear HSET HSP h256 hlt4 hq hvz
                        go_upto_region 24 with fail
                        go_region_held3 (fun w' => w'.cell? ⟨bp, op + i * 2, none⟩ = some (.int .i64 (ca : Int))) (first | exact s0 | exact far1 s0 (show g12 ≠ bp by omega) _ | fail) (fail)
                        all_goals
                          have HST6 := hide (HST5.out.to ((Ext.refl _).drew))
                          clear s0 y0 fy0 hw0 hw1 hw2 hw3 hv8
                          go_wp2_with fail
                          go_roundw
                          case rel => exact ⟨3, by omega, by go_num, HST6.out⟩
                          case measure => simp [intOf]
                      · have HST5 := hide (HSET.out (u8N (x / 16777216)))
                        rw [HSP.out _ rfl, h256.2.2.2] at HST5
                        have hw0 : IntKind.i64.wrap 24 = 24 := rfl
                        have hw1 : IntKind.i64.wrap (4 * (k : Int)) = 4 * (k : Int) := by rw [IntKind.wrap_i64]; omega
                        have hw2 : IntKind.i64.wrap ((ca : Int) + 4 * (k : Int)) = (ca : Int) + 4 * (k : Int) := by rw [IntKind.wrap_i64]; omega
                        have hw3 : IntKind.i64.wrap ((ca : Int) + 4 * (k : Int) + 3) = (m : Int) := by rw [IntKind.wrap_i64]; omega
                        obtain ⟨vz, hvz⟩ : ∃ vz : Nat, x / 16777216 % 256 = vz := ⟨_, rfl⟩
                        have hv8 : IntKind.u8.wrap ((x : Int) / 16777216) = (vz : Int) := by rw [IntKind.wrap_u8]; omega
                        rw [hvz] at HST5
                        clear HSET HSP h256 hlt4 hq hvz
                        go_upto_region 24 with fail
                        go_region_held3 (fun w' => w'.cell? ⟨bp, op + i * 2, none⟩ = some (.int .i64 (ca : Int))) (first | exact s0 | exact far1 s0 (show g12 ≠ bp by omega) _ | fail) (fail)
                        all_goals
                          have HST6 := hide (HST5.out.to ((Ext.refl _).drew))
                          clear s0 y0 fy0 hw0 hw1 hw2 hw3 hv8
                          go_wp2_with fail
                          go_roundw
                          case rel => exact ⟨4, by omega, by go_num, HST6.out⟩
                          case measure => simp [intOf]
                    · obtain rfl : q = 4 := by omega
                      have HSN := hide (show By3St w2 g12 N gb ob bw (some ⟨bA, 0, none⟩) cw Wd L (splice bs ca ((Wd.take (k + 1)).flatMap w4)) wr by rw [HNX.out]; exact HST4.out)
                      go_wp2_with fail
                      go_roundw
                      case rel => exact ⟨k + 1, by omega, by go_num, HSN.out⟩
                      case measure => simp [intOf]; omega
                · obtain rfl : k = L := by omega
                  have HSN := hide (show By3St w2 g12 N gb ob bw Aw cw Wd k (splice bs ca (Wd.flatMap w4)) wr by have := HST.out; rwa [List.take_of_length_le (by rw [HLL.out]; exact Nat.le_refl _)] at this)
                  clear HST
                  generalize splice bs ca (Wd.flatMap w4) = bs1 at *
                  have hbx := HSN.out.box
                  rw [HOB.out] at hbx
                  have p1 : wr.cell? ⟨gb, 1, none⟩ = some (.slice A2 n2 c2) := hbx.cell 1
                  have s1 := HSN.out.st.ext.cell (Reads.elem spC_len HRS.out i hsl (by omega) 1 (by omega) rfl)
                  rw [show (spotsL ps)[i] = (ca, da) by simp [spotsL, hcg, hdg]] at s1
                  dsimp only at s1
                  have s1w : w2.cell? ⟨bp, op + i * 2 + 1, none⟩ = some (.int .i64 (da : Int)) := by
                    have := Reads.elem spC_len HRS.out i hsl (by omega) 1 (by omega) rfl
                    rw [show (spotsL ps)[i] = (ca, da) by simp [spotsL, hcg, hdg]] at this
                    exact this
                  have HD := hide ((HXW2.out.trans HSN.out.st.ext).reads HRD0.out.data (Nat.le_refl _))
                  dsimp only at HD
                  obtain ⟨dp, hcut, hdp⟩ := cut_own (P := Tryd.prog) Tryd.underlying36 hi0 hz1 g12 N da (by omega) .i64
                  have HDP := hide hdp
                  have HBL1 := hide HSN.out.st.len
                  obtain ⟨cur, hcur⟩ : ∃ cur : List Value, cur = bytesV bs1 := ⟨_, rfl⟩
                  obtain ⟨src, hsrc⟩ : ∃ src : List Value, src = bytesV o.data := ⟨_, rfl⟩
                  have HCUR := hide hcur
                  have HSRC := hide hsrc
                  have HFULL := hide (show wr.heap[g12]? = some (.cells cur.toArray 5 (0, 0)) by rw [hcur]; exact own_full HSN.out.st.row)
                  have HCL := hide (show cur.length = N by rw [hcur, bytesV_length]; exact HBL1.out)
                  have HSL := hide (show src.length = n2 by rw [hsrc, bytesV_length]; exact hl2)
                  have HMN := hide (show src.length = Nat.min n2 (N - da) by rw [HSL.out]; exact (Nat.min_eq_left (show n2 ≤ N - da by omega)).symm)
                  have HCELL := hide (show ∀ wx, Ext wr wx → 0 < src.length → dp = some ⟨g12, da, none⟩ ∧ ∃ ad, A2 = some ad ∧ ∀ j v, src[j]? = some v → wx.cell? (ad.add j) = some v by
                    intro wx hx h0
                    rw [HSL.out] at h0
                    obtain ⟨ad, e2, hb2, hc2⟩ := HD.out.2 h0
                    refine ⟨HDP.out (by omega), ad, e2, fun j v hv => hx.cell (hc2 j v ?_)⟩
                    rw [← HSRC.out]
                    exact hv)
                  clear hcur hsrc hbx hdp
                  go_upto_region 27 with fail
                  rw [← opB27_eq]
                  have hOp := opB27_eq
                  have m1 : wr.drew.cell? ⟨gb, 1, none⟩ = some (.slice A2 n2 c2) := p1
                  have m2 : wr.drew.drew.cell? ⟨gb, 1, none⟩ = some (.slice A2 n2 c2) := p1
                  go_region_held3 (fun w' => w'.cell? ⟨bp, op + i * 2 + 1, none⟩ = some (.int .i64 (da : Int))) (first | exact s1 | exact k9 | fail)
                    (first
                      | (refine step_copy_splice (by rfl) (.tmp 105) (.tmp 107) 36 36 (by rfl) 5 Tryd.underlying36 (by kernel_rfl) dp A2 (N - da) (N - da) n2 c2 (by rfl) (by rfl) g12 da cur 5 HFULL.out src HMN.out (HCELL.out _ (by ((repeat (first | with_reducible exact Ext.refl _ | with_reducible assumption | with_reducible refine Ext.alloc ?_ _ | with_reducible refine Ext.drew ?_ | with_reducible refine Ext.drewN ?_ _ | with_reducible refine Ext.setCell ?_ (by first | exact Nat.le_refl _ | assumption | (simp; done) | omega) _ | with_reducible refine Ext.trans ?_ (by with_reducible assumption))); done))) (by rw [HSL.out, HCL.out]; exact hdf) (by rw [HSRC.out]; exact bytesV_one _) w2.heap.size w2 (HSN.out.st.ext.trans (show Ext wr _ by ((repeat (first | with_reducible exact Ext.refl _ | with_reducible assumption | with_reducible refine Ext.alloc ?_ _ | with_reducible refine Ext.drew ?_ | with_reducible refine Ext.drewN ?_ _ | with_reducible refine Ext.setCell ?_ (by first | exact Nat.le_refl _ | assumption | (simp; done) | omega) _ | with_reducible refine Ext.trans ?_ (by with_reducible assumption))); done))) HSN.out.st.lo ?_; intro w4x hg4 hb4; have HG4 := hide hg4; have HB4 := hide (show Ext w2 w4x from hb4); have k9 : w4x.cell? ⟨bp, op + i * 2 + 1, none⟩ = some (.int .i64 (da : Int)) := (show Ext w2 w4x from hb4).cell (s1w))
                      | fail)
                  all_goals
                    have HSTN := hide (show BySt w2 g12 N (splice bs1 da o.data) w4x from ⟨full_own (by have := HG4.out; rwa [HCUR.out, HSRC.out, bytesV_splice] at this) (by rw [bytesV_length, length_splice _ _ _ (by rw [HBL1.out, hl2]; exact hdf)]; exact HBL1.out) HSN.out.st.lo (by simp only [maxLen]; omega), HB4.out⟩)
                    clear hg4 hb4 k9 m1 m2 p1 s1 s1w hOp
                    go_wp2_with fail
                    go_roundw
                    case rel => exact ⟨i + 1, splice bs1 da o.data, by omega, by go_num, HRU2.out, HSTN.out⟩
                    case measure => simp [intOf]; omega
          · obtain rfl : i = n := by omega
            have HFN := hide (show bytesP ps S = some bs by rw [HF.out, ← HRUN.out, List.drop_of_length_le (by omega)]; rfl)
            have HLO := hide (own_mono HST.out.row HXW2.out.size)
            have HXF := hide (HXW2.out.trans HST.out.ext)
            have HBL := hide HST.out.len
            clear HRUN
            go_wp2_with fail
            exact bodyPost_ret (v := .tuple #[.slice (some ⟨g12, 0, none⟩) N N, .int .i64 0]) (by simp [results, Tryd.results16, go_sem]) rfl ⟨HXF.out, .inl ⟨S, bs, some ⟨g12, 0, none⟩, N, HS.out, HFN.out, by rw [HN.out]; exact HBL.out, by rw [HN.out], by rw [HN.out]; exact HLO.out⟩⟩
end Go.Proofs.YtljlniehbenefaaDoor
