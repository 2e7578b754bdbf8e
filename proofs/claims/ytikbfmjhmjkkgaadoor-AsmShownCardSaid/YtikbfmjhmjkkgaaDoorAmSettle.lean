/- The contract of (*Unit).settle. -/
import Derived.Test.YtikbfmjhmjkkgaaDoorAmPlace
import Derived.Test.YtikbfmjhmjkkgaaDoorAmMap
import Derived.Test.YtikbfmjhmjkkgaaDoorAmMark
namespace Go.Proofs.YtikbfmjhmjkkgaaDoor
open Go.RowKit Go.Maps
set_option linter.unusedVariables false

theorem own_addrA {w : World} {base size n c : Nat} {e : TypeId} {A : Option Addr} {xs : List Value} (h : w.ownsRow base e size (.slice A n c) n xs) (hn : 0 < n) : ∃ g, A = some ⟨g, 0, none⟩ ∧ base ≤ g := by
  obtain ⟨g, cap, hv, hb, hlt⟩ := h.form hn
  injection hv with hA
  exact ⟨g, hA, hb⟩
/-- A unit that may be settled. -/
structure Sane (u : UnD) : Prop where
  nd : ∀ n ∈ u.needs, (∃ i, i < u.code.length ∧ n.1 = 4 * i) ∧ n.2.1.length ≤ 4000
  ms : ∀ m ∈ u.marks, m.2 ≤ 1000 ∧ m.1.length ≤ 4000
  wd : ∀ x ∈ u.code, x ≤ 4294967295
  c1 : u.code.length ≤ 200
  c2 : u.needs.length ≤ 200
  c3 : u.marks.length ≤ 2100
def stK (u : UnD) (k : Nat) : List Nat × List (Nat × Bs × Nat) := (u.needs.take k).foldl (settleS u.marks) (u.code, [])
theorem stK_next (u : UnD) (k : Nat) (h : k < u.needs.length) : stK u (k + 1) = settleS u.marks (stK u k) u.needs[k] := by
  unfold stK
  rw [List.take_succ_eq_append_getElem h, List.foldl_append]
  rfl
theorem atM_next (ms : List (Bs × Nat)) (k : Nat) (h : k < ms.length) : atM (ms.take (k + 1)) = updS (atM (ms.take k)) (ms[k]).1 (some ((ms[k]).2 : Int)) := by
  unfold atM
  rw [List.take_succ_eq_append_getElem h, List.foldl_append]
  rfl
theorem atM_some (ms : List (Bs × Nat)) : ∀ (s : Bs) (z : Int), atM ms s = some z → ∃ m ∈ ms, z = (m.2 : Int) := by
  have h : ∀ (ms : List (Bs × Nat)) (f : Bs → Option Int), ∀ (s : Bs) (z : Int), ms.foldl (fun f m => updS f m.1 (some (m.2 : Int))) f s = some z → (∃ m ∈ ms, z = (m.2 : Int)) ∨ f s = some z := by
    intro ms
    induction ms with
    | nil => intro f s z h; exact .inr h
    | cons m ms ih =>
      intro f s z h
      rcases ih _ s z h with ⟨m', hm, e⟩ | h
      · exact .inl ⟨m', by simp [hm], e⟩
      · have h' : (if s = m.1 then some (m.2 : Int) else f s) = some z := h
        clear h
        rename_i h0
        have h := h'
        split at h
        · injection h with h; exact .inl ⟨m, by simp, h.symm⟩
        · exact .inr h
  intro s z hz
  rcases h ms _ s z hz with h | h
  · exact h
  · cases h
theorem MapSI.ne_own {w : World} {b k base size n : Nat} {f : Bs → Option Int} {e : TypeId} {v : Value} {xs : List Value} (h : MapSI w b k f) (ho : w.ownsRow base e size v n xs) : v.ownBlock ≠ some b := by
  rcases ho.2 with ⟨rfl, _⟩ | ⟨g, cap, cur, rfl, _, hh, _⟩
  · simp [Value.ownBlock]
  · intro hg
    have : g = b := by simpa [Value.ownBlock] using hg
    subst this
    obtain ⟨D, ⟨es, clock, hb, -⟩, -⟩ := h
    rw [hb] at hh
    cases hh
theorem grown_set {w wr : World} {g i : Nat} {u : Value} (h : w.grownBy wr (some g)) : w.grownBy (wr.setCell ⟨g, i, none⟩ u) (some g) :=
  ⟨h.os, h.tape, h.output, by simpa using h.size, fun k hk hne => (Below.heap_setCell wr ⟨g, i, none⟩ u k (fun e => hne (by rw [e]))).trans (h.block k hk hne)⟩
theorem grown_ext {w wr w' : World} {row : Option Nat} (h : w.grownBy wr row) (hx : Ext wr w') : w.grownBy w' row :=
  ⟨hx.os.trans h.os, hx.tape.trans h.tape, hx.output.trans h.output, Nat.le_trans h.size hx.size, fun k hk hne => (hx.block k (Nat.lt_of_lt_of_le hk h.size)).trans (h.block k hk hne)⟩
theorem own_lower {w : World} {base base' size n : Nat} {e : TypeId} {v : Value} {xs : List Value} (h : w.ownsRow base e size v n xs) (hb : base' ≤ base) : w.ownsRow base' e size v n xs := by
  refine ⟨h.1, ?_⟩
  rcases h.2 with h0 | ⟨g, cap, cur, hv, hg, hr⟩
  · exact .inl h0
  · exact .inr ⟨g, cap, cur, hv, Nat.le_trans hb hg, hr⟩
def opLdC : Op := Op.load 33 (Operand.tmp 68)
theorem opLdC_eq : opLdC = Op.load 33 (Operand.tmp 68) := rfl
theorem wrap_sm (i : Nat) (h : i < 1000) : IntKind.i64.wrap (i : Int) = (i : Int) := by rw [IntKind.wrap_i64]; omega
theorem placeN_le (x p t : Nat) (hx : x ≤ 4294967295) : placeN x p t ≤ 4294967295 := by
  unfold placeN
  split
  · omega
  · omega
theorem u32V_set (l : List Nat) (i x : Nat) : u32V (l.set i x) = (u32V l).set i (.int .u32 (x : Int)) := by simp [u32V, List.map_set]
def SeA (w : World) (u : UnD) (n2 bm : Nat) (v : Value) (wr : World) : Prop := ∃ k : Nat, k ≤ n2 ∧ v = .int .i64 (k : Int) ∧ Ext w wr ∧ MapSI wr bm k (atM (u.marks.take k))
def SeB (w0 w : World) (u : UnD) (A1 : Option Addr) (n1 c1 n3 bm n2 : Nat) (v5 v31 : Value) (wr : World) : Prop :=
  ∃ (k : Nat) (A5 : Option Addr) (n5 c5 : Nat), k ≤ n3 ∧ v31 = .int .i64 (k : Int) ∧ v5 = .slice A5 n5 c5 ∧ n5 ≤ k ∧ wr.ownsRow w.heap.size ndT 3 (.slice A5 n5 c5) n5 ((stK u k).2.flatMap needC) ∧ (stK u k).2.length = n5 ∧
    wr.ownsRow w0.heap.size wdT 1 (.slice A1 n1 c1) n1 (u32V (stK u k).1) ∧ w.grownBy wr (Value.ownBlock (.slice A1 n1 c1)) ∧ MapSI wr bm n2 (atM u.marks) ∧ (∀ x ∈ (stK u k).1, x ≤ 4294967295)
set_option maxHeartbeats 16000000 in
set_option maxRecDepth 100000 in
theorem settle_any (w0 wk : World) (gu : Nat) (u : UnD) (w : World) (h : UnOk w0 wk gu u w) (hs : Sane u) :
    Calls Tryd.prog 17 #[.pointer (some ⟨gu, 0, none⟩)] w fun e w' => e = .returned (.tuple #[]) ∧ UnOk w0 wk gu (settleL u) w' := by
  obtain ⟨i0, hi0, hz0, hz1, hz2⟩ := info_parts need_info
  obtain ⟨n1, n2, n3, A1, A2, A3, c1, c2, c3, h⟩ := h
  have HU := hide h
  have HS := hide hs
  have hb1 : n1 ≤ 200 := by rw [← h.l1]; exact hs.c1
  have hb2 : n2 ≤ 2100 := by rw [← h.l2]; exact hs.c3
  have hb3 : n3 ≤ 200 := by rw [← h.l3]; exact hs.c2
  have q1 : w.cell? ⟨gu, 1, none⟩ = some (.slice A2 n2 c2) := h.box.cell 1
  have hmm := @run_makeMap Tryd.prog
  have hb := MapSI.made w
  clear h hs
  go_enter Tryd.func17, Tryd.ntmps17
  go_upto_region 1 with fail
  have HX0 := hide ((Ext.refl w).alloc (.map #[] 0))
  have HM0 := hide hb
  have q1' := HX0.out.cell q1
  have HBM := hide (Nat.le_refl w.heap.size)
  generalize w.alloc (.map #[] 0) = W0 at *
  obtain ⟨bm, hbm⟩ : ∃ x, w.heap.size = x := ⟨_, rfl⟩
  have HBM := hide (show w.heap.size ≤ bm by omega)
  rw [hbm] at HM0 ⊢
  clear hbm hb hmm q1
  go_wp2_with fail
  clear q1'
  go_loopw [16] (SeA w u n2 bm) (fun v _ => n2 - (intOf v).toNat)
  case atStart => exact ⟨0, Nat.zero_le _, rfl, HX0.out, HM0.out⟩
  case round =>
    obtain ⟨k, hk, rfl, hx, hm⟩ := hrel
    have HX := hide hx
    have HM := hide hm
    clear hx hm
    by_cases hlt : k < n2
    · have hkl : k < u.marks.length := by rw [HU.out.l2]; exact hlt
      have hrd := HX.out.reads (Reads.of_own HU.out.rm) (Nat.le_refl _)
      obtain ⟨b, off, rfl, -⟩ := hrd.addr (by omega) (by omega)
      have y0 := Reads.elem markC_len hrd k hkl (by omega) 0 (by omega) (u := .string (str (u.marks[k]).1)) rfl
      have y1 := Reads.elem markC_len hrd k hkl (by omega) 1 (by omega) (u := .int .i64 ((u.marks[k]).2 : Int)) rfl
      rw [Nat.add_zero] at y0
      have HNX := hide (atM_next u.marks k hkl)
      have hms := HS.out.ms _ (List.getElem_mem hkl)
      generalize (u.marks[k]).1 = nm at *
      generalize (u.marks[k]).2 = pt at *
      have HB9 := hide (Blk.new wr mkT #[.string (str nm), .int .i64 (pt : Int)])
      have HX9 := hide ((Ext.refl wr).alloc (.cells #[.string (str nm), .int .i64 (pt : Int)] mkT))
      go_upto_region 4 with fail
      generalize wr.alloc (.cells #[.string (str nm), .int .i64 (pt : Int)] mkT) = W9 at *
      obtain ⟨g9, hg9⟩ : ∃ x, wr.heap.size = x := ⟨_, rfl⟩
      rw [hg9] at HB9 ⊢
      have z0 : W9.cell? ⟨g9, 0, none⟩ = some (.string (str nm)) := HB9.out.cell 0
      have z1 : W9.cell? ⟨g9, 1, none⟩ = some (.int .i64 (pt : Int)) := HB9.out.cell 1
      obtain ⟨W8, hput, hm8, hg8⟩ := (HM.out.ext HX9.out).store (by simp only [maxLen]; omega) nm (Nat.le_trans hms.2 (by simp [maxLen])) (pt : Int) (by omega) (by omega)
      have HM8 := hide hm8
      have HX8 := hide ((HX.out.trans HX9.out).grown hg8 (fun j hj => by injection hj with hj; rw [← hj]; exact HBM.out))
      clear y0 y1 hrd hkl hms hm8 hg8 hg9
      go_wp2_with fail
      go_roundw
      case rel => exact ⟨k + 1, by omega, by go_num, HX8.out, by rw [HNX.out]; exact HM8.out⟩
      case measure => simp [intOf]; omega
    · obtain rfl : k = n2 := by omega
      have hall : u.marks.take k = u.marks := List.take_of_length_le (by rw [HU.out.l2]; exact Nat.le_refl _)
      rw [hall] at HM
      clear hall hlt
      have q2 : wr.cell? ⟨gu, 2, none⟩ = some (.slice A3 n3 c3) := HX.out.cell (HU.out.box.cell 2)
      go_wp2_with fail
      clear q2
      go_loopw [5, 31] (SeB w0 w u A1 n1 c1 n3 bm k) (fun _ v _ => n3 - (intOf v).toNat)
      case atStart => exact ⟨0, none, 0, 0, Nat.zero_le _, rfl, rfl, Nat.le_refl _, World.ownsRow_nil _ _ _ _, rfl, HX.out.own HU.out.rc, ⟨HX.out.os, HX.out.tape, HX.out.output, HX.out.size, fun k hk _ => HX.out.block k hk⟩, HM.out, HS.out.wd⟩
      case round =>
        obtain ⟨q, A5, n5, c5, hq, rfl, rfl, hn5, ho5, hl5, hrc, hgr, hmp, hwd⟩ := hrel
        have HO5 := hide ho5
        have HL5 := hide hl5
        have HRC := hide hrc
        have HGR := hide hgr
        have HMP := hide hmp
        have HWD := hide hwd
        have hrn := own_keptB HU.out.rn hgr (fun j hj e => own_own_ne HU.out.rn HU.out.rc (by decide) j hj e)
        have HRN := hide hrn
        clear ho5 hl5 hrc hgr hmp hwd hrn
        by_cases hlt : q < n3
        · have hql : q < u.needs.length := by rw [HU.out.l3]; exact hlt
          have hrd := Reads.of_own HRN.out
          obtain ⟨b, off, rfl, -⟩ := hrd.addr (by omega) (by omega)
          obtain ⟨nd, hnd⟩ : ∃ nd, u.needs[q] = nd := ⟨_, rfl⟩
          have y0 := Reads.elem needC_len hrd q hql (by omega) 0 (by omega) (u := .int .i64 ((u.needs[q]).1 : Int)) rfl
          have y1 := Reads.elem needC_len hrd q hql (by omega) 1 (by omega) (u := .string (str (u.needs[q]).2.1)) rfl
          have y2 := Reads.elem needC_len hrd q hql (by omega) 2 (by omega) (u := .int .i64 ((u.needs[q]).2.2 : Int)) rfl
          rw [Nat.add_zero] at y0
          have hnx := stK_next u q hql
          have hsn := HS.out.nd _ (List.getElem_mem hql)
          rw [hnd] at y0 y1 y2 hnx hsn
          obtain ⟨pt, nm, kd⟩ := nd
          dsimp only at y0 y1 y2 hsn
          obtain ⟨⟨i, hi, hpt⟩, hnl⟩ := hsn
          have hi1 : i < n1 := by rw [← HU.out.l1]; exact hi
          have HPT := hide hpt
          have hpb : pt ≤ 1000 := by omega
          clear hpt
          have HB9 := hide (Blk.new wr ndT #[.int .i64 (pt : Int), .string (str nm), .int .i64 (kd : Int)])
          have HX9 := hide ((Ext.refl wr).alloc (.cells #[.int .i64 (pt : Int), .string (str nm), .int .i64 (kd : Int)] ndT))
          go_upto_region 10 with fail
          generalize wr.alloc (.cells #[.int .i64 (pt : Int), .string (str nm), .int .i64 (kd : Int)] ndT) = W9 at *
          obtain ⟨g9, hg9⟩ : ∃ x, wr.heap.size = x := ⟨_, rfl⟩
          have HG9 := hide hg9
          rw [hg9] at HB9 ⊢
          have z0 : W9.cell? ⟨g9, 0, none⟩ = some (.int .i64 (pt : Int)) := HB9.out.cell 0
          have z1 : W9.cell? ⟨g9, 1, none⟩ = some (.string (str nm)) := HB9.out.cell 1
          have z2 : W9.cell? ⟨g9, 2, none⟩ = some (.int .i64 (kd : Int)) := HB9.out.cell 2
          have hlook := (HMP.out.ext HX9.out).look nm (Nat.le_trans hnl (by simp [maxLen]))
          have HNX := hide hnx
          clear y0 y1 y2 hrd hql hnd hnx hnl hg9 hi
          obtain ⟨at1, hat⟩ : ∃ x, atM u.marks nm = x := ⟨_, rfl⟩
          rw [hat] at hlook
          by_cases hpl : kd = 1 ∧ at1.isSome = true
          · -- placed
            obtain ⟨rfl, hsm⟩ := hpl
            obtain ⟨z, rfl⟩ := Option.isSome_iff_exists.1 hsm
            obtain ⟨m, hm, hz⟩ := atM_some u.marks nm z hat
            have hm2 := (HS.out.ms m hm).1
            generalize m.2 = tt at *
            subst hz
            have hlook2 : ∀ ty, ty = 80 → (Instr.lookup ty (.map (some bm)) (.string (str nm)) true).run Tryd.prog W9 = .ok (.tuple #[.int .i64 (tt : Int), .bool true]) W9 := fun ty h => by rw [h]; exact hlook
            have hlook3 := hlook2 _ rfl
            obtain ⟨g1, rfl, hg1b⟩ := own_addrA HRC.out (by omega)
            have hcl : (stK u q).1.length = n1 := by have := HRC.out.1; rw [u32V_len] at this; omega
            have hil : i < (stK u q).1.length := by omega
            obtain ⟨x, hx⟩ : ∃ x, (stK u q).1[i] = x := ⟨_, rfl⟩
            have hxb : x ≤ 4294967295 := by rw [← hx]; exact HWD.out _ (List.getElem_mem hil)
            have hcell := own_cell HRC.out i (u := .int .u32 (x : Int)) (by rw [u32V, List.getElem?_map, List.getElem?_eq_getElem hil, hx]; rfl)
            have hbx := HU.out.box.grown HGR.out (own_blk_ne HU.out.rc HU.out.box (by decide)).symm
            have hrc9 := HX9.out.own HRC.out
            have hne1 : g1 ≠ gu := fun e => own_blk_ne HRC.out hbx (by decide) (by rw [e]; rfl)
            have hne9 : g1 ≠ g9 := fun e => own_blk_ne hrc9 HB9.out (by decide) (by rw [e]; rfl)
            have x0 : W9.cell? ⟨gu, 0, none⟩ = some (.slice (some ⟨g1, 0, none⟩) n1 c1) := HX9.out.cell (hbx.cell 0)
            have x1 : W9.cell? ⟨g1, i, none⟩ = some (.int .u32 (x : Int)) := HX9.out.cell hcell.1
            have x2 : W9.drew.cell? ⟨g1, i, none⟩ = some (.int .u32 (x : Int)) := x1
            have xf : W9.frozen? ⟨g1, i, none⟩ = false := (HX9.out.frozen hcell.1).trans hcell.2
            have xf2 : W9.drew.frozen? ⟨g1, i, none⟩ = false := xf
            have HPL := hide (fun W => place_any x pt tt W hxb (by omega) (by omega))
            have hti : (pt : Int).tdiv 4 = (i : Int) := by rw [Int.tdiv_eq_ediv_of_nonneg (by omega)]; have := HPT.out; omega
            have hbi : -9223372036854775808 ≤ (pt : Int).tdiv 4 ∧ (pt : Int).tdiv 4 ≤ 9223372036854775807 := by rw [hti]; omega
            clear hti
            have hdv : (pt : Int) / 4 = (i : Int) := by have := HPT.out; omega
            have hwi := wrap_sm i (by omega)
            have hin : (i : Int) < (n1 : Int) := by omega
            have hnn : (0 : Int) ≤ (i : Int) := by omega
            have HEQ := hide (show stK u (q + 1) = ((stK u q).1.set i (placeN x pt tt), (stK u q).2) from by
              rw [HNX.out]
              unfold settleS
              dsimp only
              rw [hat]
              dsimp only
              rw [if_pos rfl, show pt / 4 = i by have := HPT.out; omega, List.getD_eq_getElem?_getD, List.getElem?_eq_getElem hil, hx]
              rfl)
            have HFW := hide (show (W9.setCell ⟨g1, i, none⟩ (.int .u32 (placeN x pt tt : Int))).ownsRow w.heap.size ndT 3 (.slice A5 n5 c5) n5 ((stK u q).2.flatMap needC) from
              own_far (HX9.out.own HO5.out) (p := ⟨g1, i, none⟩) (own_own_ne hrc9 (HX9.out.own HO5.out) (by decide) g1 rfl) _)
            have HFC := hide (show (W9.setCell ⟨g1, i, none⟩ (.int .u32 (placeN x pt tt : Int))).ownsRow w0.heap.size wdT 1 (.slice (some ⟨g1, 0, none⟩) n1 c1) n1 (u32V ((stK u q).1.set i (placeN x pt tt))) from by
              rw [u32V_set]; exact own_set hrc9 i _)
            have HFG := hide (show w.grownBy (W9.setCell ⟨g1, i, none⟩ (.int .u32 (placeN x pt tt : Int))) (some g1) from grown_set (grown_ext HGR.out HX9.out))
            have HFM := hide (show MapSI (W9.setCell ⟨g1, i, none⟩ (.int .u32 (placeN x pt tt : Int))) bm k (atM u.marks) from
              (HMP.out.ext HX9.out).far (p := ⟨g1, i, none⟩) (fun e => (HMP.out.ext HX9.out).ne_own hrc9 (by rw [e]; rfl)) _)
            have HFX := hide (show ∀ y ∈ (stK u q).1.set i (placeN x pt tt), y ≤ 4294967295 from fun y hy => by
              rcases List.mem_or_eq_of_mem_set hy with h | h
              · exact HWD.out y h
              · rw [h]; exact placeN_le x pt tt hxb)
            clear hlook hlook2 hat hsm hm hm2 hg1b hcl hil hx hxb hcell hbx hrc9
            go_upto_region 13 with fail
            generalize placeN x pt tt = pn at *
            rw [← opLdC_eq]
            have hOp := opLdC_eq
            go_region_held3 (fun w' => w'.cell? ⟨gu, 0, none⟩ = some (.slice (some ⟨g1, 0, none⟩) n1 c1) ∧ w'.cell? ⟨g9, 0, none⟩ = some (.int .i64 (pt : Int)))
              (first | exact ⟨x0, z0⟩ | exact ⟨far1 x0 hne1 _, far1 z0 hne9 _⟩ | fail)
              (first | (go_at_call_of 10 (Value.int IntKind.u32 (x : Int)); refine (HPL.out _).mono ?_; rintro e w6 ⟨rfl, rfl⟩) | fail)
            all_goals
              clear x0 x1 x2 xf xf2
              go_wp2_with fail
              go_roundw
              case rel =>
                refine ⟨q + 1, A5, n5, c5, by omega, by go_num, rfl, by omega, ?_, ?_, ?_, ?_, ?_, ?_⟩
                · rw [HEQ.out]; exact HFW.out
                · rw [HEQ.out]; exact HL5.out
                · rw [HEQ.out]; exact HFC.out
                · exact grown_ext HFG.out (Ext.refl _).drew
                · exact HFM.out.ext (Ext.refl _).drew
                · rw [HEQ.out]; exact HFX.out
              case measure => simp [intOf]; omega
          · have HEQ := hide (show stK u (q + 1) = ((stK u q).1, (stK u q).2 ++ [(pt, nm, kd)]) from by
              rw [HNX.out]
              unfold settleS
              dsimp only
              rw [hat]
              cases at1 with
              | none => rfl
              | some z =>
                dsimp only
                rw [if_neg (fun e => hpl ⟨e, rfl⟩)])
            have HRW := hide (rows_blk (Blk.new W9 ndT #[.int .i64 (pt : Int), .string (str nm), .int .i64 (kd : Int)]) 1 3 rfl)
            have HX8 := hide (HX9.out.trans ((Ext.refl W9).alloc (.cells #[.int .i64 (pt : Int), .string (str nm), .int .i64 (kd : Int)] ndT)))
            have hcond : ((kd : Int) != 1) = true ∨ (((kd : Int) != 1) = false ∧ at1.isSome = false) := by
              by_cases e : kd = 1
              · refine .inr ⟨by simp [e], ?_⟩
                cases h : at1.isSome with
                | true => exact absurd ⟨e, h⟩ hpl
                | false => rfl
              · exact .inl (by simp; omega)
            clear hpl hat
            generalize at1.isSome = iss at *
            generalize at1.getD 0 = atv at *
            rcases hcond with hc1 | ⟨hc1, rfl⟩
            all_goals
              go_wp2_with (at_builtin; refine wpList_append_any _ rfl (.tmp 49) (.tmp 51) 26 rfl w.heap.size ndT i0 _ 3 32 Tryd.underlying26 hi0 hz0 hz1 hz2 rfl (by omega) _ n5 ((stK u q).2.flatMap needC) rfl (HX8.out.own HO5.out) _ _ 1 1 [.int .i64 (pt : Int), .string (str nm), .int .i64 (kd : Int)] rfl HRW.out (by simp [Value.oneCell']) (by simp only [maxLen]; omega) (by omega) (Nat.le_trans HGR.out.size HX8.out.size) ?_; intro A7 c7 w7 ho7 hg7 ha7)
              have HO7 := hide ho7
              have HG7 := hide hg7
              clear ho7 hg7 ha7
              go_roundw
              case rel =>
                refine ⟨q + 1, A7, n5 + 1, c7, by omega, by go_num, rfl, by omega, ?_, ?_, ?_, ?_, ?_, ?_⟩
                · rw [HEQ.out, List.flatMap_append, List.flatMap_cons, List.flatMap_nil, List.append_nil]; exact HO7.out
                · rw [HEQ.out]; simp [HL5.out]
                · rw [HEQ.out]; exact own_keptB (HX8.out.own HRC.out) HG7.out (fun j hj e => own_own_ne (HX8.out.own HRC.out) (HX8.out.own HO5.out) (by decide) j hj e)
                · exact (grown_ext HGR.out HX8.out).andThen HG7.out (fun j hj => .inl ((HX8.out.own HO5.out).lt j hj).1)
                · exact (HMP.out.ext HX8.out).kept HG7.out (fun e => (HMP.out.ext HX8.out).ne_own (HX8.out.own HO5.out) e.symm)
                · rw [HEQ.out]; exact HWD.out
              case measure => simp [intOf]; omega
        · obtain rfl : q = n3 := by omega
          have hst : stK u q = u.needs.foldl (settleS u.marks) (u.code, []) := by unfold stK; rw [List.take_of_length_le (by rw [HU.out.l3]; exact Nat.le_refl _)]
          have hcl : (stK u q).1.length = n1 := by have := HRC.out.1; rw [u32V_len] at this; omega
          have hbx := HU.out.box.grown HGR.out (own_blk_ne HU.out.rc HU.out.box (by decide)).symm
          have hrm := own_keptB HU.out.rm HGR.out (fun j hj e => own_own_ne HU.out.rm HU.out.rc (by decide) j hj e)
          have d2 : wr.cell? ⟨gu, 2, none⟩ = some (.slice A3 q c3) := hbx.cell 2
          have f2 := hbx.frozen 2
          have HFI := hide (show UnOk w0 wk gu (settleL u) (wr.setCell ⟨gu, 2, none⟩ (.slice A5 n5 c5)) from by
            refine ⟨n1, k, n5, A1, A2, A5, c1, c2, c5, hbx.set_ 2 _, ?_, own_far hrm (p := ⟨gu, 2, none⟩) (own_blk_ne hrm hbx (by decide)) _, ?_, ?_, HU.out.l2, ?_, HU.out.gb, (HU.out.ext.grown HGR.out (fun k hk => (HU.out.rc.lt k hk).1)).setCell (p := ⟨gu, 2, none⟩) HU.out.gb _, HU.out.ks.trans (KeepS.grow (by decide) HGR.out HU.out.rc hbx)⟩
            · show World.ownsRow _ _ _ _ _ _ (u32V (u.needs.foldl (settleS u.marks) (u.code, [])).1)
              rw [← hst]
              exact own_far HRC.out (p := ⟨gu, 2, none⟩) (own_blk_ne HRC.out hbx (by decide)) _
            · show World.ownsRow _ _ _ _ _ _ ((u.needs.foldl (settleS u.marks) (u.code, [])).2.flatMap needC)
              rw [← hst]
              exact own_lower (own_far HO5.out (p := ⟨gu, 2, none⟩) (own_blk_ne HO5.out hbx (by decide)) _) HU.out.ext.size
            · show (u.needs.foldl (settleS u.marks) (u.code, [])).1.length = n1
              rw [← hst]; exact hcl
            · show (u.needs.foldl (settleS u.marks) (u.code, [])).2.length = n5
              rw [← hst]; exact HL5.out)
          clear hst hcl hbx hrm hlt
          go_wp2_with fail
          (first | go_end0 | ((try simp only [Exit.inBlock, Exit.then]); refine bodyPost_ret (results_none rfl _ _ _) rfl ?_))
          exact ⟨rfl, HFI.out⟩
end Go.Proofs.YtikbfmjhmjkkgaaDoor
