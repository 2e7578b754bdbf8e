/- The walk of BindWeak. -/
import Derived.Test.YtljlniehbenefaaBwPart
import Derived.Test.YtljlniehbenefaaRest
namespace Go.Proofs.Ytljlniehbenefaa
open Go.RowKit
set_option linter.unusedVariables false

theorem own_own_ne {w : World} {b1 b2 s1 s2 n1 n2 : Nat} {e1 e2 : TypeId} {v1 v2 : Value} {x1 x2 : List Value} (h1 : w.ownsRow b1 e1 s1 v1 n1 x1) (h2 : w.ownsRow b2 e2 s2 v2 n2 x2) (hne : e1 ≠ e2) (j : Nat) (hj : v1.ownBlock = some j) : v2.ownBlock ≠ some j := by
  rcases h1.2 with ⟨rfl, _⟩ | ⟨g, cap, cur, rfl, _, hh, _⟩
  · cases hj
  · have : g = j := by simpa [Value.ownBlock] using hj
    subst this
    exact own_blk_ne (t := e1) (g := g) (cs := cur) h2 hh (fun e => hne e.symm)
theorem own_keptB {w w' : World} {base size n : Nat} {e : TypeId} {v : Value} {xs : List Value} {row : Option Nat} (h : w.ownsRow base e size v n xs) (hg : w.grownBy w' row) (hne : ∀ j, v.ownBlock = some j → row ≠ some j) : w'.ownsRow base e size v n xs :=
  h.kept hg (by
    cases hv : v.ownBlock with
    | none => exact .inl rfl
    | some j => exact .inr (fun e => hne j hv e.symm))
theorem grown_of_ext {w w' : World} (h : Ext w w') (r : Option Nat) : w.grownBy w' r := ⟨h.os, h.tape, h.output, h.size, fun k hk _ => h.block k hk⟩
theorem Blk.rowsF {w : World} {g : Nat} {t : TypeId} {cs : Array Value} (h : Blk w g t cs) (n size : Nat) (hs : cs.size = n * size) : Reads w w.heap.size size (some ⟨g, 0, none⟩) n cs.toList := by
  refine ⟨by simpa using hs, fun _ => ⟨_, rfl, h.lt, fun j u hu => ?_⟩⟩
  rw [add_lit, Nat.zero_add, h.cell]
  simpa using hu
def PB (w : World) (k : Int) (p : ObX) : Prop := ∃ wk b1 b2, p = (xO wk k, xV b1 b2) ∧ PartB w wk k b1 b2
/-- A list of parts in memory. -/
structure LSt (w0 : World) (k : Int) (l : List ObX) (N : Nat) (A : Option Addr) (c : Nat) (w : World) : Prop where
  ln : l.length = N
  row : w.ownsRow w0.heap.size obT 4 (.slice A N c) N (l.flatMap obXC)
  each : ∀ p ∈ l, PB w k p
  ext : Ext w0 w
section
variable {w0 w w' : World} {k : Int} {l : List ObX} {N : Nat} {A A' : Option Addr} {c c' : Nat}
theorem PB.ext {p : ObX} (h : PB w k p) (hx : Ext w w') : PB w' k p := by
  obtain ⟨wk, b1, b2, e, hb⟩ := h
  exact ⟨wk, b1, b2, e, hb.ext hx⟩
theorem PB.grown {p : ObX} {base n : Nat} {v : Value} {xs : List Value} (h : PB w k p) (ho : w.ownsRow base obT 4 v n xs) (hg : w.grownBy w' v.ownBlock) : PB w' k p := by
  obtain ⟨wk, b1, b2, e, hb⟩ := h
  exact ⟨wk, b1, b2, e, hb.grown ho hg⟩
theorem LSt.to (h : LSt w0 k l N A c w) (hx : Ext w w') : LSt w0 k l N A c w' := ⟨h.ln, hx.own h.row, fun p hp => (h.each p hp).ext hx, h.ext.trans hx⟩
theorem LSt.isx (h : LSt w0 k l N A c w) : ∀ p ∈ l, ∃ wk k, p.1 = xO wk k := fun p hp => by
  obtain ⟨wk, b1, b2, e, -⟩ := h.each p hp
  exact ⟨wk, k, by rw [e]⟩
theorem LSt.good (h : LSt w0 k l N A c w) (h0 : 0 ≤ k) (h8 : k ≤ 8) : Good w A N l :=
  ⟨h.ln, Reads.of_own h.row, fun p hp => by obtain ⟨wk, b1, b2, rfl, hb⟩ := h.each p hp; exact hb.rd, fun p hp => by obtain ⟨wk, b1, b2, rfl, hb⟩ := h.each p hp; exact xO_chk _ _ h0 h8, fun p hp => by obtain ⟨wk, b1, b2, rfl, hb⟩ := h.each p hp; exact xO_sm _ _ h0 h8⟩
/-- One more at the end. -/
theorem LSt.more (h : LSt w0 k l N A c w) {p : ObX} (hp : PB w k p) (ho : w'.ownsRow w0.heap.size obT 4 (.slice A' (N + 1) c') (N + 1) (l.flatMap obXC ++ obXC p)) (hg : w.grownBy w' (Value.ownBlock (.slice A N c))) : LSt w0 k (l ++ [p]) (N + 1) A' c' w' := by
  refine ⟨by simp [h.ln], by rw [List.flatMap_append, List.flatMap_cons, List.flatMap_nil, List.append_nil]; exact ho, fun q hq => ?_, h.ext.grown hg (fun j hj => (h.row.lt j hj).1)⟩
  rcases List.mem_append.1 hq with hq | hq
  · exact (h.each q hq).grown h.row hg
  · rw [List.mem_singleton] at hq; rw [hq]; exact hp.grown h.row hg
theorem flat_takeC (l : List ObX) (i : Nat) : (l.flatMap obXC).take (i * 4) = (l.take i).flatMap obXC := by
  induction l generalizing i with
  | nil => simp
  | cons a l ih =>
    cases i with
    | zero => simp
    | succ i =>
      rw [List.flatMap_cons, List.take_succ_cons, List.flatMap_cons, show (i + 1) * 4 = (obXC a).length + i * 4 by rw [obXC_len]; omega, List.take_append, List.take_of_length_le (by omega), Nat.add_sub_cancel_left, ih]
theorem flat_dropC (l : List ObX) (i : Nat) : (l.flatMap obXC).drop (i * 4) = (l.drop i).flatMap obXC := by
  induction l generalizing i with
  | nil => simp
  | cons a l ih =>
    cases i with
    | zero => simp
    | succ i =>
      rw [List.flatMap_cons, List.drop_succ_cons, show (i + 1) * 4 = (obXC a).length + i * 4 by rw [obXC_len]; omega, List.drop_append, List.drop_of_length_le (by omega), Nat.add_sub_cancel_left, ih, List.nil_append]
/-- One put in at place i. -/
theorem LSt.put (h : LSt w0 k l N A c w) {p : ObX} (hp : PB w k p) (i : Nat) (hi : i ≤ N) (ho : w'.ownsRow w0.heap.size obT 4 (.slice A' (N + 1) c') (N + 1) ((l.flatMap obXC).take (i * 4) ++ (obXC p ++ (l.flatMap obXC).drop (i * 4)))) (hg : w.grownBy w' (Value.ownBlock (.slice A N c))) : LSt w0 k (l.take i ++ (p :: l.drop i)) (N + 1) A' c' w' := by
  rw [flat_takeC, flat_dropC] at ho
  refine ⟨by simp [h.ln]; omega, by rw [List.flatMap_append, List.flatMap_cons]; exact ho, fun q hq => ?_, h.ext.grown hg (fun j hj => (h.row.lt j hj).1)⟩
  rcases List.mem_append.1 hq with hq | hq
  · exact (h.each q (List.mem_of_mem_take hq)).grown h.row hg
  · rcases List.mem_cons.1 hq with hq | hq
    · rw [hq]; exact hp.grown h.row hg
    · exact (h.each q (List.mem_of_mem_drop hq)).grown h.row hg
end
def WkRel (w : World) (m : Nat) (k : Int) (v8 v25 : Value) (wr : World) : Prop :=
  ∃ (j : Nat) (l : List ObX) (A : Option Addr) (c : Nat), j ≤ m ∧ v25 = .int .i64 j ∧ v8 = .slice A j c ∧ l.map Prod.fst = weakL j k ∧ LSt w k l j A c wr
theorem weakL_succ (j : Nat) (k : Int) : weakL (j + 1) k = weakL j k ++ [xO true k] := by simp [weakL, List.replicate_succ']
theorem xone (b1 b2 : Nat) : ∀ u ∈ obXC (xO true 0, xV b1 b2), u.oneCell' = true := by intro u hu; simp [obXC, obC, xV] at hu; rcases hu with rfl | rfl | rfl | rfl <;> rfl
set_option maxHeartbeats 16000000 in
set_option maxRecDepth 100000 in
theorem weak_walk (z0 z1 z2 : Int) (hz0 : -9223372036854775808 ≤ z0 ∧ z0 ≤ 9223372036854775807) (hz1 : -9223372036854775808 ≤ z1 ∧ z1 ≤ 9223372036854775807) (hz2 : -9223372036854775808 ≤ z2 ∧ z2 ≤ 9223372036854775807) (w : World) :
    Calls Try.prog 3 #[.int .i64 z0, .int .i64 z1, .int .i64 z2] w fun e w' => e = .returned (.bool true) ∧ Ext w w' := by
  obtain ⟨i0, hi0, hy0, hy1, hy2⟩ := info_parts ob_infoW
  go_enter Try.func3, Try.ntmps3
  go_wp2_with fail
  refine (rest_any z0 5 w hz0.1 hz0.2 (by omega) (by omega)).mono ?_
  rintro r w0 ⟨rfl, rfl⟩
  obtain ⟨m, hm, hm4⟩ : ∃ m : Nat, restZ z0 5 = (m : Int) ∧ m ≤ 4 := ⟨(restZ z0 5).toNat, (Int.toNat_of_nonneg (restZ_lo z0 5 (by omega))).symm, by have := restZ_hi z0 5 (by omega); omega⟩
  rw [hm]
  clear hm hz0
  go_wp2_with fail
  refine (rest_any z2 5 w hz2.1 hz2.2 (by omega) (by omega)).mono ?_
  rintro r w0 ⟨rfl, rfl⟩
  obtain ⟨k, hk, hk0, hk4⟩ : ∃ k : Int, restZ z2 5 = k ∧ 0 ≤ k ∧ k ≤ 4 := ⟨_, rfl, restZ_lo z2 5 (by omega), by have := restZ_hi z2 5 (by omega); omega⟩
  rw [hk]
  clear hk hz2
  go_wp2_with fail
  refine (rest_any z1 ((m : Int) + 1) w hz1.1 hz1.2 (by omega) (by omega)).mono ?_
  rintro r w0 ⟨rfl, rfl⟩
  obtain ⟨a, ha, ham⟩ : ∃ a : Nat, restZ z1 ((m : Int) + 1) = (a : Int) ∧ a ≤ m := ⟨(restZ z1 ((m : Int) + 1)).toNat, (Int.toNat_of_nonneg (restZ_lo z1 _ (by omega))).symm, by have := restZ_hi z1 ((m : Int) + 1) (by omega); omega⟩
  rw [ha]
  clear ha hz1
  go_wp2_with fail
  go_loopw [8, 25] (WkRel w m k) (fun _ i _ => m - (intOf i).toNat)
  case atStart => exact ⟨0, [], none, 0, Nat.zero_le _, rfl, rfl, rfl, ⟨rfl, World.ownsRow_nil _ _ _ _, fun p hp => (by cases hp), Ext.refl _⟩⟩
  case round =>
    obtain ⟨j, l, A8, c8, hj, rfl, rfl, hl, hst⟩ := hrel
    have HL := hide hl
    have HST := hide hst
    clear hl hst
    by_cases hlt : j < m
    · go_wp2_with fail
      refine (part_any true k wr).mono ?_
      rintro e w1 ⟨b1, b2, rfl, hpb, hx1⟩
      have hxa := (Ext.refl w1).alloc (.cells #[.slice none 0 0, .slice (some ⟨b1, 0, none⟩) 8 8, .slice (some ⟨b2, 0, none⟩) 1 1, .slice none 0 0] obT)
      have HPB := hide (hpb.ext hxa)
      have HSTA := hide ((HST.out.to hx1).to hxa)
      have HRW := hide ((Blk.new w1 obT #[.slice none 0 0, .slice (some ⟨b1, 0, none⟩) 8 8, .slice (some ⟨b2, 0, none⟩) 1 1, .slice none 0 0]).rowsF' 1 4 rfl)
      have HON := hide (show ∀ u ∈ [Value.slice none 0 0, .slice (some ⟨b1, 0, none⟩) 8 8, .slice (some ⟨b2, 0, none⟩) 1 1, .slice none 0 0], u.oneCell' = true by simp [Value.oneCell'])
      have HL1 := hide (show j + 1 ≤ maxLen by simp only [maxLen]; omega)
      have HL2 := hide (show (j + 1) * 96 ≤ 140737488355328 by omega)
      clear hpb hx1 hxa HST
      simp only [xV, ObV.cells]
      go_wp2_with (at_builtin; refine wpList_append_any _ rfl (.tmp 27) (.tmp 31) 32 rfl w.heap.size obT i0 _ 4 96 Try.underlying32 hi0 hy0 hy1 hy2 rfl (by decide) (.slice A8 j c8) j (l.flatMap obXC) rfl HSTA.out.row _ _ 1 1 [.slice none 0 0, .slice (some ⟨b1, 0, none⟩) 8 8, .slice (some ⟨b2, 0, none⟩) 1 1, .slice none 0 0] rfl HRW.out HON.out HL1.out HL2.out HSTA.out.ext.size ?_; intro A9 c9 w9 ho9 hg9 ha9; have HSTN := hide (HSTA.out.more (p := (xO true k, xV b1 b2)) ⟨true, b1, b2, rfl, HPB.out⟩ ho9 hg9); clear ho9 hg9 ha9)
      go_roundw
      case rel => exact ⟨j + 1, l ++ [(xO true k, xV b1 b2)], A9, c9, by omega, by go_num, rfl, by rw [List.map_append, HL.out, weakL_succ]; rfl, HSTN.out⟩
      case measure => simp [intOf]; omega
    · obtain rfl : j = m := by omega
      have HG := hide (HST.out.good hk0 (by omega))
      have HLX := hide (endL_x HST.out.isx (by rw [HST.out.ln]; omega))
      have HP1 := hide (places_any A8 j c8 l wr HG.out (by omega) HLX.out)
      have HE1 := hide (placesP_fst (ps := l) (qs := withV (weakL j k)) (by rw [withV_fst]; exact HL.out))
      go_wp2_with fail
      refine HP1.out.mono ?_
      rintro e w1 ⟨hx1, hcase⟩
      obtain ⟨np, Ap, cp, rfl, hp0, hp1⟩ : ∃ np Ap cp, e = .returned (.tuple #[.slice Ap np cp, .int .i64 0]) ∧ (j = 0 → np = 0) ∧ (0 < j → np = 1 ∧ ∃ z, w1.ownsRow wr.heap.size plT 3 (.slice Ap 1 cp) 1 (plC ⟨xS, 0, z⟩)) := by
        rw [HE1.out] at hcase
        rcases hcase with ⟨S, Ap, cp, hS, rfl, hrow⟩ | ⟨hno, -⟩
        · by_cases h0 : j = 0
          · subst h0
            obtain ⟨f, hf⟩ := weak_zero k
            rw [hf] at hS
            injection hS with hS
            subst hS
            exact ⟨0, Ap, cp, rfl, fun _ => rfl, fun h => absurd h (by omega)⟩
          · obtain ⟨z, f, hf⟩ := weak_some j (by omega) hm4 k
            rw [hf] at hS
            injection hS with hS
            subst hS
            exact ⟨1, Ap, cp, rfl, fun h => absurd h h0, fun _ => ⟨rfl, z, hrow⟩⟩
        · by_cases h0 : j = 0
          · subst h0
            obtain ⟨f, hf⟩ := weak_zero k
            rw [hf] at hno; cases hno
          · obtain ⟨z, f, hf⟩ := weak_some j (by omega) hm4 k
            rw [hf] at hno; cases hno
      have HP0 := hide hp0
      have HPR := hide hp1
      have HST1 := hide (HST.out.to hx1)
      have HX1 := hide (HST.out.ext.trans hx1)
      clear hx1 hcase hp0 hp1 HP1 HG HLX HE1 HST
      have HCL := hide (oclone_any A8 j c8 _ (l.flatMap obXC) w1 (Reads.of_own HST1.out.row) (obXC_one l) (Nat.le_refl _) (by omega) (fun e => by
        rcases Nat.eq_zero_or_pos j with h0 | h0
        · exact h0
        · obtain ⟨g, e2, -⟩ := own_addr HST1.out.row h0
          rw [e2] at e; cases e))
      go_wp2_with fail
      refine HCL.out.mono ?_
      rintro e w2 ⟨A4, c4, rfl, ho4, hx4⟩
      have HST2 := hide (show LSt w1 k l j A4 c4 w2 from ⟨HST1.out.ln, ho4, fun p hp => (HST1.out.each p hp).ext hx4, hx4⟩)
      have HX12 := hide hx4
      clear ho4 hx4 HCL
      go_wp2_with fail
      refine (part_any false k w2).mono ?_
      rintro e w3 ⟨b1, b2, rfl, hpb, hx3⟩
      have hxa := (Ext.refl w3).alloc (.cells #[.slice none 0 0, .slice (some ⟨b1, 0, none⟩) 8 8, .slice (some ⟨b2, 0, none⟩) 1 1, .slice none 0 0] obT)
      have HPB := hide (hpb.ext hxa)
      have HST3 := hide ((HST2.out.to hx3).to hxa)
      have HBV := hide (Blk.new w3 obT #[.slice none 0 0, .slice (some ⟨b1, 0, none⟩) 8 8, .slice (some ⟨b2, 0, none⟩) 1 1, .slice none 0 0])
      have HNE := hide (show Value.ownBlock (.slice A4 j c4) ≠ some w3.heap.size from fun e => by
        have := ((HST2.out.to hx3).row.lt _ e).2
        omega)
      have HON := hide (show ∀ u ∈ [Value.slice none 0 0, .slice (some ⟨b1, 0, none⟩) 8 8, .slice (some ⟨b2, 0, none⟩) 1 1, .slice none 0 0], u.oneCell' = true by simp [Value.oneCell'])
      clear hpb hx3 hxa HST2
      simp only [xV, ObV.cells]
      go_wp2_with fail
      refine (insert_any A4 j c4 a w3.heap.size (l.flatMap obXC) (.slice none 0 0) (.slice (some ⟨b1, 0, none⟩) 8 8) (.slice (some ⟨b2, 0, none⟩) 1 1) (.slice none 0 0) w1.heap.size _ HST3.out.row HST3.out.ext.size (by omega) ham HBV.out HNE.out (obXC_one l) HON.out).mono ?_
      rintro e w5 ⟨A5, c5, rfl, ho5, hg5⟩
      have HST5 := hide (HST3.out.put (p := (xO false k, xV b1 b2)) ⟨false, b1, b2, rfl, HPB.out⟩ a ham ho5 hg5)
      clear ho5 hg5 HST3 HPB HBV HNE
      obtain ⟨l2, hl2⟩ : ∃ l2, l.take a ++ ((xO false k, xV b1 b2) :: l.drop a) = l2 := ⟨_, rfl⟩
      have HL2 := hide (show l2.map Prod.fst = allL j a k by rw [← hl2, List.map_append, List.map_cons, List.map_take, List.map_drop, HL.out]; rfl)
      rw [hl2] at HST5
      clear hl2
      have HG := hide (HST5.out.good hk0 (by omega))
      have HLX := hide (endL_x HST5.out.isx (by rw [HST5.out.ln]; omega))
      have HP1 := hide (places_any A5 (j + 1) c5 l2 w5 HG.out (by omega) HLX.out)
      have HE1 := hide (placesP_fst (ps := l2) (qs := withV (allL j a k)) (by rw [withV_fst]; exact HL2.out))
      go_wp2_with fail
      refine HP1.out.mono ?_
      rintro e w6 ⟨hx6, hcase⟩
      obtain ⟨Aq, cq, z, rfl, hq⟩ : ∃ Aq cq z, e = .returned (.tuple #[.slice Aq 1 cq, .int .i64 0]) ∧ w6.ownsRow w5.heap.size plT 3 (.slice Aq 1 cq) 1 (plC ⟨xS, a, z⟩) := by
        rw [HE1.out] at hcase
        obtain ⟨z, f, hf⟩ := all_some j a hm4 ham k
        rw [hf] at hcase
        rcases hcase with ⟨S, Ap, cp, hS, rfl, hrow⟩ | ⟨hno, -⟩
        · injection hS with hS
          subst hS
          exact ⟨Ap, cp, z, rfl, hrow⟩
        · cases hno
      have HQ := hide hq
      have HST6 := hide (HST5.out.to hx6)
      clear hx6 hcase hq HP1 HG HLX HE1 HST5
      go_wp2_with fail
      refine (part_any false k w6).mono ?_
      rintro e w7 ⟨d1, d2, rfl, hpb, hx7⟩
      have hxa := (Ext.refl w7).alloc (.cells #[.slice none 0 0, .slice (some ⟨d1, 0, none⟩) 8 8, .slice (some ⟨d2, 0, none⟩) 1 1, .slice none 0 0] obT)
      have HPB := hide (hpb.ext hxa)
      have HST7 := hide ((HST6.out.to hx7).to hxa)
      have HQ7 := hide ((hx7.trans hxa).own HQ.out)
      have HRW := hide ((Blk.new w7 obT #[.slice none 0 0, .slice (some ⟨d1, 0, none⟩) 8 8, .slice (some ⟨d2, 0, none⟩) 1 1, .slice none 0 0]).rowsF' 1 4 rfl)
      have HON := hide (show ∀ u ∈ [Value.slice none 0 0, .slice (some ⟨d1, 0, none⟩) 8 8, .slice (some ⟨d2, 0, none⟩) 1 1, .slice none 0 0], u.oneCell' = true by simp [Value.oneCell'])
      have HM1 := hide (show j + 1 + 1 ≤ maxLen by simp only [maxLen]; omega)
      have HM2 := hide (show (j + 1 + 1) * 96 ≤ 140737488355328 by omega)
      clear hpb hx7 hxa HST6 HQ
      simp only [xV, ObV.cells]
      go_wp2_with (at_builtin; refine wpList_append_any _ rfl (.tmp 53) (.tmp 57) 32 rfl w1.heap.size obT i0 _ 4 96 Try.underlying32 hi0 hy0 hy1 hy2 rfl (by decide) (.slice A5 (j + 1) c5) (j + 1) (l2.flatMap obXC) rfl HST7.out.row _ _ 1 1 [.slice none 0 0, .slice (some ⟨d1, 0, none⟩) 8 8, .slice (some ⟨d2, 0, none⟩) 1 1, .slice none 0 0] rfl HRW.out HON.out HM1.out HM2.out HST7.out.ext.size ?_; intro A9 c9 w9 ho9 hg9 ha9; have HST9 := hide (HST7.out.more (p := (xO false k, xV d1 d2)) ⟨false, d1, d2, rfl, HPB.out⟩ ho9 hg9); have HQ9 := hide (own_keptB HQ7.out hg9 (fun j hj e => own_own_ne HQ7.out HST7.out.row (by decide) j hj e)); clear ho9 hg9 ha9)
      have HG := hide (HST9.out.good hk0 (by omega))
      have HLX := hide (endL_x HST9.out.isx (by rw [HST9.out.ln]; omega))
      have HP1 := hide (places_any A9 (j + 1 + 1) c9 _ w9 HG.out (by omega) HLX.out)
      have HE1 := hide (placesP_fst (ps := l2 ++ [(xO false k, xV d1 d2)]) (qs := withV (allL j a k ++ [xO false k])) (by rw [withV_fst, List.map_append, HL2.out]; rfl))
      refine HP1.out.mono ?_
      rintro e w10 ⟨hx10, hcase⟩
      obtain rfl : e = .returned (.tuple #[.slice none 0 0, .int .i64 5]) := by
        rw [HE1.out, two_none j a hm4 ham k] at hcase
        rcases hcase with ⟨S, Ap, cp, hS, -⟩ | ⟨-, h⟩
        · cases hS
        · exact h
      have HXF := hide (HX1.out.trans (HST9.out.ext.trans hx10))
      have hq := hx10.own HQ9.out
      have hpx : Ext w1 w10 := HST9.out.ext.trans hx10
      obtain ⟨gq, rfl, -⟩ := own_addr hq (by omega)
      have q0 := (own_cell hq 0 (u := .string (str xS)) rfl).1
      have q1 := (own_cell hq 1 (u := .int .i64 (a : Int)) rfl).1
      have q2 := (own_cell hq 2 (u := .int .i64 z) rfl).1
      have HPX := hide hpx
      clear hx10 hcase hq hpx HP1 HG HLX HE1 HST9 HQ9 HQ7 HST7 HPB HRW
      by_cases h0 : j = 0
      · obtain rfl := HP0.out h0
        subst h0
        clear HPR HP0
        go_wp2_with fail
        go_ret
        exact ⟨rfl, HXF.out⟩
      · obtain ⟨rfl, z', hrow⟩ := HPR.out (by omega)
        have hp := HPX.out.own hrow
        obtain ⟨gp, rfl, -⟩ := own_addr hp (by omega)
        have p0 := (own_cell hp 0 (u := .string (str xS)) rfl).1
        have p1 := (own_cell hp 1 (u := .int .i64 (0 : Int)) rfl).1
        have p2 := (own_cell hp 2 (u := .int .i64 z') rfl).1
        clear HPR HP0 hrow hp HPX
        go_wp2_with fail
        go_ret
        exact ⟨rfl, HXF.out⟩
end Go.Proofs.Ytljlniehbenefaa
