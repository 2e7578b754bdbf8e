/- The walk of AsmNeeds. -/
import Derived.Test.YtikbfmjhmjkkgaaDoorAmNeedsP
import Derived.Test.YtikbfmjhmjkkgaaDoorAmEq
import Derived.Test.YtikbfmjhmjkkgaaDoorRest
import Derived.Test.YtikbfmjhmjkkgaaDoorIntsV
namespace Go.Proofs.YtikbfmjhmjkkgaaDoor
open Go.RowKit
set_option linter.unusedVariables false

def qOf (zs : List Int) : List Nat := (zs.take 40).map fun z => (restZ z 4).toNat
theorem qOf_lt (zs : List Int) : ∀ q ∈ qOf zs, q < 4 := fun q hq => by
  obtain ⟨z, _, rfl⟩ := List.mem_map.1 hq
  have h1 := restZ_lo z 4 (by omega)
  have h2 := restZ_hi z 4 (by omega)
  omega
theorem qOf_len (zs : List Int) : (qOf zs).length = min 40 zs.length := by simp [qOf]
theorem qOf_at (zs : List Int) (k : Nat) (h : k < zs.length) (h4 : k < 40) : ∃ hk : k < (qOf zs).length, (qOf zs)[k] = (restZ zs[k] 4).toNat := by
  refine ⟨by rw [qOf_len]; omega, ?_⟩
  simp [qOf]
def NdRel (w : World) (zs : List Int) (n : Nat) (v3 v4 v15 : Value) (wr : World) : Prop :=
  ∃ (k : Nat) (A3 : Option Addr) (c3 : Nat) (A4 : Option Addr) (n4 c4 : Nat), k ≤ n ∧ k ≤ 40 ∧ v15 = .int .i64 (k : Int) ∧ v3 = .slice A3 k c3 ∧ v4 = .slice A4 n4 c4 ∧
    wr.ownsRow w.heap.size 9 1 (.slice A3 k c3) k (strsV (((qOf zs).take k).map ndLine)) ∧ wr.ownsRow w.heap.size ndT 3 (.slice A4 n4 c4) n4 ((allQ ((qOf zs).take k)).needs.flatMap needC) ∧
    (allQ ((qOf zs).take k)).needs.length = n4 ∧ n4 ≤ k ∧ Ext w wr
def NdOut (w : World) (zs : List Int) (v3 v4 : Value) (wr : World) : Prop :=
  ∃ (k : Nat) (A3 : Option Addr) (c3 : Nat) (A4 : Option Addr) (n4 c4 : Nat), k ≤ 40 ∧ (qOf zs).length = k ∧ v3 = .slice A3 k c3 ∧ v4 = .slice A4 n4 c4 ∧
    wr.ownsRow w.heap.size 9 1 (.slice A3 k c3) k (strsV ((qOf zs).map ndLine)) ∧ wr.ownsRow w.heap.size ndT 3 (.slice A4 n4 c4) n4 ((allQ (qOf zs)).needs.flatMap needC) ∧
    (allQ (qOf zs)).needs.length = n4 ∧ n4 ≤ k ∧ Ext w wr
theorem strsV_app (l : List Bs) (x : Bs) : strsV (l ++ [x]) = strsV l ++ [.string (str x)] := by simp [strsV]
/-- strings.Join on the lines. -/
theorem join_q (qs : List Nat) (A : Option Addr) (k c B : Nat) (w : World) (hr : w.ownsRow B 9 1 (.slice A k c) k (strsV (qs.map ndLine))) (hk : qs.length = k) (h40 : k ≤ 40) :
    Calls Tryd.prog 9 #[.slice A k c, .string (str [10])] w fun e w' => e = .returned (.string (str (textQ qs))) ∧ Ext w w' := by
  subst hk
  by_cases h0 : qs.length = 0
  · have hq : qs = [] := List.eq_nil_of_length_eq_zero h0
    subst hq
    have := Tryd.strings_Join_none A c (str [10]) w
    exact this.mono fun e w' ⟨h1, h2⟩ => ⟨h1, h2 ▸ Ext.refl _⟩
  · obtain ⟨A', c', hv, hnc, -, -⟩ := own_form hr
    injection hv with hA _ hc
    exact join_any (qs.map ndLine) A qs.length c w.heap.size w (Reads.of_own hr) (Nat.le_refl _) (by simp) (by omega) (by omega) (Nat.le_trans (textQ_len qs h40) (by decide)) (by omega)
set_option maxHeartbeats 16000000 in
set_option maxRecDepth 100000 in
theorem needs_walk (A : Option Addr) (n c : Nat) (zs : List Int) (w : World) (hr : Reads w w.heap.size 1 A n (intsV zs)) (hz : ∀ z ∈ zs, -9223372036854775808 ≤ z ∧ z ≤ 9223372036854775807) (hn : n ≤ maxLen) (hL : LibOk w) :
    Calls Tryd.prog 4 #[.slice A n c] w fun e w' => e = .returned (.bool true) ∧ Ext w w' := by
  obtain ⟨i0, hi0, hz0, hz1, hz2⟩ := info_parts string_info
  obtain ⟨i1, hi1, hz3, hz4, hz5⟩ := info_parts need_info
  have HLN := hide (show zs.length = n by have := hr.1; rw [intsV_length] at this; omega)
  have HR := hide hr
  have HZ := hide hz
  have HL := hide hL
  unfold maxLen at hn
  clear hr hz hL
  go_enter Tryd.func4, Tryd.ntmps4
  go_upto_block 0 with fail
  go_cut [3, 4] (fun v3 v4 wx => NdOut w zs v3 v4 wx)
  case first =>
    go_wp2_with fail
    go_loopw [3, 4, 15] (NdRel w zs n) (fun _ _ v _ => n - (intOf v).toNat)
    case atStart => exact ⟨0, none, 0, none, 0, 0, Nat.zero_le _, Nat.zero_le _, rfl, rfl, rfl, World.ownsRow_nil _ _ _ _, World.ownsRow_nil _ _ _ _, rfl, Nat.le_refl _, Ext.refl _⟩
    case round =>
      obtain ⟨k, A3, c3, A4, n4, c4, hk, hk40, rfl, rfl, rfl, ho3, ho4, hl4, hn4, hx⟩ := hrel
      have HO3 := hide ho3
      have HO4 := hide ho4
      have HL4 := hide hl4
      have HX := hide hx
      clear ho3 ho4 hl4 hx
      by_cases hlt : k < n
      · have hkl : k < zs.length := by rw [HLN.out]; exact hlt
        obtain ⟨b, off, rfl, -, -⟩ := HR.out.at1 (by omega)
        obtain ⟨z, hzk⟩ : ∃ z, zs[k] = z := ⟨_, rfl⟩
        have g1 := HX.out.cell (cells_ints HR.out k hlt)
        rw [List.getD_eq_getElem?_getD, List.getElem?_eq_getElem hkl, Option.getD_some, hzk] at g1
        have hzb := HZ.out z (hzk ▸ List.getElem_mem hkl)
        by_cases h40 : k < 40
        · have t1 : decide ((40 : Int) ≤ (k : Int)) = false := decide_eq_false (by omega)
          have t1' : decide (40 ≤ k) = false := decide_eq_false (by omega)
          obtain ⟨hkq, hqk⟩ := qOf_at zs k hkl h40
          rw [hzk] at hqk
          obtain ⟨q, hq⟩ : ∃ q : Nat, restZ z 4 = (q : Int) := Int.eq_ofNat_of_zero_le (restZ_lo z 4 (by omega))
          have hq4 : q < 4 := by have := restZ_hi z 4 (by omega); omega
          rw [hq, Int.toNat_natCast] at hqk
          have HRS := hide (fun W => rest_any z 4 W hzb.1 hzb.2 (by omega) (by omega))
          rw [hq] at HRS
          have hnx := allQ_next (qOf zs) k hkq
          rw [hqk] at hnx
          have HTK := hide (show ((qOf zs).take (k + 1)).map ndLine = ((qOf zs).take k).map ndLine ++ [ndLine q] from by rw [List.take_succ_eq_append_getElem hkq, hqk, List.map_append]; rfl)
          have HCL := hide (show (allQ ((qOf zs).take k)).code.length = k from by rw [allQ, (fold_code _ _).1, List.length_take]; show 0 + _ = _; omega)
          obtain ⟨m4, hm4⟩ : ∃ m : Nat, 4 * k = m := ⟨_, rfl⟩
          have hwr : IntKind.i64.wrap (4 * (k : Int)) = (m4 : Int) := by rw [IntKind.wrap_i64]; omega
          have HM4 := hide hm4
          have HNX := hide hnx
          clear hkl hzk hzb hkq hqk hq hnx hm4
          go_wp2_with fail
          refine (HRS.out _).mono ?_
          rintro e w4 ⟨rfl, rfl⟩
          clear g1
          rcases (by omega : q = 0 ∨ q = 1 ∨ q = 2 ∨ q = 3) with rfl | rfl | rfl | rfl
          · have HEQ2 := hide (HNX.out)
            have HS1 := hide (Blk.new wr 9 #[.string ⟨#[106, 117, 109, 112, 32, 102, 97, 114]⟩]).reads
            have HXA := hide ((Ext.refl wr).alloc (.cells #[.string ⟨#[106, 117, 109, 112, 32, 102, 97, 114]⟩] 9))
            go_upto_region 11 with (at_builtin; refine wpList_append_any _ rfl (.tmp 29) (.tmp 30) 23 rfl w.heap.size 9 i0 _ 1 16 Tryd.underlying23 hi0 hz0 hz1 hz2 rfl (by omega) _ k (strsV (((qOf zs).take k).map ndLine)) rfl (HXA.out.own HO3.out) _ _ 1 1 [.string ⟨#[106, 117, 109, 112, 32, 102, 97, 114]⟩] rfl HS1.out (by simp [Value.oneCell']) (by simp only [maxLen]; omega) (by omega) (Nat.le_trans HX.out.size HXA.out.size) ?_; intro A5 c5 w5 ho5 hg5 ha5; have HO5 := hide ho5; have HO45 := hide (own_keptB (HXA.out.own HO4.out) hg5 (fun j hj e => own_own_ne (HXA.out.own HO4.out) (HXA.out.own HO3.out) (by decide) j hj e)); have HX5 := hide ((HX.out.trans HXA.out).grown hg5 (fun j hj => ((HXA.out.own HO3.out).lt j hj).1)); clear ho5 hg5 ha5)
            have HS2 := hide (rows_blk (Blk.new w5 ndT #[.int .i64 (m4 : Int), .string ⟨#[102, 97, 114]⟩, .int .i64 1]) 1 3 rfl)
            have HXB := hide ((Ext.refl w5).alloc (.cells #[.int .i64 (m4 : Int), .string ⟨#[102, 97, 114]⟩, .int .i64 1] ndT))
            go_wp2_with (at_builtin; refine wpList_append_any _ rfl (.tmp 32) (.tmp 36) 26 rfl w.heap.size ndT i1 _ 3 32 Tryd.underlying26 hi1 hz3 hz4 hz5 rfl (by omega) _ n4 ((allQ ((qOf zs).take k)).needs.flatMap needC) rfl (HXB.out.own HO45.out) _ _ 1 1 [.int .i64 (m4 : Int), .string ⟨#[102, 97, 114]⟩, .int .i64 1] rfl HS2.out (by simp [Value.oneCell']) (by simp only [maxLen]; omega) (by omega) (Nat.le_trans HX5.out.size HXB.out.size) ?_; intro A6 c6 w6 ho6 hg6 ha6; have HO6 := hide ho6; have HO56 := hide (own_keptB (HXB.out.own HO5.out) hg6 (fun j hj e => own_own_ne (HXB.out.own HO5.out) (HXB.out.own HO45.out) (by decide) j hj e)); have HX6 := hide ((HX5.out.trans HXB.out).grown hg6 (fun j hj => ((HXB.out.own HO45.out).lt j hj).1)); clear ho6 hg6 ha6)
            go_roundw
            case rel =>
              refine ⟨k + 1, A5, c5, A6, n4 + 1, c6, by omega, by omega, by go_num, rfl, rfl, ?_, ?_, ?_, by omega, HX6.out⟩
              · rw [HTK.out, strsV_app]; exact HO56.out
              · rw [HNX.out, putQ_needs _ _ (by decide), if_neg (by decide), HCL.out, HM4.out, List.flatMap_append, List.flatMap_cons, List.flatMap_nil, List.append_nil]; exact HO6.out
              · rw [HNX.out, putQ_needs _ _ (by decide), if_neg (by decide)]; simp [HL4.out]
            case measure => simp [intOf]; omega
          · have HEQ2 := hide (HNX.out)
            have HS1 := hide (Blk.new wr 9 #[.string ⟨#[115, 101, 116, 32, 114, 51, 32, 102, 97, 114]⟩]).reads
            have HXA := hide ((Ext.refl wr).alloc (.cells #[.string ⟨#[115, 101, 116, 32, 114, 51, 32, 102, 97, 114]⟩] 9))
            go_upto_region 14 with (at_builtin; refine wpList_append_any _ rfl (.tmp 40) (.tmp 41) 23 rfl w.heap.size 9 i0 _ 1 16 Tryd.underlying23 hi0 hz0 hz1 hz2 rfl (by omega) _ k (strsV (((qOf zs).take k).map ndLine)) rfl (HXA.out.own HO3.out) _ _ 1 1 [.string ⟨#[115, 101, 116, 32, 114, 51, 32, 102, 97, 114]⟩] rfl HS1.out (by simp [Value.oneCell']) (by simp only [maxLen]; omega) (by omega) (Nat.le_trans HX.out.size HXA.out.size) ?_; intro A5 c5 w5 ho5 hg5 ha5; have HO5 := hide ho5; have HO45 := hide (own_keptB (HXA.out.own HO4.out) hg5 (fun j hj e => own_own_ne (HXA.out.own HO4.out) (HXA.out.own HO3.out) (by decide) j hj e)); have HX5 := hide ((HX.out.trans HXA.out).grown hg5 (fun j hj => ((HXA.out.own HO3.out).lt j hj).1)); clear ho5 hg5 ha5)
            have HS2 := hide (rows_blk (Blk.new w5 ndT #[.int .i64 (m4 : Int), .string ⟨#[102, 97, 114]⟩, .int .i64 2]) 1 3 rfl)
            have HXB := hide ((Ext.refl w5).alloc (.cells #[.int .i64 (m4 : Int), .string ⟨#[102, 97, 114]⟩, .int .i64 2] ndT))
            go_wp2_with (at_builtin; refine wpList_append_any _ rfl (.tmp 43) (.tmp 47) 26 rfl w.heap.size ndT i1 _ 3 32 Tryd.underlying26 hi1 hz3 hz4 hz5 rfl (by omega) _ n4 ((allQ ((qOf zs).take k)).needs.flatMap needC) rfl (HXB.out.own HO45.out) _ _ 1 1 [.int .i64 (m4 : Int), .string ⟨#[102, 97, 114]⟩, .int .i64 2] rfl HS2.out (by simp [Value.oneCell']) (by simp only [maxLen]; omega) (by omega) (Nat.le_trans HX5.out.size HXB.out.size) ?_; intro A6 c6 w6 ho6 hg6 ha6; have HO6 := hide ho6; have HO56 := hide (own_keptB (HXB.out.own HO5.out) hg6 (fun j hj e => own_own_ne (HXB.out.own HO5.out) (HXB.out.own HO45.out) (by decide) j hj e)); have HX6 := hide ((HX5.out.trans HXB.out).grown hg6 (fun j hj => ((HXB.out.own HO45.out).lt j hj).1)); clear ho6 hg6 ha6)
            go_roundw
            case rel =>
              refine ⟨k + 1, A5, c5, A6, n4 + 1, c6, by omega, by omega, by go_num, rfl, rfl, ?_, ?_, ?_, by omega, HX6.out⟩
              · rw [HTK.out, strsV_app]; exact HO56.out
              · rw [HNX.out, putQ_needs _ _ (by decide), if_neg (by decide), HCL.out, HM4.out, List.flatMap_append, List.flatMap_cons, List.flatMap_nil, List.append_nil]; exact HO6.out
              · rw [HNX.out, putQ_needs _ _ (by decide), if_neg (by decide)]; simp [HL4.out]
            case measure => simp [intOf]; omega
          · have HEQ2 := hide (HNX.out)
            have HS1 := hide (Blk.new wr 9 #[.string ⟨#[119, 111, 114, 100, 32, 102, 97, 114]⟩]).reads
            have HXA := hide ((Ext.refl wr).alloc (.cells #[.string ⟨#[119, 111, 114, 100, 32, 102, 97, 114]⟩] 9))
            go_upto_region 17 with (at_builtin; refine wpList_append_any _ rfl (.tmp 51) (.tmp 52) 23 rfl w.heap.size 9 i0 _ 1 16 Tryd.underlying23 hi0 hz0 hz1 hz2 rfl (by omega) _ k (strsV (((qOf zs).take k).map ndLine)) rfl (HXA.out.own HO3.out) _ _ 1 1 [.string ⟨#[119, 111, 114, 100, 32, 102, 97, 114]⟩] rfl HS1.out (by simp [Value.oneCell']) (by simp only [maxLen]; omega) (by omega) (Nat.le_trans HX.out.size HXA.out.size) ?_; intro A5 c5 w5 ho5 hg5 ha5; have HO5 := hide ho5; have HO45 := hide (own_keptB (HXA.out.own HO4.out) hg5 (fun j hj e => own_own_ne (HXA.out.own HO4.out) (HXA.out.own HO3.out) (by decide) j hj e)); have HX5 := hide ((HX.out.trans HXA.out).grown hg5 (fun j hj => ((HXA.out.own HO3.out).lt j hj).1)); clear ho5 hg5 ha5)
            have HS2 := hide (rows_blk (Blk.new w5 ndT #[.int .i64 (m4 : Int), .string ⟨#[102, 97, 114]⟩, .int .i64 3]) 1 3 rfl)
            have HXB := hide ((Ext.refl w5).alloc (.cells #[.int .i64 (m4 : Int), .string ⟨#[102, 97, 114]⟩, .int .i64 3] ndT))
            go_wp2_with (at_builtin; refine wpList_append_any _ rfl (.tmp 54) (.tmp 58) 26 rfl w.heap.size ndT i1 _ 3 32 Tryd.underlying26 hi1 hz3 hz4 hz5 rfl (by omega) _ n4 ((allQ ((qOf zs).take k)).needs.flatMap needC) rfl (HXB.out.own HO45.out) _ _ 1 1 [.int .i64 (m4 : Int), .string ⟨#[102, 97, 114]⟩, .int .i64 3] rfl HS2.out (by simp [Value.oneCell']) (by simp only [maxLen]; omega) (by omega) (Nat.le_trans HX5.out.size HXB.out.size) ?_; intro A6 c6 w6 ho6 hg6 ha6; have HO6 := hide ho6; have HO56 := hide (own_keptB (HXB.out.own HO5.out) hg6 (fun j hj e => own_own_ne (HXB.out.own HO5.out) (HXB.out.own HO45.out) (by decide) j hj e)); have HX6 := hide ((HX5.out.trans HXB.out).grown hg6 (fun j hj => ((HXB.out.own HO45.out).lt j hj).1)); clear ho6 hg6 ha6)
            go_roundw
            case rel =>
              refine ⟨k + 1, A5, c5, A6, n4 + 1, c6, by omega, by omega, by go_num, rfl, rfl, ?_, ?_, ?_, by omega, HX6.out⟩
              · rw [HTK.out, strsV_app]; exact HO56.out
              · rw [HNX.out, putQ_needs _ _ (by decide), if_neg (by decide), HCL.out, HM4.out, List.flatMap_append, List.flatMap_cons, List.flatMap_nil, List.append_nil]; exact HO6.out
              · rw [HNX.out, putQ_needs _ _ (by decide), if_neg (by decide)]; simp [HL4.out]
            case measure => simp [intOf]; omega
          · have HS1 := hide (Blk.new wr 9 #[.string ⟨#[115, 121, 115, 32, 59, 32, 110, 111, 116, 104, 105, 110, 103]⟩]).reads
            have HXA := hide ((Ext.refl wr).alloc (.cells #[.string ⟨#[115, 121, 115, 32, 59, 32, 110, 111, 116, 104, 105, 110, 103]⟩] 9))
            go_wp2_with (at_builtin; refine wpList_append_any _ rfl (.tmp 24) (.tmp 25) 23 rfl w.heap.size 9 i0 _ 1 16 Tryd.underlying23 hi0 hz0 hz1 hz2 rfl (by omega) _ k (strsV (((qOf zs).take k).map ndLine)) rfl (HXA.out.own HO3.out) _ _ 1 1 [.string ⟨#[115, 121, 115, 32, 59, 32, 110, 111, 116, 104, 105, 110, 103]⟩] rfl HS1.out (by simp [Value.oneCell']) (by simp only [maxLen]; omega) (by omega) (Nat.le_trans HX.out.size HXA.out.size) ?_; intro A5 c5 w5 ho5 hg5 ha5; have HO5 := hide ho5; have HO45 := hide (own_keptB (HXA.out.own HO4.out) hg5 (fun j hj e => own_own_ne (HXA.out.own HO4.out) (HXA.out.own HO3.out) (by decide) j hj e)); have HX5 := hide ((HX.out.trans HXA.out).grown hg5 (fun j hj => ((HXA.out.own HO3.out).lt j hj).1)); clear ho5 hg5 ha5)
            go_roundw
            case rel =>
              refine ⟨k + 1, A5, c5, A4, n4, c4, by omega, by omega, by go_num, rfl, rfl, ?_, ?_, ?_, by omega, HX5.out⟩
              · rw [HTK.out, strsV_app]; exact HO5.out
              · rw [HNX.out, putQ_needs _ _ (by decide), if_pos rfl]; exact HO45.out
              · rw [HNX.out, putQ_needs _ _ (by decide), if_pos rfl]; exact HL4.out
            case measure => simp [intOf]; omega
        · obtain rfl : k = 40 := by omega
          go_wp2_with fail
          go_meet
          refine ⟨40, A3, c3, A4, n4, c4, by omega, by rw [qOf_len, HLN.out]; omega, rfl, rfl, ?_, ?_, ?_, hn4, HX.out⟩
          · have := HO3.out; rwa [List.take_of_length_le (by rw [qOf_len]; omega)] at this
          · have := HO4.out; rwa [List.take_of_length_le (by rw [qOf_len]; omega)] at this
          · have := HL4.out; rwa [List.take_of_length_le (by rw [qOf_len]; omega)] at this
      · obtain rfl : k = n := by omega
        go_wp2_with fail
        go_meet
        refine ⟨k, A3, c3, A4, n4, c4, by omega, by rw [qOf_len, HLN.out]; omega, rfl, rfl, ?_, ?_, ?_, hn4, HX.out⟩
        · have := HO3.out; rwa [List.take_of_length_le (by rw [qOf_len, HLN.out]; omega)] at this
        · have := HO4.out; rwa [List.take_of_length_le (by rw [qOf_len, HLN.out]; omega)] at this
        · have := HL4.out; rwa [List.take_of_length_le (by rw [qOf_len, HLN.out]; omega)] at this
  case rest =>
    obtain ⟨k, A3, c3, A4, n4, c4, hk40, hql, rfl, rfl, ho3, ho4, hl4, hn4, hx⟩ := hcut
    have HX := hide hx
    have HL4 := hide hl4
    have HO4 := hide ho4
    have HJ := hide (join_q (qOf zs) A3 k c3 w.heap.size wc ho3 hql hk40)
    have HQ := hide (read_q (qOf zs) (qOf_lt zs) (by omega))
    have HCL := hide (show (allQ (qOf zs)).code.length = k from by rw [allQ, (fold_code _ _).1, hql]; show 0 + _ = _; omega)
    have HTL := hide (textQ_len (qOf zs) (by omega))
    clear hx hl4 ho4 ho3
    go_wp2_with fail
    refine HJ.out.mono ?_
    rintro e w1 ⟨rfl, hx1⟩
    have HX1 := hide (HX.out.trans hx1)
    have HO41 := hide (hx1.own HO4.out)
    have HRD := hide (read_any (textQ (qOf zs)) w1 HTL.out (HL.out.ext HX1.out))
    rw [HQ.out.1] at HRD
    clear hx1
    go_wp2_with fail
    refine HRD.out.mono ?_
    rintro e w2 ⟨B1, d1, B2, d2, B3, d3, rfl, hr1, hr2, hr3, hx2⟩
    rw [HQ.out.2] at hr1 hr2 hr3
    rw [HQ.out.2, HCL.out, HL4.out]
    have HR3 := hide hr3
    have HX2 := hide (HX1.out.trans hx2)
    have HO42 := hide (hx2.own HO41.out)
    clear hr1 hr2 hr3 hx2
    go_upto_region 20 with fail
    have HB3 := hide (Blk.new w2 unT #[.slice B1 k d1, .slice B2 (allQ (qOf zs)).marks.length d2, .slice B3 n4 d3])
    have HXA := hide ((Ext.refl w2).alloc (.cells #[.slice B1 k d1, .slice B2 (allQ (qOf zs)).marks.length d2, .slice B3 n4 d3] unT))
    generalize w2.alloc (.cells #[.slice B1 k d1, .slice B2 (allQ (qOf zs)).marks.length d2, .slice B3 n4 d3] unT) = w3 at *
    obtain ⟨g3, hg3⟩ : ∃ x, w2.heap.size = x := ⟨_, rfl⟩
    rw [hg3] at HB3 ⊢
    clear hg3
    have HRD2 := hide (read_any [119, 111, 114, 100, 32, 102, 97, 114] w3 (by decide) (HL.out.ext (HX2.out.trans HXA.out)))
    rw [read_one.1] at HRD2
    go_wp2_with fail
    refine HRD2.out.mono ?_
    rintro e w4 ⟨C1, e1, C2, e2, C3, e3, rfl, hs1, hs2, hs3, hx4⟩
    rw [read_one.2] at hs1 hs2 hs3
    rw [read_one.2]
    have HX4 := hide (HX2.out.trans (HXA.out.trans hx4))
    have HB4 := hide (HB3.out.ext hx4)
    have HR34 := hide (hx4.own (HXA.out.own HR3.out))
    have HO44 := hide (hx4.own (HXA.out.own HO42.out))
    have l1 : (unit0.put 0 farB 3).code.length = 1 := rfl
    have l2 : (unit0.put 0 farB 3).marks.length = 0 := rfl
    have l3 : (unit0.put 0 farB 3).needs.length = 1 := rfl
    rw [l1, l2, l3]
    clear hs1 hs2 hs3 hx4 l1 l2 l3
    go_upto_region 21 with fail
    have HB5 := hide (Blk.new w4 unT #[.slice C1 1 e1, .slice C2 0 e2, .slice C3 1 e3])
    have HXC := hide ((Ext.refl w4).alloc (.cells #[.slice C1 1 e1, .slice C2 0 e2, .slice C3 1 e3] unT))
    generalize w4.alloc (.cells #[.slice C1 1 e1, .slice C2 0 e2, .slice C3 1 e3] unT) = w5 at *
    obtain ⟨g5, hg5⟩ : ∃ x, w4.heap.size = x := ⟨_, rfl⟩
    rw [hg5] at HB5 ⊢
    clear hg5
    have y0 := (HB4.out.ext HXC.out).cell 0
    have y2 := (HB4.out.ext HXC.out).cell 2
    have x2 := HB5.out.cell 2
    have HEQ := hide (equal_ne B3 n4 d3 w5.heap.size (allQ (qOf zs)).needs A4 c4 w5.heap.size w5 (Reads.of_own (HXC.out.own (by have h := HR34.out; rw [HL4.out] at h; exact h))) (Reads.of_own (HXC.out.own HO44.out)) (by omega))
    go_wp2_with fail
    refine HEQ.out.mono ?_
    rintro e w6 ⟨rfl, nd, rfl⟩
    have HXF := hide ((HX4.out.trans HXC.out).drewN nd)
    have y0' : (w5.drewN nd).cell? ⟨g3, 0, none⟩ = some (.slice B1 k d1) := ((Ext.refl w5).drewN nd).cell y0
    generalize w5.drewN nd = w7 at *
    go_wp2_with fail
    go_ret
    exact ⟨by simp, HXF.out⟩
end Go.Proofs.YtikbfmjhmjkkgaaDoor
