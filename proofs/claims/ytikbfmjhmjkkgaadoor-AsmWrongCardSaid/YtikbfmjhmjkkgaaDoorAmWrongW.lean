/- The walk of AsmWrong. -/
import Derived.Test.YtikbfmjhmjkkgaaDoorAmWrongP
import Derived.Test.YtikbfmjhmjkkgaaDoorAmRep
import Derived.Test.YtikbfmjhmjkkgaaDoorAmNeedsW
namespace Go.Proofs.YtikbfmjhmjkkgaaDoor
open Go.RowKit
set_option linter.unusedVariables false

theorem strsV_rep (n : Nat) : strsV (List.replicate n sysB) = repV sysB n 0 := by simp [strsV, repV]
theorem bad_cell (q : Nat) (hq : q < 8) : (#[.string ⟨#[106, 117, 109, 112]⟩, .string ⟨#[97, 100, 100, 32, 114, 49]⟩, .string ⟨#[97, 100, 100, 32, 114, 49, 32, 114, 57]⟩, .string ⟨#[115, 101, 116, 32, 114, 49, 32, 52, 48, 48, 48, 48]⟩, .string ⟨#[119, 104, 97, 116, 32, 114, 49]⟩, .string ⟨#[97, 58, 32, 97, 58, 32, 115, 121, 115]⟩, .string ⟨#[119, 111, 114, 100]⟩, .string ⟨#[114, 49, 58, 32, 115, 121, 115]⟩] : Array Value)[q]? = some (.string (str (badT q))) := by
  rcases (by omega : q = 0 ∨ q = 1 ∨ q = 2 ∨ q = 3 ∨ q = 4 ∨ q = 5 ∨ q = 6 ∨ q = 7) with rfl | rfl | rfl | rfl | rfl | rfl | rfl | rfl <;> rfl
set_option maxHeartbeats 16000000 in
set_option maxRecDepth 100000 in
theorem wrong_walk (za zb : Int) (ha : -9223372036854775808 ≤ za ∧ za ≤ 9223372036854775807) (hb : -9223372036854775808 ≤ zb ∧ zb ≤ 9223372036854775807) (w : World) (hL : LibOk w) :
    Calls Tryd.prog 6 #[.int .i64 za, .int .i64 zb] w fun e w' => e = .returned (.bool true) ∧ Ext w w' := by
  obtain ⟨i0, hi0, hz0, hz1, hz2⟩ := info_parts string_info
  obtain ⟨n, hqa⟩ : ∃ n : Nat, restZ za 30 = (n : Int) := Int.eq_ofNat_of_zero_le (restZ_lo za 30 (by omega))
  obtain ⟨q, hqb⟩ : ∃ q : Nat, restZ zb 8 = (q : Int) := Int.eq_ofNat_of_zero_le (restZ_lo zb 8 (by omega))
  have hn30 : n < 30 := by have := restZ_hi za 30 (by omega); omega
  have hq8 : q < 8 := by have := restZ_hi zb 8 (by omega); omega
  have HRA := hide (fun W => rest_any za 30 W ha.1 ha.2 (by omega) (by omega))
  have HRB := hide (fun W => rest_any zb 8 W hb.1 hb.2 (by omega) (by omega))
  rw [hqa] at HRA
  rw [hqb] at HRB
  have HL := hide hL
  clear hqa hqb ha hb hL
  go_enter Tryd.func6, Tryd.ntmps6
  go_wp2_with fail
  refine (HRA.out _).mono ?_
  rintro e w1 ⟨rfl, hw1⟩
  subst hw1
  go_wp2_with fail
  have HB8 := hide (Blk.new w 9 #[.string ⟨#[106, 117, 109, 112]⟩, .string ⟨#[97, 100, 100, 32, 114, 49]⟩, .string ⟨#[97, 100, 100, 32, 114, 49, 32, 114, 57]⟩, .string ⟨#[115, 101, 116, 32, 114, 49, 32, 52, 48, 48, 48, 48]⟩, .string ⟨#[119, 104, 97, 116, 32, 114, 49]⟩, .string ⟨#[97, 58, 32, 97, 58, 32, 115, 121, 115]⟩, .string ⟨#[119, 111, 114, 100]⟩, .string ⟨#[114, 49, 58, 32, 115, 121, 115]⟩])
  have HX1 := hide ((Ext.refl w).alloc (.cells #[.string ⟨#[106, 117, 109, 112]⟩, .string ⟨#[97, 100, 100, 32, 114, 49]⟩, .string ⟨#[97, 100, 100, 32, 114, 49, 32, 114, 57]⟩, .string ⟨#[115, 101, 116, 32, 114, 49, 32, 52, 48, 48, 48, 48]⟩, .string ⟨#[119, 104, 97, 116, 32, 114, 49]⟩, .string ⟨#[97, 58, 32, 97, 58, 32, 115, 121, 115]⟩, .string ⟨#[119, 111, 114, 100]⟩, .string ⟨#[114, 49, 58, 32, 115, 121, 115]⟩] 9))
  generalize w.alloc (.cells #[.string ⟨#[106, 117, 109, 112]⟩, .string ⟨#[97, 100, 100, 32, 114, 49]⟩, .string ⟨#[97, 100, 100, 32, 114, 49, 32, 114, 57]⟩, .string ⟨#[115, 101, 116, 32, 114, 49, 32, 52, 48, 48, 48, 48]⟩, .string ⟨#[119, 104, 97, 116, 32, 114, 49]⟩, .string ⟨#[97, 58, 32, 97, 58, 32, 115, 121, 115]⟩, .string ⟨#[119, 111, 114, 100]⟩, .string ⟨#[114, 49, 58, 32, 115, 121, 115]⟩] 9) = W1 at *
  obtain ⟨g8, hg8⟩ : ∃ x, w.heap.size = x := ⟨_, rfl⟩
  rw [hg8] at HB8
  rw [hg8]
  have hc8 : W1.cell? ⟨g8, q, none⟩ = some (.string (str (badT q))) := (HB8.out.cell q).trans (bad_cell q hq8)
  have hlt8 : (q : Int) < 8 := by omega
  have hge8 : (0 : Int) ≤ (q : Int) := by omega
  refine (HRB.out _).mono ?_
  rintro e w1 ⟨rfl, hw1⟩
  subst hw1
  go_wp2_with fail
  refine (repeat_any sysB _ 0 1 n _ ((Blk.new W1 9 #[.string ⟨#[115, 121, 115]⟩]).cell 0) (by omega)).mono ?_
  rintro e W3 ⟨g, rfl, hg, hb3, hx3⟩
  have HX3 := hide ((HX1.out.alloc (.cells #[.string ⟨#[115, 121, 115]⟩] 9)).trans hx3)
  have HG := hide (Nat.le_trans (HX1.out.alloc (.cells #[.string ⟨#[115, 121, 115]⟩] 9)).size hg)
  have HO := hide (show W3.ownsRow w.heap.size 9 1 (.slice (some ⟨g, 0, none⟩) n n) n (strsV (List.replicate n sysB)) from own_of_row HG.out hb3 (Nat.le_refl _) (by simp only [maxLen]; omega) (by simp [repV_len]) (by rw [List.toList_toArray, Nat.mul_one, strsV_rep, List.take_of_length_le (by simp [repV_len])]) (by simp [strsV_len]))
  have HS1 := hide (Blk.new W3 9 #[.string (str (badT q)), .string ⟨#[119, 104, 97, 116]⟩]).reads
  have HXA := hide ((Ext.refl W3).alloc (.cells #[.string (str (badT q)), .string ⟨#[119, 104, 97, 116]⟩] 9))
  clear hg hb3 hx3 hc8 hlt8 hge8 hg8
  go_wp2_with (at_builtin; refine wpList_append_any _ rfl (.tmp 24) (.tmp 26) 23 rfl w.heap.size 9 i0 _ 1 16 Tryd.underlying23 hi0 hz0 hz1 hz2 rfl (by omega) _ n (strsV (List.replicate n sysB)) rfl (HXA.out.own HO.out) _ _ 2 2 [.string (str (badT q)), .string ⟨#[119, 104, 97, 116]⟩] rfl HS1.out (by simp [Value.oneCell']) (by simp only [maxLen]; omega) (by omega) (Nat.le_trans HX3.out.size HXA.out.size) ?_; intro A6 c6 w6 ho6 hg6 ha6; have HO6 := hide ho6; have HX6 := hide ((HX3.out.trans HXA.out).grown hg6 (fun j hj => ((HXA.out.own HO.out).lt j hj).1)); clear ho6 hg6 ha6)
  have HTL := hide (wrText_len n q (by omega) hq8)
  have HRD := hide (wr_read n q (by omega) hq8)
  have HO7 := hide (show w6.ownsRow w.heap.size 9 1 (.slice A6 (n + 2) c6) (n + 2) (strsV (wrAll n q)) from by
    have h := HO6.out
    rw [show strsV (wrAll n q) = strsV (List.replicate n sysB) ++ [.string (str (badT q)), .string ⟨#[119, 104, 97, 116]⟩] from by simp [strsV, wrAll]; rfl]
    exact h)
  have HJ := hide (join_any (wrAll n q) A6 (n + 2) c6 w6.heap.size w6 (Reads.of_own HO7.out) (Nat.le_refl _) (wrAll_len n q) (by obtain ⟨A', c', hv, hnc, -, -⟩ := own_form HO7.out; injection hv with hA _ hc; omega) (by omega) (Nat.le_trans HTL.out (by decide)) (by omega))
  have HTX := hide (show Lib.join (wrAll n q) [10] = wrText n q from rfl)
  rw [HTX.out] at HJ
  refine HJ.out.mono ?_
  rintro e w7 ⟨rfl, hx7⟩
  have HX7 := hide (HX6.out.trans hx7)
  have HRE := hide (read_any (wrText n q) w7 HTL.out (HL.out.ext HX7.out))
  rw [HRD.out] at HRE
  clear hx7
  go_wp2_with fail
  refine HRE.out.mono ?_
  rintro e w8 ⟨rfl, hx8⟩
  have HX8 := hide (HX7.out.trans hx8)
  clear hx8
  go_upto_region 5 with fail
  have HXB := hide ((Ext.refl w8).alloc (.cells #[.slice none 0 0, .slice none 0 0, .slice none 0 0] unT))
  generalize w8.alloc (.cells #[.slice none 0 0, .slice none 0 0, .slice none 0 0] unT) = w9 at *
  obtain ⟨g3, hg3⟩ : ∃ x, w8.heap.size = x := ⟨_, rfl⟩
  try rw [hg3]
  clear hg3
  have HX9 := hide (HX8.out.trans HXB.out)
  have HRE2 := hide (read_any twoB w9 (by decide) (HL.out.ext HX9.out))
  rw [two_read] at HRE2
  go_wp2_with fail
  refine HRE2.out.mono ?_
  rintro e w10 ⟨rfl, hx10⟩
  have HXC := hide (HX9.out.trans (hx10.alloc (.cells #[.slice none 0 0, .slice none 0 0, .slice none 0 0] unT)))
  clear hx10
  have hw : IntKind.i64.wrap ((n : Int) + 1) = ((n + 1 : Nat) : Int) := by rw [IntKind.wrap_i64]; omega
  go_wp2_with fail
  go_ret
  exact ⟨by simp, HXC.out⟩
end Go.Proofs.YtikbfmjhmjkkgaaDoor
