/- The contract of ringkeep4.talked. -/
import Derived.Test.YtacfffegmmdgfaaRunW
import Derived.Test.YtacfffegmmdgfaaTalkedP
namespace Go.Proofs.Ytacfffegmmdgfaa
open Go.RowKit
set_option linter.unusedVariables false

theorem Blk.readsD {w : World} {g : Nat} {t : TypeId} {cs : Array Value} (h : Blk w g t cs) {k n : Nat} (hk : cs.size = n * k) : Reads w w.heap.size k (some ⟨g, 0, none⟩) n cs.toList := by
  refine ⟨by simpa using hk, fun _ => ⟨_, rfl, h.lt, fun j u hu => ?_⟩⟩
  rw [add_lit, Nat.zero_add, h.cell]
  simpa using hu
def talkLs (g : Nat) : List (DeedD × Value) := [(⟨4, 0, 0, []⟩, nilV), (⟨4, 0, 0, []⟩, nilV), (⟨4, 0, 0, []⟩, nilV), (⟨1, 0, 0, [104, 105]⟩, .slice (some ⟨g, 0, none⟩) 2 2), (⟨4, 0, 0, []⟩, nilV), (⟨2, 1, 9, []⟩, nilV)]
set_option maxHeartbeats 4000000 in
set_option maxRecDepth 100000 in
theorem talked_ok (w : World) : Calls Try.prog 8 #[] w fun r w' => r = .returned (.bool true) ∧ Ext w w' := by
  have hcv := Lib.run_convert_bytes_const (P := Try.prog) w 24 5 #[.int .u8 104, .int .u8 105] 2 2 Try.underlying24 Try.underlying5
  go_enter Try.func8, Try.ntmps8
  go_wp2_with fail
  clear hcv
  obtain ⟨g, hg⟩ : ∃ x, w.heap.size = x := ⟨_, rfl⟩
  have HX1 := hide ((Ext.refl w).alloc (.cells #[.int .u8 104, .int .u8 105] 5 (2, 3)))
  have hr1 : Reads (w.alloc (.cells #[.int .u8 104, .int .u8 105] 5 (2, 3))) (w.alloc (.cells #[.int .u8 104, .int .u8 105] 5 (2, 3))).heap.size 1 (some ⟨w.heap.size, 0, none⟩) 2 (bytesV [104, 105]) := by
    refine ⟨rfl, fun _ => ⟨_, rfl, by simp, fun j u hu => ?_⟩⟩
    rw [add_lit, World.cell?_alloc_mark]
    simpa [bytesV] using hu
  have hz1 : (w.alloc (.cells #[.int .u8 104, .int .u8 105] 5 (2, 3))).heap.size = w.heap.size + 1 := by simp
  rw [← hz1]
  rw [hg] at hr1 ⊢
  have HR1 := hide hr1
  clear hr1 hz1
  generalize w.alloc (.cells #[.int .u8 104, .int .u8 105] 5 (2, 3)) = w1 at *
  have HX2 := hide ((Ext.refl w1).alloc (.cells #[.int .i64 4, .int .i64 0, .int .i64 0, .slice none 0 0, .int .i64 4, .int .i64 0, .int .i64 0, .slice none 0 0, .int .i64 4, .int .i64 0, .int .i64 0, .slice none 0 0, .int .i64 1, .int .i64 0, .int .i64 0, .slice (some ⟨g, 0, none⟩) 2 2, .int .i64 4, .int .i64 0, .int .i64 0, .slice none 0 0, .int .i64 2, .int .i64 1, .int .i64 9, .slice none 0 0] 35))
  have HB2 := hide (Blk.new w1 35 #[.int .i64 4, .int .i64 0, .int .i64 0, .slice none 0 0, .int .i64 4, .int .i64 0, .int .i64 0, .slice none 0 0, .int .i64 4, .int .i64 0, .int .i64 0, .slice none 0 0, .int .i64 1, .int .i64 0, .int .i64 0, .slice (some ⟨g, 0, none⟩) 2 2, .int .i64 4, .int .i64 0, .int .i64 0, .slice none 0 0, .int .i64 2, .int .i64 1, .int .i64 9, .slice none 0 0])
  generalize w1.alloc (.cells #[.int .i64 4, .int .i64 0, .int .i64 0, .slice none 0 0, .int .i64 4, .int .i64 0, .int .i64 0, .slice none 0 0, .int .i64 4, .int .i64 0, .int .i64 0, .slice none 0 0, .int .i64 1, .int .i64 0, .int .i64 0, .slice (some ⟨g, 0, none⟩) 2 2, .int .i64 4, .int .i64 0, .int .i64 0, .slice none 0 0, .int .i64 2, .int .i64 1, .int .i64 9, .slice none 0 0] 35) = W at *
  have hR : Reads W W.heap.size 1 (some ⟨g, 0, none⟩) 2 (bytesV [104, 105]) := (HX2.out.reads HR1.out (Nat.le_refl _)).more HX2.out.size
  have HDI := hide (show DeedsIn W W.heap.size (some ⟨w1.heap.size, 0, none⟩) 6 (talkLs g) from by
    refine ⟨HB2.out.readsD (k := 4) (n := 6) rfl, Nat.le_refl _, fun x hx => ?_⟩
    simp only [talkLs, List.mem_cons, List.not_mem_nil, or_false] at hx
    rcases hx with rfl | rfl | rfl | rfl | rfl | rfl
    · exact ⟨by simp, by simp, by simp, by simp, none, 0, 0, W.heap.size, rfl, by omega, by simp [maxLen], Nat.le_refl _, Reads.none_⟩
    · exact ⟨by simp, by simp, by simp, by simp, none, 0, 0, W.heap.size, rfl, by omega, by simp [maxLen], Nat.le_refl _, Reads.none_⟩
    · exact ⟨by simp, by simp, by simp, by simp, none, 0, 0, W.heap.size, rfl, by omega, by simp [maxLen], Nat.le_refl _, Reads.none_⟩
    · exact ⟨by simp, by simp, by simp, by simp, some ⟨g, 0, none⟩, 2, 2, W.heap.size, rfl, by omega, by simp [maxLen], Nat.le_refl _, hR⟩
    · exact ⟨by simp, by simp, by simp, by simp, none, 0, 0, W.heap.size, rfl, by omega, by simp [maxLen], Nat.le_refl _, Reads.none_⟩
    · exact ⟨by simp, by simp, by simp, by simp, none, 0, 0, W.heap.size, rfl, by omega, by simp [maxLen], Nat.le_refl _, Reads.none_⟩)
  refine (run_any W 1 2 ⟨by omega, by omega⟩ ⟨by omega, by omega⟩ _ 6 6 _ (talkLs g) HDI.out (by omega)).mono ?_
  rintro r w3 ⟨P0, G0, P1, G1, rfl, hx3, hp0, hg0, hp1, hg1⟩
  have ht : runL 1 2 ((talkLs g).map (·.1)) = runL 1 2 talkDs := rfl
  rw [ht] at hp0 hg0 hp1 hg1 ⊢
  rw [talked_run.2] at hp0
  rw [talked_run.1] at hg1
  obtain ⟨A0, c0, v0, -⟩ := own_form hp0
  obtain ⟨A1, c1, v1, -⟩ := own_form hg1
  obtain ⟨A2, c2, v2, -⟩ := own_form hg0
  obtain ⟨A3, c3, v3, -⟩ := own_form hp1
  rw [v0] at hp0 ⊢
  rw [v1] at hg1 ⊢
  rw [v2] at hg0 ⊢
  rw [v3] at hp1 ⊢
  have HX3 := hide (HX1.out.trans (HX2.out.trans hx3))
  have HP0 := hide hp0
  have HG1 := hide hg1
  clear hp0 hg0 hp1 hg1 v0 v1 v2 v3 hx3 hR ht hg
  generalize ((runL 1 2 talkDs).e 0).fin = f0 at *
  generalize ((runL 1 2 talkDs).e 1).fin = f1 at *
  generalize ((runL 1 2 talkDs).e 0).st = s0 at *
  generalize ((runL 1 2 talkDs).e 1).st = s1 at *
  generalize ((runL 1 2 talkDs).g 0).length = n2 at *
  generalize ((runL 1 2 talkDs).p 1).length = n3 at *
  go_upto_region 2 with fail
  have HP0' := hide (show w3.ownsRow W.heap.size 5 1 (.slice A0 2 c0) 2 (bytesV [104, 105]) from HP0.out)
  have HG1' := hide (show w3.ownsRow W.heap.size 5 1 (.slice A1 2 c1) 2 (bytesV [104, 105]) from HG1.out)
  have HX4 := hide ((Ext.refl w3).alloc (.cells #[.slice A0 2 c0, .slice A2 n2 c2, .bool f0, .int .i64 s0, .slice A3 n3 c3, .slice A1 2 c1, .bool f1, .int .i64 s1] 27))
  have HB4 := hide (Blk.new w3 27 #[.slice A0 2 c0, .slice A2 n2 c2, .bool f0, .int .i64 s0, .slice A3 n3 c3, .slice A1 2 c1, .bool f1, .int .i64 s1])
  generalize w3.alloc (.cells #[.slice A0 2 c0, .slice A2 n2 c2, .bool f0, .int .i64 s0, .slice A3 n3 c3, .slice A1 2 c1, .bool f1, .int .i64 s1] 27) = w4 at *
  obtain ⟨gv, hgv⟩ : ∃ x, w3.heap.size = x := ⟨_, rfl⟩
  rw [hgv] at HB4 ⊢
  clear hgv
  have t0 : w4.cell? ⟨gv, 0, none⟩ = some (.slice A0 2 c0) := HB4.out.cell 0
  have t5 : w4.cell? ⟨gv, 5, none⟩ = some (.slice A1 2 c1) := HB4.out.cell 5
  have k0 : (convert 24 9 (.slice A0 2 c0)).run Try.prog w4 = .ok (.string ⟨#[104, 105]⟩) w4 := conv_str Try.underlying24 Try.underlying5 Try.underlying9 (HX4.out.reads (Reads.of_own HP0'.out) (Nat.le_refl _)) c0
  have k1 : (convert 24 9 (.slice A1 2 c1)).run Try.prog w4 = .ok (.string ⟨#[104, 105]⟩) w4 := conv_str Try.underlying24 Try.underlying5 Try.underlying9 (HX4.out.reads (Reads.of_own HG1'.out) (Nat.le_refl _)) c1
  go_wp2_with fail
  go_ret
  exact ⟨rfl, HX3.out.trans HX4.out⟩
end Go.Proofs.Ytacfffegmmdgfaa
