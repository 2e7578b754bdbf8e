/- The kernel: what comes between two calls. -/
import Derived.Test.YthmojneobkaolaaGreatDoorTpAsk1
namespace Go.Proofs.YthmojneobkaolaaGreatDoor
open Go.RowKit
set_option linter.unusedVariables false

section
variable {b : Nat} {w w' : World} {H : Hn} {s : KSt}
set_option maxHeartbeats 8000000 in
set_option maxRecDepth 100000 in
theorem between_none (h : KAt b w H s) (p : Nat) (h1 : 1 ≤ p) (h2 : p ≤ s.n) (hn : s.n ≤ 16) (x : Int) (hx : 0 ≤ x) (hsg : s.sg p = (0, x)) :
    Calls Tryz.prog 14 #[pV H.hk, .int .i64 (p : Int)] w fun e w' => e = .returned (.tuple #[.int .i64 0, .bool false]) ∧ Ext w w' := by
  have HLD := hide (h.sigR p h1 h2 hn)
  rw [hsg] at HLD
  have HSZ := hide (sig_size 0 x)
  have HTK := hide (sigtake_none x hx w)
  have hp17 : (p : Int) < 17 := by omega
  clear h
  go_enter Tryz.func14, Tryz.ntmps14
  go_wp2_with ((with_reducible refine wpList_load_mid rfl 56 (.tmp 19) rfl H.hk (8 + p * 38 + 19) rfl (sigL 0 x) _ HLD.out Tryz.underlying56 rfl HSZ.out ?_))
  refine HTK.out.mono ?_
  rintro e w1 ⟨rfl, hx1⟩
  have HX1 := hide hx1
  have HTH := hide ((Blk.new w1 56 (sigA 0 0)).there_ 0 (sigA 0 0).size (by rw [Nat.zero_add]; exact Nat.le_refl _))
  have HXA := hide (hx1.alloc (.cells (sigA 0 0) 56))
  have HGE := hide hx1.size
  clear hx1 HLD HTK
  go_wp2_with ((with_reducible refine wpList_store_mid rfl 56 (.tmp 7) (.tmp 22) rfl w1.heap.size 0 (sigA 0 0) rfl ?_ ?_ ?_ (sigA_one 0 0) ?_); (exact rfl); (exact HTH.out); (exact sig_size 0 0))
  go_ret2
  exact ⟨rfl, HXA.out.setCells HGE.out 0 _⟩
set_option maxHeartbeats 8000000 in
set_option maxRecDepth 100000 in
theorem between_some (h : KAt b w H s) (p : Nat) (h1 : 2 ≤ p) (h2 : p ≤ s.n) (hn : s.n ≤ 16) (hsg : s.sg p = (8, 64)) :
    Calls Tryz.prog 14 #[pV H.hk, .int .i64 (p : Int)] w fun e w' => e = .returned (.tuple #[.int .i64 3, .bool true]) ∧ KAt b w' H (s.sig p (0, 64)) ∧ KKeep b H w w' := by
  have HLD := hide (h.sigR p (by omega) h2 hn)
  rw [hsg] at HLD
  have HSZ := hide (sig_size 8 64)
  have HTK := hide (sigtake_some 64 (by omega) w)
  have hp17 : (p : Int) < 17 := by omega
  have HH := hide h
  clear h
  go_enter Tryz.func14, Tryz.ntmps14
  go_wp2_with ((with_reducible refine wpList_load_mid rfl 56 (.tmp 19) rfl H.hk (8 + p * 38 + 19) rfl (sigL 8 64) _ HLD.out Tryz.underlying56 rfl HSZ.out ?_))
  refine HTK.out.mono ?_
  rintro e w1 ⟨rfl, hx1⟩
  have HTH := hide ((Blk.new w1 56 (sigA 0 0)).there_ 0 (sigA 0 64).size (by rw [Nat.zero_add]; exact Nat.le_refl _))
  have HXA := hide (hx1.alloc (.cells (sigA 0 0) 56))
  have HX2 := hide (HXA.out.setCells hx1.size 0 (sigA 0 64).toList)
  have HB2 := hide ((Blk.new w1 56 (sigA 0 0)).setAll (sigA 0 64).toList rfl)
  have HH2 := hide (HH.out.ext HX2.out)
  have HT2 := hide (HH2.out.sigT p (by omega))
  clear hx1 HLD HTK
  go_upto_region 3 with ((with_reducible refine wpList_store_mid rfl 56 (.tmp 7) (.tmp 22) rfl w1.heap.size 0 (sigA 0 64) rfl ?_ ?_ ?_ (sigA_one 0 64) ?_); (exact rfl); (exact HTH.out); (exact sig_size 0 64))
  change Code.wp _ _ _ _ ((w1.alloc (.cells (sigA 0 0) 56)).setCells w1.heap.size 0 (sigA 0 64).toList)
  generalize (w1.alloc (.cells (sigA 0 0) 56)).setCells w1.heap.size 0 (sigA 0 64).toList = W at *
  obtain ⟨g, hg⟩ : ∃ g, w1.heap.size = g := ⟨_, rfl⟩
  rw [hg] at HB2 ⊢
  clear HTH HXA HH hg
  have HL2 := hide (sig_range HB2.out)
  have HS2 := hide (sig_size 0 64)
  obtain ⟨hk1, hk2⟩ := HH2.out.sigSet p h1 (by omega) 0 64
  have HK1 := hide hk1
  have HK2 := hide hk2
  clear hk1 hk2
  go_wp2_with (first | ((with_reducible refine wpList_load_mid rfl 56 (.tmp 7) rfl g 0 rfl (sigL 0 64) _ HL2.out Tryz.underlying56 rfl HS2.out ?_)) | ((with_reducible refine wpList_store_mid rfl 56 (.tmp 31) (.tmp 29) rfl H.hk (8 + p * 38 + 19) (sigA 0 64) rfl ?_ ?_ ?_ (sigA_one 0 64) ?_); (exact rfl); (exact HT2.out); (exact sig_size 0 64)))
  go_ret2
  exact ⟨rfl, HK1.out, (KeepL.of HX2.out _ _ _ _).trans (HK2.out.wide (Nat.le_refl _) (by simp) (by simp) (by simp))⟩
end
end Go.Proofs.YthmojneobkaolaaGreatDoor
