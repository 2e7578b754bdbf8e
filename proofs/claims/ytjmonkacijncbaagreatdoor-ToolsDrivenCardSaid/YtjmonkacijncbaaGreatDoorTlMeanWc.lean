/- tools.Mean at wc. Printed by gen_wc.py. -/
import Derived.Test.YtjmonkacijncbaaGreatDoorTlFf
import Derived.Test.YtjmonkacijncbaaGreatDoorTlRep
namespace Go.Proofs.YtjmonkacijncbaaGreatDoor
open Go.RowKit
set_option linter.unusedVariables false

theorem ff_few (b : Bs) : (ffAll b).length ≤ b.length + 1 := by
  have key : ∀ q i st acc, i ≤ b.length → b.length - i < q → acc.length ≤ i → (ffP b q i st acc).length ≤ b.length + 1 := by
    intro q
    induction q with
    | zero => intro i st acc h1 h2; omega
    | succ q ih =>
      intro i st acc h1 h2 h3
      rw [ffP_succ]
      split
      · cases st with
        | none => dsimp only; omega
        | some s => dsimp only; rw [List.length_append]; simp; omega
      · have hz := decP_size b i (by omega)
        split
        · cases st with
          | none => exact ih _ _ _ hz.2 (by omega) (by omega)
          | some s => exact ih _ _ _ hz.2 (by omega) (by rw [List.length_append]; simp; omega)
        · exact ih _ _ _ hz.2 (by omega) (by omega)
  exact key _ _ _ _ (Nat.zero_le _) (by omega) (Nat.le_refl _)
def wcP (b : Bs) : Bs := Lib.itoa ((b.count 10 : Nat) : Int) ++ [32] ++ Lib.itoa (((ffAll b).length : Nat) : Int) ++ [32] ++ Lib.itoa ((b.length : Nat) : Int) ++ [10]
theorem itoa_len6n (k : Nat) (h : k < 999999) : (Lib.itoa (k : Int)).length ≤ 6 := by
  rw [itoa_nat]
  exact dec_step 5 100000 (dec_step 4 10000 (dec_step 3 1000 (fun n hn => dec_len n hn) (by omega)) (by omega)) (by omega) _ (by omega)
set_option maxHeartbeats 4000000 in
set_option maxRecDepth 100000 in
theorem mean_wc : MeanAt [119, 99] [] wcP (fun _ => 0) := by
  intro b w A n c B A' m c' B' hL hra hB hnc hrb hB' hmc hm hA'
  have hbm := bytes_len hrb
  have HCK := hide (check_wc w A n c B hL hra hB hnc)
  have HLN := hide (fun W (hx : Ext w W) => lines_any b A' m c' B' W (hx.reads hrb hB') (Nat.le_trans hB' hx.size) hbm (by omega) (hL.ext hx))
  have HLL := hide hL
  have HRA := hide hra
  have HRB := hide hrb
  have HBM := hide hbm
  have t0 : decide ((m : Int) > 1024) = false := decide_eq_false (by omega)
  have t0' : decide ((1024 : Int) < (m : Int)) = false := decide_eq_false (by omega)
  have HA' := hide hA'
  clear hL hra hrb hbm hA'
  show Calls _ _ #[.string ⟨#[119, 99]⟩, .slice A n c, .slice A' m c'] w _
  go_enter Tryz.func20, Tryz.ntmps20
  go_wp2_with fail
  refine HCK.out.mono ?_
  rintro e w1 ⟨rfl, hx1⟩
  have HX1 := hide hx1
  clear hx1
  go_wp2_with fail
  refine (HLN.out w1 HX1.out).mono ?_
  rintro e w2 ⟨A2, m2, c2, rfl, hmc2, hl2, hr2, hx2⟩
  have HX2 := hide (HX1.out.trans hx2)
  have HR2 := hide hr2
  have HL2 := hide hl2
  clear hx2 hr2 hl2
  have hff := ff_few b
  have HI1 := hide (fun W hW => itoa_lib ((b.count 10 : Nat) : Int) (by omega) (by have : b.count 10 ≤ b.length := List.count_le_length; have := HBM.out; omega) W hW)
  have HI2 := hide (fun W hW => itoa_lib (((ffAll b).length : Nat) : Int) (by omega) (by have := HBM.out; omega) W hW)
  have HI3 := hide (fun W hW => itoa_lib ((b.length : Nat) : Int) (by omega) (by have := HBM.out; omega) W hW)
  have l1 := itoa_len6n (b.count 10) (by have : b.count 10 ≤ b.length := List.count_le_length; have := HBM.out; omega)
  have l2 := itoa_len6n (ffAll b).length (by have := HBM.out; omega)
  have l3 := itoa_len6n b.length (by have := HBM.out; omega)
  have HFF := hide (fun W (hx : Ext w W) => fields_any b A' m c' B' W (hx.reads HRB.out hB') (Nat.le_trans hB' hx.size) hmc hm (HLL.out.ext hx))
  have hkc := Lib.run_convert_bytes_const (P := Tryz.prog) w2 22 5 #[.int .u8 10] 1 1 Tryz.underlying22 Tryz.underlying5
  have hsz : (#[Value.int .u8 10] : Array Value).size = 1 := rfl
  rw [hsz] at hkc
  have HBMn := hide (show b.length = m from HBM.out)
  have HI3m := hide (fun W hW => by have h := HI3.out W hW; rw [HBM.out] at h; exact h)
  have hs1 : str (Lib.itoa ((b.count 10 : Nat) : Int)) ++ ⟨#[32]⟩ = str (Lib.itoa ((b.count 10 : Nat) : Int) ++ [32]) := str_append _ [32]
  have hs2 : str (Lib.itoa ((b.count 10 : Nat) : Int) ++ [32]) ++ str (Lib.itoa (((ffAll b).length : Nat) : Int)) = str (Lib.itoa ((b.count 10 : Nat) : Int) ++ [32] ++ Lib.itoa (((ffAll b).length : Nat) : Int)) := str_append _ _
  have hs3 : str (Lib.itoa ((b.count 10 : Nat) : Int) ++ [32] ++ Lib.itoa (((ffAll b).length : Nat) : Int)) ++ ⟨#[32]⟩ = str (Lib.itoa ((b.count 10 : Nat) : Int) ++ [32] ++ Lib.itoa (((ffAll b).length : Nat) : Int) ++ [32]) := str_append _ [32]
  have hs4 : str (Lib.itoa ((b.count 10 : Nat) : Int) ++ [32] ++ Lib.itoa (((ffAll b).length : Nat) : Int) ++ [32]) ++ str (Lib.itoa ((b.length : Nat) : Int)) = str (Lib.itoa ((b.count 10 : Nat) : Int) ++ [32] ++ Lib.itoa (((ffAll b).length : Nat) : Int) ++ [32] ++ Lib.itoa ((b.length : Nat) : Int)) := str_append _ _
  have hs5 : str (Lib.itoa ((b.count 10 : Nat) : Int) ++ [32] ++ Lib.itoa (((ffAll b).length : Nat) : Int) ++ [32] ++ Lib.itoa ((b.length : Nat) : Int)) ++ ⟨#[10]⟩ = str (wcP b) := str_append _ [10]
  have z1 : (str (Lib.itoa ((b.count 10 : Nat) : Int))).size ≤ 6 := by rw [str_size]; exact l1
  have z2 : (str (Lib.itoa (((ffAll b).length : Nat) : Int))).size ≤ 6 := by rw [str_size]; exact l2
  have z3 : (str (Lib.itoa ((b.length : Nat) : Int))).size ≤ 6 := by rw [str_size]; exact l3
  have y1 : (str (Lib.itoa ((b.count 10 : Nat) : Int) ++ [32])).size ≤ 7 := by rw [str_size, List.length_append]; simp only [List.length_cons, List.length_nil]; omega
  have y2 : (str (Lib.itoa ((b.count 10 : Nat) : Int) ++ [32] ++ Lib.itoa (((ffAll b).length : Nat) : Int))).size ≤ 13 := by rw [str_size]; simp only [List.length_append, List.length_cons, List.length_nil]; omega
  have y3 : (str (Lib.itoa ((b.count 10 : Nat) : Int) ++ [32] ++ Lib.itoa (((ffAll b).length : Nat) : Int) ++ [32])).size ≤ 14 := by rw [str_size]; simp only [List.length_append, List.length_cons, List.length_nil]; omega
  have y4 : (str (Lib.itoa ((b.count 10 : Nat) : Int) ++ [32] ++ Lib.itoa (((ffAll b).length : Nat) : Int) ++ [32] ++ Lib.itoa ((b.length : Nat) : Int))).size ≤ 20 := by rw [str_size]; simp only [List.length_append, List.length_cons, List.length_nil]; omega
  have hcv := fun W => conv_bytes W (wcP b) (by unfold wcP; simp only [List.length_append, List.length_cons, List.length_nil]; omega)
  obtain ⟨q, hq⟩ : ∃ q, (wcP b).length = q := ⟨_, rfl⟩
  rw [hq] at hcv
  have HQ := hide hq
  have HCV := hide hcv
  clear hq hcv l1 l2 l3 HI3
  rw [HBM.out] at hs4 hs5 z3 y4
  generalize hS5 : str (wcP b) = T5 at *
  generalize str (Lib.itoa ((b.count 10 : Nat) : Int) ++ [32] ++ Lib.itoa (((ffAll b).length : Nat) : Int) ++ [32] ++ Lib.itoa ((m : Nat) : Int)) = T4 at *
  generalize str (Lib.itoa ((b.count 10 : Nat) : Int) ++ [32] ++ Lib.itoa (((ffAll b).length : Nat) : Int) ++ [32]) = T3 at *
  generalize str (Lib.itoa ((b.count 10 : Nat) : Int) ++ [32] ++ Lib.itoa (((ffAll b).length : Nat) : Int)) = T2 at *
  generalize str (Lib.itoa ((b.count 10 : Nat) : Int) ++ [32]) = T1 at *
  generalize str (Lib.itoa ((b.count 10 : Nat) : Int)) = S1 at *
  generalize str (Lib.itoa (((ffAll b).length : Nat) : Int)) = S2 at *
  generalize str (Lib.itoa ((m : Nat) : Int)) = S3 at *
  have x1 : ¬ 9223372036854775807 < T1.size + S2.size := by omega
  have x2 : ¬ 9223372036854775807 < T3.size + S3.size := by omega
  go_wp2_with fail
  generalize hW3 : World.alloc _ _ = W3
  have HX3 := hide (show Ext w W3 from by rw [← hW3]; exact HX2.out.alloc _)
  have q3 : W3.cell? ⟨w2.heap.size, 0, none⟩ = some (.int .u8 (((10 : UInt8).toNat : Nat) : Int)) := by rw [← hW3, cell_of_row _ w2.heap.size 0 _ _ _ (heap_alloc_new w2 _)]; rfl
  clear hW3 hkc
  refine (count_oneb 10 b A' m c' B' w2.heap.size 1 W3 (HX3.out.reads HRB.out hB') HA'.out q3).mono ?_
  rintro e w4 ⟨rfl, rfl⟩
  clear q3
  generalize ((b.count 10 : Nat) : Int) = n1 at *
  go_wp2_with fail
  refine (HI1.out W3 (HLL.out.ext HX3.out)).mono ?_
  rintro e w5 ⟨rfl, hx5⟩
  have HX5 := hide (HX3.out.trans hx5)
  clear hx5
  go_wp2_with fail
  refine (HFF.out w5 HX5.out).mono ?_
  rintro e w6 ⟨A6, c6, rfl, hx6⟩
  have HX6 := hide (HX5.out.trans hx6)
  clear hx6
  go_wp2_with fail
  refine (HI2.out w6 (HLL.out.ext HX6.out)).mono ?_
  rintro e w7 ⟨rfl, hx7⟩
  have HX7 := hide (HX6.out.trans hx7)
  clear hx7
  go_wp2_with fail
  refine (HI3m.out w7 (HLL.out.ext HX7.out)).mono ?_
  rintro e w8 ⟨rfl, hx8⟩
  have HX8 := hide (HX7.out.trans hx8)
  clear hx8
  obtain ⟨g4, c9, w9, hrun, hqc, hcm, hr4, -, hx9⟩ := HCV.out w8
  have HR4 := hide hr4
  have HX9 := hide (HX8.out.trans hx9)
  have HQC := hide hqc
  have HCM := hide hcm

  clear hr4 hx9 hqc hcm hS5
  go_wp2_with fail
  go_ret3
  exact ⟨_, q, c9, rfl, HQ.out, HQC.out, HCM.out, HR4.out, (fun e => by cases e), HX9.out⟩
end Go.Proofs.YtjmonkacijncbaaGreatDoor
