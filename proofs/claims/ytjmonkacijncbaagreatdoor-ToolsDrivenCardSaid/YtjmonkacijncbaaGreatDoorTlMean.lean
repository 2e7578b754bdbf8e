/- The contract of tools.Mean at echo, false, cat, head, tail, tac, uniq and grep. -/
import Derived.Test.YtjmonkacijncbaaGreatDoorTlGrep
import Derived.Test.YtjmonkacijncbaaGreatDoorBytesC
import Derived.Test.YtjmonkacijncbaaGreatDoorConvB
namespace Go.Proofs.YtjmonkacijncbaaGreatDoor
open Go.RowKit
set_option linter.unusedVariables false

/-- What Mean hands back: the bytes o, the status st. -/
def MeanPost (w : World) (o : Bs) (st : Int) (e : Ending) (w' : World) : Prop := ∃ (A : Option Addr) (m c : Nat), e = .returned (.tuple #[.slice A m c, .int .i64 st, .int .i64 0]) ∧ o.length = m ∧ m ≤ c ∧ c ≤ maxLen ∧ Reads w' w'.heap.size 1 A m (bytesV o) ∧ (A = none → m = 0) ∧ Ext w w'
def MeanAt (nm : Bs) (args : List Bs) (f : Bs → Bs) (st : Bs → Int) : Prop := ∀ (b : Bs) (w : World) (A : Option Addr) (n c B : Nat) (A' : Option Addr) (m c' B' : Nat), LibOk w → Reads w B 1 A n (strsV args) → B ≤ w.heap.size → n ≤ c → Reads w B' 1 A' m (bytesV b) → B' ≤ w.heap.size → m ≤ c' → m ≤ 1024 → (A' = none → c' = 0) →
  Calls Tryz.prog 20 #[.string (str nm), .slice A n c, .slice A' m c'] w (MeanPost w (f b) (st b))
theorem bytes_len {w : World} {B m : Nat} {A : Option Addr} {b : Bs} (h : Reads w B 1 A m (bytesV b)) : b.length = m := by
  have := h.1
  rw [bytesV_length] at this
  omega
theorem mean_own {w0 w : World} {base m c : Nat} {A : Option Addr} {o : Bs} {st : Int} (h : w.ownsRow base 5 1 (.slice A m c) m (bytesV o)) (hx : Ext w0 w) : MeanPost w0 o st (.returned (.tuple #[.slice A m c, .int .i64 st, .int .i64 0])) w :=
  ⟨A, m, c, rfl, by have := h.1; rw [bytesV_length] at this; omega, (own_le h).1, (own_le h).2, Reads.of_own h, fun e => by
    obtain ⟨A', c', hv, _, _, hn⟩ := own_form h
    injection hv with h1 _ _
    exact (hn (h1 ▸ e)).1, hx⟩
/-- How grep ends. -/
def grepSt (F : List Bs) : Int := if F.length = 0 then 1 else 0
theorem mean_nil (w0 w : World) (st : Int) (hx : Ext w0 w) : MeanPost w0 [] st (.returned (.tuple #[.slice none 0 0, .int .i64 st, .int .i64 0])) w :=
  ⟨none, 0, 0, rfl, rfl, Nat.le_refl _, Nat.zero_le _, Reads.none_, fun _ => rfl, hx⟩
set_option maxHeartbeats 4000000 in
set_option maxRecDepth 100000 in
theorem mean_false : MeanAt [102, 97, 108, 115, 101] [] (fun _ => []) (fun _ => 1) := by
  intro b w A n c B A' m c' B' hL hra hB hnc hrb hB' hmc hm hA'
  have hbm := bytes_len hrb
  have HCK := hide (check_false_ w A n c B hL hra hB hnc)
  have HLN := hide (fun W (hx : Ext w W) => lines_any b A' m c' B' W (hx.reads hrb hB') (Nat.le_trans hB' hx.size) hbm (by omega) (hL.ext hx))
  have HLL := hide hL
  have HRA := hide hra
  have HRB := hide hrb
  have HBM := hide hbm
  have t0 : decide ((m : Int) > 1024) = false := decide_eq_false (by omega)
  have t0' : decide ((1024 : Int) < (m : Int)) = false := decide_eq_false (by omega)
  have HA' := hide hA'
  clear hL hra hrb hbm hA'
  show Calls _ _ #[.string ⟨#[102, 97, 108, 115, 101]⟩, .slice A n c, .slice A' m c'] w _
  go_enter Tryz.func20, Tryz.ntmps20
  go_wp2_with fail
  refine HCK.out.mono ?_
  rintro e w1 ⟨rfl, hx1⟩
  have HX1 := hide hx1
  clear hx1
  go_wp2_with fail
  refine (HLN.out w1 HX1.out).mono ?_
  rintro e w2 ⟨A2, m2, c2, rfl, hmc2, hl2, hr2, hx2⟩
  have HX2 := hide (HX1.out.trans hx2)
  have HR2 := hide hr2
  have HL2 := hide hl2
  clear hx2 hr2 hl2
  go_wp2_with fail
  go_ret3
  exact mean_nil w _ 1 HX2.out
set_option maxHeartbeats 4000000 in
set_option maxRecDepth 100000 in
theorem mean_cat : MeanAt [99, 97, 116] [] (fun b => b) (fun _ => 0) := by
  intro b w A n c B A' m c' B' hL hra hB hnc hrb hB' hmc hm hA'
  have hbm := bytes_len hrb
  have HCK := hide (check_cat w A n c B hL hra hB hnc)
  have HLN := hide (fun W (hx : Ext w W) => lines_any b A' m c' B' W (hx.reads hrb hB') (Nat.le_trans hB' hx.size) hbm (by omega) (hL.ext hx))
  have HLL := hide hL
  have HRA := hide hra
  have HRB := hide hrb
  have HBM := hide hbm
  have t0 : decide ((m : Int) > 1024) = false := decide_eq_false (by omega)
  have t0' : decide ((1024 : Int) < (m : Int)) = false := decide_eq_false (by omega)
  have HA' := hide hA'
  clear hL hra hrb hbm hA'
  show Calls _ _ #[.string ⟨#[99, 97, 116]⟩, .slice A n c, .slice A' m c'] w _
  go_enter Tryz.func20, Tryz.ntmps20
  go_wp2_with fail
  refine HCK.out.mono ?_
  rintro e w1 ⟨rfl, hx1⟩
  have HX1 := hide hx1
  clear hx1
  go_wp2_with fail
  refine (HLN.out w1 HX1.out).mono ?_
  rintro e w2 ⟨A2, m2, c2, rfl, hmc2, hl2, hr2, hx2⟩
  have HX2 := hide (HX1.out.trans hx2)
  have HR2 := hide hr2
  have HL2 := hide hl2
  clear hx2 hr2 hl2
  have HCL := hide (byclone_any A' m c' B' (bytesV b) w2 (HX2.out.reads HRB.out hB') (bytesV_one b) (Nat.le_trans hB' HX2.out.size) (by omega) (some_of HRB.out))
  go_wp2_with fail
  refine HCL.out.mono ?_
  rintro e w3 ⟨A3, c3, rfl, ho3, hx3⟩
  have HO3 := hide ho3
  have HX3 := hide (HX2.out.trans hx3)
  clear ho3 hx3
  go_wp2_with fail
  go_ret3
  exact mean_own HO3.out HX3.out
set_option maxHeartbeats 4000000 in
set_option maxRecDepth 100000 in
theorem mean_echo (l : List Bs) (hl : l.length ≤ 4) (hls : (Lib.join l [32]).length ≤ 1000) : MeanAt [101, 99, 104, 111] l (fun _ => Lib.join l [32] ++ [10]) (fun _ => 0) := by
  intro b w A n c B A' m c' B' hL hra hB hnc hrb hB' hmc hm hA'
  have hbm := bytes_len hrb
  have HCK := hide (check_echo l hl w A n c B hL hra hB hnc)
  have HLN := hide (fun W (hx : Ext w W) => lines_any b A' m c' B' W (hx.reads hrb hB') (Nat.le_trans hB' hx.size) hbm (by omega) (hL.ext hx))
  have HLL := hide hL
  have HRA := hide hra
  have HRB := hide hrb
  have HBM := hide hbm
  have t0 : decide ((m : Int) > 1024) = false := decide_eq_false (by omega)
  have t0' : decide ((1024 : Int) < (m : Int)) = false := decide_eq_false (by omega)
  have HA' := hide hA'
  clear hL hra hrb hbm hA'
  show Calls _ _ #[.string ⟨#[101, 99, 104, 111]⟩, .slice A n c, .slice A' m c'] w _
  go_enter Tryz.func20, Tryz.ntmps20
  go_wp2_with fail
  refine HCK.out.mono ?_
  rintro e w1 ⟨rfl, hx1⟩
  have HX1 := hide hx1
  clear hx1
  go_wp2_with fail
  refine (HLN.out w1 HX1.out).mono ?_
  rintro e w2 ⟨A2, m2, c2, rfl, hmc2, hl2, hr2, hx2⟩
  have HX2 := hide (HX1.out.trans hx2)
  have HR2 := hide hr2
  have HL2 := hide hl2
  clear hx2 hr2 hl2
  have hn4 : n ≤ 4 := by have := args_len HRA.out; omega
  have HJ := hide (join_any l [32] A n c B w2 (HX2.out.reads HRA.out hB) (Nat.le_trans hB HX2.out.size) hnc (by omega) (by omega))
  have hz : (str (Lib.join l [32])).size ≤ 1000 := by rw [str_size]; exact hls
  have hs : str (Lib.join l [32]) ++ ⟨#[10]⟩ = str (Lib.join l [32] ++ [10]) := str_append _ [10]
  have hcv := fun W => conv_bytes W (Lib.join l [32] ++ [10]) (by rw [List.length_append]; simp; omega)
  obtain ⟨q, hq⟩ : ∃ q, (Lib.join l [32] ++ [10]).length = q := ⟨_, rfl⟩
  rw [hq] at hcv
  have HQ := hide hq
  have HCV := hide hcv
  clear hq hcv
  generalize str (Lib.join l [32]) = S0 at *
  go_wp2_with fail
  refine HJ.out.mono ?_
  rintro e w3 ⟨rfl, hx3⟩
  have HX3 := hide (HX2.out.trans hx3)
  clear hx3
  obtain ⟨g4, c4, w4, hrun, hqc, hcm, hr4, -, hx4⟩ := HCV.out w3
  have HR4 := hide hr4
  have HX4 := hide (HX3.out.trans hx4)
  have HQC := hide hqc
  have HCM := hide hcm
  clear hr4 hx4 hqc hcm
  generalize str (Lib.join l [32] ++ [10]) = S1 at *
  go_wp2_with fail
  go_ret3
  exact ⟨_, q, c4, rfl, HQ.out, HQC.out, HCM.out, HR4.out, (fun e => by cases e), HX4.out⟩
set_option maxHeartbeats 4000000 in
set_option maxRecDepth 100000 in
theorem mean_head (k : Nat) (hk : k ≤ 999) : MeanAt [104, 101, 97, 100] [Lib.itoa (k : Int)] (fun b => textP (((linesP b)).take k)) (fun _ => 0) := by
  intro b w A n c B A' m c' B' hL hra hB hnc hrb hB' hmc hm hA'
  have hbm := bytes_len hrb
  have HCK := hide (check_head k hk w A n c B hL hra hB hnc)
  have HLN := hide (fun W (hx : Ext w W) => lines_any b A' m c' B' W (hx.reads hrb hB') (Nat.le_trans hB' hx.size) hbm (by omega) (hL.ext hx))
  have HLL := hide hL
  have HRA := hide hra
  have HRB := hide hrb
  have HBM := hide hbm
  have t0 : decide ((m : Int) > 1024) = false := decide_eq_false (by omega)
  have t0' : decide ((1024 : Int) < (m : Int)) = false := decide_eq_false (by omega)
  have HA' := hide hA'
  clear hL hra hrb hbm hA'
  show Calls _ _ #[.string ⟨#[104, 101, 97, 100]⟩, .slice A n c, .slice A' m c'] w _
  go_enter Tryz.func20, Tryz.ntmps20
  go_wp2_with fail
  refine HCK.out.mono ?_
  rintro e w1 ⟨rfl, hx1⟩
  have HX1 := hide hx1
  clear hx1
  go_wp2_with fail
  refine (HLN.out w1 HX1.out).mono ?_
  rintro e w2 ⟨A2, m2, c2, rfl, hmc2, hl2, hr2, hx2⟩
  have HX2 := hide (HX1.out.trans hx2)
  have HR2 := hide hr2
  have HL2 := hide hl2
  clear hx2 hr2 hl2
  have hsm := lines_small b
  have HSM := hide hsm
  have hm2 : m2 ≤ 1025 := by have := HL2.out; have := HBM.out; omega
  have HP := hide (pick_head k hk (linesP b) w2 A n c B A2 m2 c2 w2.heap.size (HLL.out.ext HX2.out) (HX2.out.reads HRA.out hB) (Nat.le_trans hB HX2.out.size) HR2.out (Nat.le_refl _) hmc2 (by omega) (fun s hs => by have h1 := hsm.2 s hs; have := HBM.out; omega))
  have HTL := hide (picks_text (picks_take k) b (by have := HBM.out; omega))
  have HPL := hide ((picks_take k (linesP b)).1)
  clear hsm
  go_wp2_with fail
  refine HP.out.mono ?_
  rintro e w3 ⟨A3, m3, c3, rfl, hmc3, hl3, hr3, hx3⟩
  have HX3 := hide (HX2.out.trans hx3)
  have HTX := hide (text_any _ A3 m3 c3 w3.heap.size w3 hr3 (Nat.le_refl _) hl3 (by have h1 := HPL.out; have h2 := HL2.out; rw [← hl3]; omega) HTL.out)
  clear hl3 hr3 hx3
  go_wp2_with fail
  refine HTX.out.mono ?_
  rintro e w4 ⟨A4, m4, c4, rfl, hl4, ho4, hx4⟩
  have HO4 := hide ho4
  have HX4 := hide (HX3.out.trans hx4)
  clear hl4 ho4 hx4
  go_wp2_with fail
  go_ret3
  exact mean_own HO4.out HX4.out
set_option maxHeartbeats 4000000 in
set_option maxRecDepth 100000 in
theorem mean_tail (k : Nat) (hk : k ≤ 999) : MeanAt [116, 97, 105, 108] [Lib.itoa (k : Int)] (fun b => textP (tailL k (linesP b))) (fun _ => 0) := by
  intro b w A n c B A' m c' B' hL hra hB hnc hrb hB' hmc hm hA'
  have hbm := bytes_len hrb
  have HCK := hide (check_tail k hk w A n c B hL hra hB hnc)
  have HLN := hide (fun W (hx : Ext w W) => lines_any b A' m c' B' W (hx.reads hrb hB') (Nat.le_trans hB' hx.size) hbm (by omega) (hL.ext hx))
  have HLL := hide hL
  have HRA := hide hra
  have HRB := hide hrb
  have HBM := hide hbm
  have t0 : decide ((m : Int) > 1024) = false := decide_eq_false (by omega)
  have t0' : decide ((1024 : Int) < (m : Int)) = false := decide_eq_false (by omega)
  have HA' := hide hA'
  clear hL hra hrb hbm hA'
  show Calls _ _ #[.string ⟨#[116, 97, 105, 108]⟩, .slice A n c, .slice A' m c'] w _
  go_enter Tryz.func20, Tryz.ntmps20
  go_wp2_with fail
  refine HCK.out.mono ?_
  rintro e w1 ⟨rfl, hx1⟩
  have HX1 := hide hx1
  clear hx1
  go_wp2_with fail
  refine (HLN.out w1 HX1.out).mono ?_
  rintro e w2 ⟨A2, m2, c2, rfl, hmc2, hl2, hr2, hx2⟩
  have HX2 := hide (HX1.out.trans hx2)
  have HR2 := hide hr2
  have HL2 := hide hl2
  clear hx2 hr2 hl2
  have hsm := lines_small b
  have HSM := hide hsm
  have hm2 : m2 ≤ 1025 := by have := HL2.out; have := HBM.out; omega
  have HP := hide (pick_tail k hk (linesP b) w2 A n c B A2 m2 c2 w2.heap.size (HLL.out.ext HX2.out) (HX2.out.reads HRA.out hB) (Nat.le_trans hB HX2.out.size) HR2.out (Nat.le_refl _) hmc2 (by omega) (fun s hs => by have h1 := hsm.2 s hs; have := HBM.out; omega))
  have HTL := hide (picks_text (picks_tail k) b (by have := HBM.out; omega))
  have HPL := hide ((picks_tail k (linesP b)).1)
  clear hsm
  go_wp2_with fail
  refine HP.out.mono ?_
  rintro e w3 ⟨A3, m3, c3, rfl, hmc3, hl3, hr3, hx3⟩
  have HX3 := hide (HX2.out.trans hx3)
  have HTX := hide (text_any _ A3 m3 c3 w3.heap.size w3 hr3 (Nat.le_refl _) hl3 (by have h1 := HPL.out; have h2 := HL2.out; rw [← hl3]; omega) HTL.out)
  clear hl3 hr3 hx3
  go_wp2_with fail
  refine HTX.out.mono ?_
  rintro e w4 ⟨A4, m4, c4, rfl, hl4, ho4, hx4⟩
  have HO4 := hide ho4
  have HX4 := hide (HX3.out.trans hx4)
  clear hl4 ho4 hx4
  go_wp2_with fail
  go_ret3
  exact mean_own HO4.out HX4.out
set_option maxHeartbeats 4000000 in
set_option maxRecDepth 100000 in
theorem mean_tac : MeanAt [116, 97, 99] [] (fun b => textP (List.reverse (linesP b))) (fun _ => 0) := by
  intro b w A n c B A' m c' B' hL hra hB hnc hrb hB' hmc hm hA'
  have hbm := bytes_len hrb
  have HCK := hide (check_tac w A n c B hL hra hB hnc)
  have HLN := hide (fun W (hx : Ext w W) => lines_any b A' m c' B' W (hx.reads hrb hB') (Nat.le_trans hB' hx.size) hbm (by omega) (hL.ext hx))
  have HLL := hide hL
  have HRA := hide hra
  have HRB := hide hrb
  have HBM := hide hbm
  have t0 : decide ((m : Int) > 1024) = false := decide_eq_false (by omega)
  have t0' : decide ((1024 : Int) < (m : Int)) = false := decide_eq_false (by omega)
  have HA' := hide hA'
  clear hL hra hrb hbm hA'
  show Calls _ _ #[.string ⟨#[116, 97, 99]⟩, .slice A n c, .slice A' m c'] w _
  go_enter Tryz.func20, Tryz.ntmps20
  go_wp2_with fail
  refine HCK.out.mono ?_
  rintro e w1 ⟨rfl, hx1⟩
  have HX1 := hide hx1
  clear hx1
  go_wp2_with fail
  refine (HLN.out w1 HX1.out).mono ?_
  rintro e w2 ⟨A2, m2, c2, rfl, hmc2, hl2, hr2, hx2⟩
  have HX2 := hide (HX1.out.trans hx2)
  have HR2 := hide hr2
  have HL2 := hide hl2
  clear hx2 hr2 hl2
  have hsm := lines_small b
  have HSM := hide hsm
  have hm2 : m2 ≤ 1025 := by have := HL2.out; have := HBM.out; omega
  have HP := hide (pick_tac (linesP b) w2 A n c B A2 m2 c2 w2.heap.size (HLL.out.ext HX2.out) (HX2.out.reads HRA.out hB) (Nat.le_trans hB HX2.out.size) HR2.out (Nat.le_refl _) hmc2 (by omega) (fun s hs => by have h1 := hsm.2 s hs; have := HBM.out; omega))
  have HTL := hide (picks_text (picks_rev) b (by have := HBM.out; omega))
  have HPL := hide ((picks_rev (linesP b)).1)
  clear hsm
  go_wp2_with fail
  refine HP.out.mono ?_
  rintro e w3 ⟨A3, m3, c3, rfl, hmc3, hl3, hr3, hx3⟩
  have HX3 := hide (HX2.out.trans hx3)
  have HTX := hide (text_any _ A3 m3 c3 w3.heap.size w3 hr3 (Nat.le_refl _) hl3 (by have h1 := HPL.out; have h2 := HL2.out; rw [← hl3]; omega) HTL.out)
  clear hl3 hr3 hx3
  go_wp2_with fail
  refine HTX.out.mono ?_
  rintro e w4 ⟨A4, m4, c4, rfl, hl4, ho4, hx4⟩
  have HO4 := hide ho4
  have HX4 := hide (HX3.out.trans hx4)
  clear hl4 ho4 hx4
  go_wp2_with fail
  go_ret3
  exact mean_own HO4.out HX4.out
set_option maxHeartbeats 4000000 in
set_option maxRecDepth 100000 in
theorem mean_uniq : MeanAt [117, 110, 105, 113] [] (fun b => textP (Lib.compact (linesP b))) (fun _ => 0) := by
  intro b w A n c B A' m c' B' hL hra hB hnc hrb hB' hmc hm hA'
  have hbm := bytes_len hrb
  have HCK := hide (check_uniq w A n c B hL hra hB hnc)
  have HLN := hide (fun W (hx : Ext w W) => lines_any b A' m c' B' W (hx.reads hrb hB') (Nat.le_trans hB' hx.size) hbm (by omega) (hL.ext hx))
  have HLL := hide hL
  have HRA := hide hra
  have HRB := hide hrb
  have HBM := hide hbm
  have t0 : decide ((m : Int) > 1024) = false := decide_eq_false (by omega)
  have t0' : decide ((1024 : Int) < (m : Int)) = false := decide_eq_false (by omega)
  have HA' := hide hA'
  clear hL hra hrb hbm hA'
  show Calls _ _ #[.string ⟨#[117, 110, 105, 113]⟩, .slice A n c, .slice A' m c'] w _
  go_enter Tryz.func20, Tryz.ntmps20
  go_wp2_with fail
  refine HCK.out.mono ?_
  rintro e w1 ⟨rfl, hx1⟩
  have HX1 := hide hx1
  clear hx1
  go_wp2_with fail
  refine (HLN.out w1 HX1.out).mono ?_
  rintro e w2 ⟨A2, m2, c2, rfl, hmc2, hl2, hr2, hx2⟩
  have HX2 := hide (HX1.out.trans hx2)
  have HR2 := hide hr2
  have HL2 := hide hl2
  clear hx2 hr2 hl2
  have hsm := lines_small b
  have HSM := hide hsm
  have hm2 : m2 ≤ 1025 := by have := HL2.out; have := HBM.out; omega
  have HP := hide (pick_uniq (linesP b) w2 A n c B A2 m2 c2 w2.heap.size (HLL.out.ext HX2.out) (HX2.out.reads HRA.out hB) (Nat.le_trans hB HX2.out.size) HR2.out (Nat.le_refl _) hmc2 (by omega) (fun s hs => by have h1 := hsm.2 s hs; have := HBM.out; omega))
  have HTL := hide (picks_text (picks_compact) b (by have := HBM.out; omega))
  have HPL := hide ((picks_compact (linesP b)).1)
  clear hsm
  go_wp2_with fail
  refine HP.out.mono ?_
  rintro e w3 ⟨A3, m3, c3, rfl, hmc3, hl3, hr3, hx3⟩
  have HX3 := hide (HX2.out.trans hx3)
  have HTX := hide (text_any _ A3 m3 c3 w3.heap.size w3 hr3 (Nat.le_refl _) hl3 (by have h1 := HPL.out; have h2 := HL2.out; rw [← hl3]; omega) HTL.out)
  clear hl3 hr3 hx3
  go_wp2_with fail
  refine HTX.out.mono ?_
  rintro e w4 ⟨A4, m4, c4, rfl, hl4, ho4, hx4⟩
  have HO4 := hide ho4
  have HX4 := hide (HX3.out.trans hx4)
  clear hl4 ho4 hx4
  go_wp2_with fail
  go_ret3
  exact mean_own HO4.out HX4.out
set_option maxHeartbeats 4000000 in
set_option maxRecDepth 100000 in
theorem mean_grep (g : Bs) (hg : g ≠ []) : MeanAt [103, 114, 101, 112] [g] (fun b => textP ((linesP b).filter fun s => Lib.contains s g)) (fun b => grepSt ((linesP b).filter fun s => Lib.contains s g)) := by
  intro b w A n c B A' m c' B' hL hra hB hnc hrb hB' hmc hm hA'
  have hbm := bytes_len hrb
  have HCK := hide (check_grep g hg w A n c B hL hra hB hnc)
  have HLN := hide (fun W (hx : Ext w W) => lines_any b A' m c' B' W (hx.reads hrb hB') (Nat.le_trans hB' hx.size) hbm (by omega) (hL.ext hx))
  have HLL := hide hL
  have HRA := hide hra
  have HRB := hide hrb
  have HBM := hide hbm
  have t0 : decide ((m : Int) > 1024) = false := decide_eq_false (by omega)
  have t0' : decide ((1024 : Int) < (m : Int)) = false := decide_eq_false (by omega)
  have HA' := hide hA'
  clear hL hra hrb hbm hA'
  obtain ⟨F, hF⟩ : ∃ F, ((linesP b).filter fun s => Lib.contains s g) = F := ⟨_, rfl⟩
  have htl := picks_text (picks_filter fun s => Lib.contains s g) b (by have := HBM.out; omega)
  have hpl := (picks_filter (fun s => Lib.contains s g) (linesP b)).1
  have hp := pick_grep g (linesP b)
  dsimp only at htl hpl hp
  rw [hF] at htl hpl
  have HTL := hide htl
  have HPL := hide hpl
  have HP0 := hide hp
  rw [hF] at HP0
  clear htl hpl hp
  show Calls _ _ _ _ (MeanPost w (textP ((linesP b).filter fun s => Lib.contains s g)) (grepSt ((linesP b).filter fun s => Lib.contains s g)))
  rw [hF]
  clear hF
  show Calls _ _ #[.string ⟨#[103, 114, 101, 112]⟩, .slice A n c, .slice A' m c'] w (MeanPost w (textP F) (grepSt F))
  go_enter Tryz.func20, Tryz.ntmps20
  go_wp2_with fail
  refine HCK.out.mono ?_
  rintro e w1 ⟨rfl, hx1⟩
  have HX1 := hide hx1
  clear hx1
  go_wp2_with fail
  refine (HLN.out w1 HX1.out).mono ?_
  rintro e w2 ⟨A2, m2, c2, rfl, hmc2, hl2, hr2, hx2⟩
  have HX2 := hide (HX1.out.trans hx2)
  have HR2 := hide hr2
  have HL2 := hide hl2
  clear hx2 hr2 hl2
  have hsm := lines_small b
  have hm2 : m2 ≤ 1025 := by have := HL2.out; have := HBM.out; omega
  have HP := hide (HP0.out w2 A n c B A2 m2 c2 w2.heap.size (HLL.out.ext HX2.out) (HX2.out.reads HRA.out hB) (Nat.le_trans hB HX2.out.size) HR2.out (Nat.le_refl _) hmc2 (by omega) (fun s hs => by have h1 := hsm.2 s hs; have := HBM.out; omega))
  clear hsm HP0
  go_wp2_with fail
  refine HP.out.mono ?_
  rintro e w3 ⟨A3, m3, c3, rfl, hmc3, hl3, hr3, hx3⟩
  have HX3 := hide (HX2.out.trans hx3)
  have HL3 := hide hl3
  have HTX := hide (text_any _ A3 m3 c3 w3.heap.size w3 hr3 (Nat.le_refl _) hl3 (by have h1 := HPL.out; have h2 := HL2.out; rw [← hl3]; omega) HTL.out)
  clear hl3 hr3 hx3
  by_cases h0 : m3 = 0
  · subst h0
    have hF : F = [] := List.eq_nil_of_length_eq_zero HL3.out
    subst hF
    go_wp2_with fail
    go_ret3
    exact mean_nil w _ 1 HX3.out
  · have t1 : ((m3 : Int) == 0) = false := beq_eq_false_iff_ne.2 (by omega)
    have HF := hide (show grepSt F = 0 from if_neg (by rw [HL3.out]; exact h0))
    clear h0
    go_wp2_with fail
    refine HTX.out.mono ?_
    rintro e w4 ⟨A4, m4, c4, rfl, hl4, ho4, hx4⟩
    have HO4 := hide ho4
    have HX4 := hide (HX3.out.trans hx4)
    clear hl4 ho4 hx4
    go_wp2_with fail
    go_ret3
    rw [HF.out]
    exact mean_own HO4.out HX4.out
end Go.Proofs.YtjmonkacijncbaaGreatDoor
