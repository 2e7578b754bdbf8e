/- tools.turned, and tools.Mean at cut and nl. Printed by gen_turn.py. -/
import Derived.Test.YtjmonkacijncbaaGreatDoorTlMeanS
namespace Go.Proofs.YtjmonkacijncbaaGreatDoor
open Go.RowKit
set_option linter.unusedVariables false

def turnP (f : Nat → Bs → Bs) (L : List Bs) (k : Nat) : List Bs := (List.range k).map fun i => f i (L[i]?.getD [])
theorem turn_succ (f : Nat → Bs → Bs) (L : List Bs) (k : Nat) : turnP f L (k + 1) = turnP f L k ++ [f k (L[k]?.getD [])] := by simp [turnP, List.range_succ]
theorem turn_len (f : Nat → Bs → Bs) (L : List Bs) (k : Nat) : (turnP f L k).length = k := by simp [turnP]
def cutF (a b : Nat) (i : Nat) (s : Bs) : Bs := (s.drop (min (a - 1) s.length)).take (min b s.length - min (a - 1) s.length)
def nlF (i : Nat) (s : Bs) : Bs := Lib.itoa ((i : Int) + 1) ++ [32] ++ s
theorem turn_text (f : Nat → Bs → Bs) (b : Bs) (hb : b.length ≤ 1024) (hf : ∀ i s, i ≤ 1025 → s.length ≤ 1024 → (f i s).length ≤ s.length + 100) : (textP (turnP f (linesP b) (linesP b).length)).length ≤ 2000000 := by
  have hs := lines_small b
  have h := text_len (turnP f (linesP b) (linesP b).length) 1124 (fun x hx => by
    obtain ⟨i, hi, rfl⟩ := List.mem_map.1 hx
    have hi2 : i < (linesP b).length := List.mem_range.1 hi
    have hm : ((linesP b)[i]?.getD []).length ≤ b.length := by
      rw [List.getElem?_eq_getElem hi2]
      exact hs.2 _ (List.getElem_mem hi2)
    have := hf i _ (by omega) (Nat.le_trans hm hb)
    omega)
  rw [turn_len] at h
  have h1 : (linesP b).length * (1124 + 1) ≤ 1025 * 1125 := Nat.mul_le_mul (by omega) (by omega)
  omega
theorem extract_str2 (s : Bs) (a b : Nat) : (str s).extract a b = str ((s.drop a).take (b - a)) := by
  rw [str, ByteArray.extract_mk, str]
theorem dec_step (j q : Nat) (h : ∀ n, n < q → (Lib.decDigits n).length ≤ j) (h1 : 1 ≤ j) (n : Nat) (hn : n < 10 * q) : (Lib.decDigits n).length ≤ j + 1 := by
  by_cases h10 : n < 10
  · rw [Lib.decDigits_one h10]; simp
  · rw [dec_more n (by omega), List.length_append]
    have := h (n / 10) (by omega)
    simp only [digit, List.length_cons, List.length_nil]
    omega
theorem itoa_len6 (k : Nat) (h : k < 999999) : (Lib.itoa ((k : Int) + 1)).length ≤ 6 := by
  rw [show (k : Int) + 1 = ((k + 1 : Nat) : Int) by omega, itoa_nat]
  exact dec_step 5 100000 (dec_step 4 10000 (dec_step 3 1000 (fun n hn => dec_len n hn) (by omega)) (by omega)) (by omega) _ (by omega)
def TurnAt (nm : Bs) (args : List Bs) (f : Nat → Bs → Bs) : Prop := ∀ (L : List Bs) (w : World) (A : Option Addr) (n c B : Nat) (A' : Option Addr) (m c' B' : Nat), LibOk w → Reads w B 1 A n (strsV args) → B ≤ w.heap.size → Reads w B' 1 A' m (strsV L) → B' ≤ w.heap.size → m ≤ c' → m ≤ 100000 → (∀ s ∈ L, s.length ≤ 100000) →
  Calls Tryz.prog 44 #[.string (str nm), .slice A n c, .slice A' m c'] w (LsOut w (turnP f L L.length))
def TnRel (w : World) (f : Nat → Bs → Bs) (L : List Bs) (n : Nat) (v7 v16 : Value) (wr : World) : Prop :=
  ∃ (k : Nat) (A : Option Addr) (c : Nat), k ≤ n ∧ v16 = .int .i64 (k : Int) ∧ v7 = .slice A k c ∧ wr.ownsRow w.heap.size 9 1 (.slice A k c) k (strsV (turnP f L k)) ∧ Ext w wr
set_option maxHeartbeats 4000000 in
set_option maxRecDepth 100000 in
theorem turn_cut_ (a b : Nat) (h1 : 1 ≤ a) (hab : a ≤ b) (hb9 : b ≤ 999) : TurnAt [99, 117, 116] [Lib.itoa (a : Int), Lib.itoa (b : Int)] (cutF a b) := by
  intro L w A n c B A' m c' B' hL hra hB hrl hB' hmc hm hls
  have hml : L.length = m := (args_len hrl).symm
  have HML := hide hml
  have HLL := hide hL
  have HLS := hide hls
  obtain ⟨i0, hi0, hz0, hz1, hz2⟩ := info_parts strg_info
  have HNA := hide (fun W hW => number_nat a (by omega) W hW)
  have HNB := hide (fun W hW => number_nat b hb9 W hW)
  have hnl := args_len hra
  have HRA := hide hra
  have HRL := hide hrl
  clear hL hra hrl hml hls
  obtain rfl : n = 2 := by simpa using hnl
  obtain ⟨ba, oa, rfl, hba, hca⟩ := arg_cell HRA.out (by omega)
  have ca0 : w.cell? ⟨ba, oa, none⟩ = some (.string (str (Lib.itoa (a : Int)))) := hca 0 _ rfl
  have ca1 : w.cell? ⟨ba, oa + 1, none⟩ = some (.string (str (Lib.itoa (b : Int)))) := hca 1 _ rfl
  have HC0 := hide ca0
  have HC1 := hide ca1
  clear hca ca0 ca1 hnl
  show Calls _ _ #[.string ⟨#[99, 117, 116]⟩, .slice (some ⟨ba, oa, none⟩) 2 c, .slice A' m c'] w _
  rw [HML.out]
  go_enter Tryz.func44, Tryz.ntmps44
  go_wp2_with fail
  go_loopw [7, 16] (TnRel w (cutF a b) L m) (fun _ v _ => m - (intOf v).toNat)
  case atStart => exact ⟨0, none, 0, Nat.zero_le _, rfl, rfl, World.ownsRow_nil _ _ _ _, Ext.refl w⟩
  case round =>
    obtain ⟨k, A7, c7, hk, rfl, rfl, ho, hx⟩ := hrel
    have HO := hide ho
    have HX := hide hx
    clear ho hx
    by_cases hlt : k < m
    · obtain ⟨b2, off, rfl, hb2, hc2⟩ := HRL.out.at1 (by omega)
      have hkl : k < L.length := by rw [HML.out]; exact hlt
      have q0 : wr.cell? ⟨b2, off + k, none⟩ = some (.string (str L[k])) := by
        have := HX.out.cell (hc2 k hlt)
        simpa [strsV, hkl] using this
      have hxl : L[k].length ≤ 100000 := HLS.out _ (List.getElem_mem hkl)
      have HT := hide (turn_succ (cutF a b) L k)
      rw [List.getElem?_eq_getElem hkl, Option.getD_some] at HT
      clear hc2
      generalize L[k] = x at *
      have q1 : wr.cell? ⟨ba, oa, none⟩ = some (.string (str (Lib.itoa (a : Int)))) := HX.out.cell HC0.out
      have hq : (str x).size = x.length := str_size x
      obtain ⟨lo, hlo⟩ : ∃ lo, min (a - 1) x.length = lo := ⟨_, rfl⟩
      obtain ⟨hi, hhi⟩ : ∃ hi, min b x.length = hi := ⟨_, rfl⟩
      have e1 : IntKind.i64.wrap ((a : Int) - 1) = ((a - 1 : Nat) : Int) := by rw [IntKind.wrap_i64]; omega
      have e2 : min (((a - 1 : Nat) : Int)) ((str x).size : Int) = (lo : Int) := by rw [hq]; omega
      have e3 : min (b : Int) ((str x).size : Int) = (hi : Int) := by rw [hq]; omega
      have e4 : (lo : Int) ≤ (hi : Int) := by omega
      have e5 : (hi : Int) ≤ ((str x).size : Int) := by rw [hq]; omega
      have e6 : (0 : Int) ≤ (lo : Int) := by omega
      have hsl := fun wx => run_slice_string (P := Tryz.prog) (w := wx) 9 (str x) .i64 .i64 (lo : Int) (hi : Int) Tryz.underlying9 e6 e4 e5
      have HY := hide (show (str x).extract lo hi = str (cutF a b k x) from by rw [extract_str2]; unfold cutF; rw [hlo, hhi])
      rw [Int.toNat_natCast, Int.toNat_natCast] at hsl
      clear hq hlo hhi
      generalize str x = S0 at *
      generalize S0.extract lo hi = Y at *
      generalize a - 1 = a1 at *
      go_wp2_with fail
      refine (HNA.out wr (HLL.out.ext HX.out)).mono ?_
      rintro e w4 ⟨rfl, hx4⟩
      have HX4 := hide (HX.out.trans hx4)
      have HO4 := hide (hx4.own HO.out)
      have q2 : w4.cell? ⟨ba, oa + 1, none⟩ = some (.string (str (Lib.itoa (b : Int)))) := HX4.out.cell HC1.out
      clear hx4 q1
      go_wp2_with fail
      refine (HNB.out w4 (HLL.out.ext HX4.out)).mono ?_
      rintro e w5 ⟨rfl, hx5⟩
      have HX5 := hide (HX4.out.trans hx5)
      have HO5 := hide (hx5.own HO4.out)
      clear hx5 q2
      go_wp2_with (at_builtin; refine wpList_append_any _ rfl (.tmp 57) (.tmp 59) 30 rfl w.heap.size 9 i0 _ 1 16 Tryz.underlying30 hi0 hz0 hz1 hz2 rfl (by omega) (.slice A7 k c7) k (strsV (turnP (cutF a b) L k)) rfl (HO5.out.alloc _) _ _ 1 1 [.string Y] rfl (Blk.new w5 9 #[.string Y]).reads (by simp [Value.oneCell']) (by simp only [maxLen]; omega) (by omega) (Nat.le_trans HX5.out.size (by simp)) ?_; intro A8 c8 w8 ho8 hg8 ha8)
      have hx8 : Ext w w8 := (HX5.out.alloc _).grown hg8 (fun j hj => (HO5.out.lt j hj).1)
      go_roundw
      case rel => exact ⟨k + 1, A8, c8, by omega, by first | rfl | go_num, rfl, by rw [HT.out, strsV_append]; rw [show strsV [cutF a b k x] = [.string Y] from by rw [HY.out]; rfl]; exact ho8, hx8⟩
      case measure => simp [intOf]; omega
    · obtain rfl : k = m := by omega
      go_wp2_with fail
      go_ret
      exact lsout_own HO.out HX.out (turn_len _ _ _)
set_option maxHeartbeats 4000000 in
set_option maxRecDepth 100000 in
theorem turn_nl_ : TurnAt [110, 108] [] nlF := by
  intro L w A n c B A' m c' B' hL hra hB hrl hB' hmc hm hls
  have hml : L.length = m := (args_len hrl).symm
  have HML := hide hml
  have HLL := hide hL
  have HLS := hide hls
  obtain ⟨i0, hi0, hz0, hz1, hz2⟩ := info_parts strg_info
  have hnl := args_len hra
  have HRA := hide hra
  have HRL := hide hrl
  clear hL hra hrl hml hls
  obtain rfl : n = 0 := by simpa using hnl
  clear hnl
  show Calls _ _ #[.string ⟨#[110, 108]⟩, .slice A 0 c, .slice A' m c'] w _
  rw [HML.out]
  go_enter Tryz.func44, Tryz.ntmps44
  go_wp2_with fail
  go_loopw [7, 16] (TnRel w nlF L m) (fun _ v _ => m - (intOf v).toNat)
  case atStart => exact ⟨0, none, 0, Nat.zero_le _, rfl, rfl, World.ownsRow_nil _ _ _ _, Ext.refl w⟩
  case round =>
    obtain ⟨k, A7, c7, hk, rfl, rfl, ho, hx⟩ := hrel
    have HO := hide ho
    have HX := hide hx
    clear ho hx
    by_cases hlt : k < m
    · obtain ⟨b2, off, rfl, hb2, hc2⟩ := HRL.out.at1 (by omega)
      have hkl : k < L.length := by rw [HML.out]; exact hlt
      have q0 : wr.cell? ⟨b2, off + k, none⟩ = some (.string (str L[k])) := by
        have := HX.out.cell (hc2 k hlt)
        simpa [strsV, hkl] using this
      have hxl : L[k].length ≤ 100000 := HLS.out _ (List.getElem_mem hkl)
      have HT := hide (turn_succ nlF L k)
      rw [List.getElem?_eq_getElem hkl, Option.getD_some] at HT
      clear hc2
      generalize L[k] = x at *
      have HI := hide (itoa_lib ((k : Int) + 1) (by omega) (by omega) wr (HLL.out.ext HX.out))
      have e1 : IntKind.i64.wrap ((k : Int) + 1) = (k : Int) + 1 := by rw [IntKind.wrap_i64]; omega
      have hil : (Lib.itoa ((k : Int) + 1)).length ≤ 1000 := Nat.le_trans (itoa_len6 k (by omega)) (by decide)
      have hs1 : str (Lib.itoa ((k : Int) + 1)) ++ ⟨#[32]⟩ = str (Lib.itoa ((k : Int) + 1) ++ [32]) := str_append _ [32]
      have hs2 : str (Lib.itoa ((k : Int) + 1) ++ [32]) ++ str x = str (nlF k x) := by rw [str_append]; rfl
      have z1 : (str (Lib.itoa ((k : Int) + 1))).size ≤ 1000 := by rw [str_size]; exact hil
      have z2 : (str (Lib.itoa ((k : Int) + 1) ++ [32])).size ≤ 1001 := by rw [str_size, List.length_append]; simp; omega
      have z3 : (str x).size ≤ 100000 := by rw [str_size]; exact hxl
      have z4 : ¬ 9223372036854775807 < (str (Lib.itoa ((k : Int) + 1) ++ [32])).size + (str x).size := by omega
      obtain ⟨Y, hY⟩ : ∃ Y, str (nlF k x) = Y := ⟨_, rfl⟩
      rw [hY] at hs2
      have HY := hide (show strsV [nlF k x] = [.string Y] from by rw [← hY]; rfl)
      clear hil hY
      generalize str (Lib.itoa ((k : Int) + 1) ++ [32]) = S2 at *
      generalize str (Lib.itoa ((k : Int) + 1)) = S1 at *
      generalize str x = S0 at *
      go_wp2_with fail
      refine HI.out.mono ?_
      rintro e w5 ⟨rfl, hx5⟩
      have HX5 := hide (HX.out.trans hx5)
      have HO5 := hide (hx5.own HO.out)
      clear hx5
      go_wp2_with (at_builtin; refine wpList_append_any _ rfl (.tmp 57) (.tmp 59) 30 rfl w.heap.size 9 i0 _ 1 16 Tryz.underlying30 hi0 hz0 hz1 hz2 rfl (by omega) (.slice A7 k c7) k (strsV (turnP nlF L k)) rfl (HO5.out.alloc _) _ _ 1 1 [.string Y] rfl (Blk.new w5 9 #[.string Y]).reads (by simp [Value.oneCell']) (by simp only [maxLen]; omega) (by omega) (Nat.le_trans HX5.out.size (by simp)) ?_; intro A8 c8 w8 ho8 hg8 ha8)
      have hx8 : Ext w w8 := (HX5.out.alloc _).grown hg8 (fun j hj => (HO5.out.lt j hj).1)
      go_roundw
      case rel => exact ⟨k + 1, A8, c8, by omega, by first | rfl | go_num, rfl, by rw [HT.out, strsV_append]; rw [HY.out]; exact ho8, hx8⟩
      case measure => simp [intOf]; omega
    · obtain rfl : k = m := by omega
      go_wp2_with fail
      go_ret
      exact lsout_own HO.out HX.out (turn_len _ _ _)
set_option maxHeartbeats 4000000 in
set_option maxRecDepth 100000 in
theorem mean_cut_ (a b : Nat) (h1 : 1 ≤ a) (hab : a ≤ b) (hb9 : b ≤ 999) : MeanAt [99, 117, 116] [Lib.itoa (a : Int), Lib.itoa (b : Int)] (fun b0 => textP (turnP (cutF a b) (linesP b0) (linesP b0).length)) (fun _ => 0) := by
  intro b0 w A n c B A' m c' B' hL hra hB hnc hrb hB' hmc hm hA'
  have hbm := bytes_len hrb
  have HCK := hide (check_cut a b h1 hab hb9 w A n c B hL hra hB hnc)
  have HLN := hide (fun W (hx : Ext w W) => lines_any b0 A' m c' B' W (hx.reads hrb hB') (Nat.le_trans hB' hx.size) hbm (by omega) (hL.ext hx))
  have HLL := hide hL
  have HRA := hide hra
  have HRB := hide hrb
  have HBM := hide hbm
  have t0 : decide ((m : Int) > 1024) = false := decide_eq_false (by omega)
  have t0' : decide ((1024 : Int) < (m : Int)) = false := decide_eq_false (by omega)
  have HA' := hide hA'
  clear hL hra hrb hbm hA'
  show Calls _ _ #[.string ⟨#[99, 117, 116]⟩, .slice A n c, .slice A' m c'] w _
  go_enter Tryz.func20, Tryz.ntmps20
  go_wp2_with fail
  refine HCK.out.mono ?_
  rintro e w1 ⟨rfl, hx1⟩
  have HX1 := hide hx1
  clear hx1
  go_wp2_with fail
  refine (HLN.out w1 HX1.out).mono ?_
  rintro e w2 ⟨A2, m2, c2, rfl, hmc2, hl2, hr2, hx2⟩
  have HX2 := hide (HX1.out.trans hx2)
  have HR2 := hide hr2
  have HL2 := hide hl2
  clear hx2 hr2 hl2
  have hsm := lines_small b0
  have HSM := hide hsm
  have hm2 : m2 ≤ 1025 := by have := HL2.out; have := HBM.out; omega
  have HP := hide (turn_cut_ a b h1 hab hb9 (linesP b0) w2 A n c B A2 m2 c2 w2.heap.size (HLL.out.ext HX2.out) (HX2.out.reads HRA.out hB) (Nat.le_trans hB HX2.out.size) HR2.out (Nat.le_refl _) hmc2 (by omega) (fun s hs => by have h1 := hsm.2 s hs; have := HBM.out; omega))
  have HTL := hide (turn_text (cutF a b) b0 (by have := HBM.out; omega) (fun i s hi hs => by unfold cutF; rw [List.length_take, List.length_drop]; omega))
  have HPL := hide (turn_len (cutF a b) (linesP b0) (linesP b0).length)
  clear hsm
  go_wp2_with fail
  refine HP.out.mono ?_
  rintro e w3 ⟨A3, m3, c3, rfl, hmc3, hl3, hr3, hx3⟩
  have HX3 := hide (HX2.out.trans hx3)
  have HTX := hide (text_any _ A3 m3 c3 w3.heap.size w3 hr3 (Nat.le_refl _) hl3 (by have h1 := HPL.out; have h2 := HL2.out; rw [← hl3]; omega) HTL.out)
  clear hl3 hr3 hx3
  go_wp2_with fail
  refine HTX.out.mono ?_
  rintro e w4 ⟨A4, m4, c4, rfl, hl4, ho4, hx4⟩
  have HO4 := hide ho4
  have HX4 := hide (HX3.out.trans hx4)
  clear hl4 ho4 hx4
  go_wp2_with fail
  go_ret3
  exact mean_own HO4.out HX4.out
set_option maxHeartbeats 4000000 in
set_option maxRecDepth 100000 in
theorem mean_nl_ : MeanAt [110, 108] [] (fun b => textP (turnP nlF (linesP b) (linesP b).length)) (fun _ => 0) := by
  intro b w A n c B A' m c' B' hL hra hB hnc hrb hB' hmc hm hA'
  have hbm := bytes_len hrb
  have HCK := hide (check_nl w A n c B hL hra hB hnc)
  have HLN := hide (fun W (hx : Ext w W) => lines_any b A' m c' B' W (hx.reads hrb hB') (Nat.le_trans hB' hx.size) hbm (by omega) (hL.ext hx))
  have HLL := hide hL
  have HRA := hide hra
  have HRB := hide hrb
  have HBM := hide hbm
  have t0 : decide ((m : Int) > 1024) = false := decide_eq_false (by omega)
  have t0' : decide ((1024 : Int) < (m : Int)) = false := decide_eq_false (by omega)
  have HA' := hide hA'
  clear hL hra hrb hbm hA'
  show Calls _ _ #[.string ⟨#[110, 108]⟩, .slice A n c, .slice A' m c'] w _
  go_enter Tryz.func20, Tryz.ntmps20
  go_wp2_with fail
  refine HCK.out.mono ?_
  rintro e w1 ⟨rfl, hx1⟩
  have HX1 := hide hx1
  clear hx1
  go_wp2_with fail
  refine (HLN.out w1 HX1.out).mono ?_
  rintro e w2 ⟨A2, m2, c2, rfl, hmc2, hl2, hr2, hx2⟩
  have HX2 := hide (HX1.out.trans hx2)
  have HR2 := hide hr2
  have HL2 := hide hl2
  clear hx2 hr2 hl2
  have hsm := lines_small b
  have HSM := hide hsm
  have hm2 : m2 ≤ 1025 := by have := HL2.out; have := HBM.out; omega
  have HP := hide (turn_nl_ (linesP b) w2 A n c B A2 m2 c2 w2.heap.size (HLL.out.ext HX2.out) (HX2.out.reads HRA.out hB) (Nat.le_trans hB HX2.out.size) HR2.out (Nat.le_refl _) hmc2 (by omega) (fun s hs => by have h1 := hsm.2 s hs; have := HBM.out; omega))
  have HTL := hide (turn_text nlF b (by have := HBM.out; omega) (fun i s hi hs => by unfold nlF; rw [List.length_append, List.length_append]; have := itoa_len6 i (by omega); simp only [List.length_cons, List.length_nil]; omega))
  have HPL := hide (turn_len nlF (linesP b) (linesP b).length)
  clear hsm
  go_wp2_with fail
  refine HP.out.mono ?_
  rintro e w3 ⟨A3, m3, c3, rfl, hmc3, hl3, hr3, hx3⟩
  have HX3 := hide (HX2.out.trans hx3)
  have HTX := hide (text_any _ A3 m3 c3 w3.heap.size w3 hr3 (Nat.le_refl _) hl3 (by have h1 := HPL.out; have h2 := HL2.out; rw [← hl3]; omega) HTL.out)
  clear hl3 hr3 hx3
  go_wp2_with fail
  refine HTX.out.mono ?_
  rintro e w4 ⟨A4, m4, c4, rfl, hl4, ho4, hx4⟩
  have HO4 := hide ho4
  have HX4 := hide (HX3.out.trans hx4)
  clear hl4 ho4 hx4
  go_wp2_with fail
  go_ret3
  exact mean_own HO4.out HX4.out
end Go.Proofs.YtjmonkacijncbaaGreatDoor
