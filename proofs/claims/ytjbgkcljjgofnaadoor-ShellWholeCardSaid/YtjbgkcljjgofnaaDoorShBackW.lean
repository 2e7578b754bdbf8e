/- The walk of ShellBack. -/
import Derived.Test.YtjbgkcljjgofnaaDoorShTop
namespace Go.Proofs.YtjbgkcljjgofnaaDoor
open Go.RowKit
set_option linter.unusedVariables false

theorem line_small (zs : List Int) (m : Nat) (h : (idxL zs).length ≤ m) : (lineN (idxL zs)).length ≤ 6 * m := by
  have hl : ((idxL zs).map fun i => textL.getD i []).length ≤ m := by rw [List.length_map]; exact h
  refine Nat.le_trans (join_short _ ?_) (by omega)
  intro x hx
  obtain ⟨i, hi, rfl⟩ := List.mem_map.1 hx
  have h14 := idxL_lt zs i hi
  have key : ∀ i < 14, (textL.getD i []).length ≤ 5 := by decide
  exact key i h14
theorem line_prn (zs : List Int) : Printable (lineN (idxL zs)) := by
  refine prn_join _ ?_
  intro x hx
  obtain ⟨i, hi, rfl⟩ := List.mem_map.1 hx
  have h14 := idxL_lt zs i hi
  have key : ∀ i < 14, ∀ c ∈ textL.getD i [], 32 ≤ UInt8.toNat c ∧ UInt8.toNat c ≤ 126 := by decide
  exact key i h14
/-- The jobs of a raw line of at most m words, where there are some. -/
theorem raw_jobs (zs : List Int) (m : Nat) (hm : m ≤ 24) (hz : (idxL zs).length ≤ m) (w w' : World) (B : Nat) (X : Option (List (JobJ Tk))) (hok : ∀ ts, splitD (lineN (idxL zs)) = .ok ts → ∃ ls : List Tk, ls.map (·.1) = ts ∧ parseP oT 300 300 ls [] = X ∧ ∀ x ∈ ls, PartsAt w' B x) (js : List (JobJ Tk)) (hX : X = some js) :
    JobsOk' w' m js ∧ (lineJ js).length ≤ 6 * (m + 1) := by
  obtain ⟨ms, h1, h2, h3, h4⟩ := line_split2 (idxL zs) (idxL_lt zs)
  obtain ⟨ls, h5, h6, h7⟩ := hok ms h1
  rw [hX] at h6
  have hln : ls.length ≤ m := by rw [← h5, List.length_map] at h3; omega
  have h8 := jobs_ok w w' B m _ ms (Nat.le_trans (line_small zs m hz) (by omega)) h1 h2 (by omega) ls h5 h7 js h6
  have h9 := short_fit m ls hln (fun x hx => h4 x.1 (by rw [← h5]; exact List.mem_map.2 ⟨x, hx, rfl⟩)) js h6
  exact ⟨h8, line_len m (m + 1) js h9 h8.cnt⟩
/-- The jobs of a line that is printed. -/
theorem printed_jobs (N : Nat) (hN : N ≤ 24) (js : List (JobJ Tk)) (h8 : js.length ≤ 8) (hfit : ∀ j ∈ js, JobFit oT (fun x => TokOk x.1) N j) (hlen : (lineJ js).length ≤ 200) (w w' : World) (B : Nat) (X : Option (List (JobJ Tk))) (hok : ∀ ts, splitD (lineJ js) = .ok ts → ∃ ls : List Tk, ls.map (·.1) = ts ∧ parseP oT 300 300 ls [] = X ∧ ∀ x ∈ ls, PartsAt w' B x) :
    ∃ ks, X = some ks ∧ bareJ ks = bareJ js ∧ JobsOk' w' 200 ks := by
  obtain ⟨ms, h1, h2, h3⟩ := line_law N 300 300 (by omega) (by omega) (by omega) js h8 hfit
  obtain ⟨ls, h5, h6, h7⟩ := hok ms h1
  obtain ⟨ks, h9, h10⟩ := h3 ls h5
  rw [h9] at h6
  have hc := splitD_count h1
  exact ⟨ks, h6.symm, h10, jobs_ok w w' B 200 _ ms hlen h1 h2 (by omega) ls h5 h7 ks h9⟩
theorem lineJ_prn (N : Nat) (js : List (JobJ Tk)) (hfit : ∀ j ∈ js, JobFit oT (fun x => TokOk x.1) N j) : Printable (lineJ js) :=
  prn_line (toksJ js) (fun t ht => by
    obtain ⟨x, hx, rfl⟩ := List.mem_map.1 ht
    exact jobs_toks js hfit x hx)
theorem count_ok {w : World} {N : Nat} (hN : N ≤ 900) {js : List (JobJ Tk)} (h : JobsOk' w N js) : (jobsF sgK js).length ≤ 1000 := by
  have := jobsF_len oT sgK js (fun j hj => (h.tok j hj).ok)
  have := h.cnt
  omega
set_option maxHeartbeats 8000000 in
set_option maxRecDepth 100000 in
theorem sback_walk (A : Option Addr) (n c : Nat) (zs : List Int) (w : World) (hr : Reads w w.heap.size 1 A n (intsV zs)) (hz : ∀ z ∈ zs, -9223372036854775808 ≤ z ∧ z ≤ 9223372036854775807) (hn : n ≤ maxLen) (hm : MaxAt w) :
    Calls Tryd.prog 3 #[.slice A n c] w fun e w' => e = .returned (.bool true) ∧ Ext w w' := by
  have HL := hide (lineOf_any A n c zs w hr hz hn)
  have h24 : (idxL zs).length ≤ 24 := by simp [idxL]; omega
  have HRAW := hide (raw_jobs zs 24 (by omega) h24)
  have HJ1 := hide (fun W => jobsOf_any (lineN (idxL zs)) (Nat.le_trans (line_small zs 24 h24) (by omega)) (line_prn zs) W)
  have HJ2 := hide (fun W => jobsOf_any [97, 32, 124, 32, 98, 32, 62, 32, 99, 32, 38, 38, 32, 100, 32, 38] (by decide) (by show ∀ c ∈ [97, 32, 124, 32, 98, 32, 62, 32, 99, 32, 38, 38, 32, 100, 32, 38], 32 ≤ UInt8.toNat c ∧ UInt8.toNat c ≤ 126; decide) W)
  have HM := hide hm
  generalize lineN (idxL zs) = s at *
  clear hr hz hm h24
  go_enter Tryd.func3, Tryd.ntmps3
  go_wp2_with fail
  refine HL.out.mono ?_
  rintro e w0 ⟨rfl, hx0⟩
  have HX0 := hide hx0
  clear hx0 HL
  go_wp2_with fail
  refine (HJ1.out w0).mono ?_
  rintro e w1 ⟨A1, n1, c1, X, rfl, hx1, -, hok1, hjs1⟩
  have HX1 := hide (HX0.out.trans hx1)
  have HOK1 := hide hok1
  have HJS1 := hide hjs1
  clear hx1 hok1 hjs1 HJ1
  generalize hbx : X.isSome = bx at *
  have HBX := hide hbx
  clear hbx
  go_wp2_with fail
  refine (HJ2.out w1).mono ?_
  rintro e w2 ⟨A2, n2, c2, X2, rfl, hx2, -, hok2, hjs2⟩
  have HX2 := hide (HX1.out.trans hx2)
  have HX12 := hide hx2
  obtain ⟨ls2, hl1, hl2, -⟩ := hok2 oneT split_one
  obtain ⟨js2, hp2, hs2⟩ := shape_of ls2 oneT hl1 _ shp_one
  rw [hp2] at hl2
  obtain rfl := hl2.symm
  obtain ⟨vs2, hv2, -⟩ := hjs2 js2 rfl
  obtain ⟨rfl, b, off, rfl, q1, b2, off2, c3, q2, A3, c4, q3⟩ := one_cells hv2 hs2
  clear hl1 hp2 hs2 hv2 hok2 hjs2 hx2 hl2 HJ2
  rw [show (some js2).isSome = true from rfl]
  cases bx with
  | false =>
    go_wp2_with fail
    go_ret
    exact ⟨rfl, HX2.out⟩
  | true =>
    obtain ⟨js, hX⟩ : ∃ js, X = some js := by
      cases X with
      | none => have := HBX.out; cases this
      | some js => exact ⟨js, rfl⟩
    obtain ⟨vs, hv, hn8⟩ := HJS1.out js hX
    obtain ⟨hok, hlen⟩ := HRAW.out w0 w1 w0.heap.size X HOK1.out js hX
    have HLEN := hide hlen
    have HOK := hide (hok.ext HX12.out)
    have HV := hide (hv.ext HX12.out)
    have hpr := print_jobs 24 js A1 n1 c1 w0.heap.size vs w2 HV.out hn8 HOK.out.good (by omega) (count_ok (by omega) HOK.out) (by omega) (HM.out.ext HX2.out)
    have HPR := hide hpr
    have HJ3 := hide (fun W => jobsOf_any (lineJ js) (by omega) (lineJ_prn 24 js HOK.out.tok) W)
    have HPJ := hide (printed_jobs 24 (by omega) js HOK.out.eight HOK.out.tok (by omega))
    clear hpr hv hok hlen HJS1 HOK1 HBX hX HRAW
    go_wp2_with fail
    refine HPR.out.mono ?_
    rintro e w3 ⟨rfl, hx3⟩
    have HX3 := hide (HX2.out.trans hx3)
    have HX23 := hide hx3
    clear hx3 HPR
    generalize lineJ js = lj at *
    go_wp2_with fail
    refine (HJ3.out w3).mono ?_
    rintro e w4 ⟨A4, n4, c4', X4, rfl, hx4, -, hok4, hjs4⟩
    obtain ⟨ks, rfl, hbare, hok5⟩ := HPJ.out w3 w4 w3.heap.size X4 hok4
    obtain ⟨vs4, hv4, hn4⟩ := hjs4 ks rfl
    have HX4 := hide (HX3.out.trans hx4)
    have HV4 := hide hv4
    have HOK5 := hide hok5
    have HP1 := hide (plain_any 24 js A1 n1 c1 w0.heap.size vs w4 (HV.out.ext (HX23.out.trans hx4)) hn8 (HOK.out.ext (HX23.out.trans hx4)).good (by omega) (plain_len w4 24 (by omega) js HOK.out.eight (HOK.out.ext (HX23.out.trans hx4)).good) (HM.out.ext HX4.out))
    have HP2 := hide (fun (W : World) (hx : Ext w4 W) => plain_any 200 ks A4 n4 c4' w3.heap.size vs4 W (HV4.out.ext hx) hn4 (HOK5.out.ext hx).good (by omega) (plain_len W 200 (by omega) ks HOK5.out.eight (HOK5.out.ext hx).good) (HM.out.ext (HX4.out.trans hx)))
    have hpl : ks.flatMap jobK = js.flatMap jobK := by rw [plainK_bare, plainK_bare, hbare]
    rw [hpl] at HP2
    generalize js.flatMap jobK = T at *
    clear hx4 hok4 hjs4 hv4 hok5 hbare hpl HJ3 HPJ
    rw [show (some ks).isSome = true from rfl]
    go_wp2_with fail
    refine HP1.out.mono ?_
    rintro e w5 ⟨rfl, hx5⟩
    have HX5 := hide (HX4.out.trans hx5)
    have HX45 := hide hx5
    clear hx5
    go_wp2_with fail
    refine (HP2.out w5 HX45.out).mono ?_
    rintro e w6 ⟨rfl, hx6⟩
    have HX6 := hide (HX5.out.trans hx6)
    clear hx6
    go_wp2_with fail
    go_ret
    exact ⟨by first | rfl | simp, HX6.out⟩
end Go.Proofs.YtjbgkcljjgofnaaDoor
