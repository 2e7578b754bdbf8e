/- The walk of ShellWhole. -/
import Derived.Test.YtjbgkcljjgofnaaDoorShBackW
namespace Go.Proofs.YtjbgkcljjgofnaaDoor
open Go.RowKit
set_option linter.unusedVariables false

theorem last_back (js : List (JobJ Tk)) (h : 0 < js.length) : js.getLast?.map JobJ.back = some (js[js.length - 1]).back := by
  rw [List.getLast?_eq_getElem?, List.getElem?_eq_getElem (by omega)]
  rfl
theorem reads_take {w : World} {B : Nat} {A : Option Addr} {n : Nat} {zs : List Int} (h : Reads w B 1 A n (intsV zs)) : Reads w B 1 A (min n 8) (intsV (zs.take 8)) := by
  have hl : zs.length = n := by have := h.1; rw [intsV_length] at this; omega
  have := h.take (k := min n 8) (by omega)
  rw [intsV_take] at this
  have e : zs.take (min n 8) = zs.take 8 := by
    rcases Nat.le_total n 8 with h8 | h8
    · rw [Nat.min_eq_left h8, List.take_of_length_le (by omega), List.take_of_length_le (by omega)]
    · rw [Nat.min_eq_right h8]
  rw [e] at this
  exact this
/-- What is known of one of the two lines. -/
theorem part_facts (zs : List Int) : (idxL (zs.take 8)).length ≤ 8 := by simp [idxL]; omega
set_option maxHeartbeats 8000000 in
set_option maxRecDepth 100000 in
theorem swhole_walk (A : Option Addr) (n c : Nat) (zs : List Int) (Ab : Option Addr) (nb cb : Nat) (zb : List Int) (w : World) (hr : Reads w w.heap.size 1 A n (intsV zs)) (hz : ∀ z ∈ zs, -9223372036854775808 ≤ z ∧ z ≤ 9223372036854775807) (hn : n ≤ c) (hc : c ≤ maxLen)
    (hrb : Reads w w.heap.size 1 Ab nb (intsV zb)) (hzb : ∀ z ∈ zb, -9223372036854775808 ≤ z ∧ z ≤ 9223372036854775807) (hnb : nb ≤ cb) (hcb : cb ≤ maxLen) (hm : MaxAt w) :
    Calls Tryd.prog 4 #[.slice A n c, .slice Ab nb cb] w fun e w' => e = .returned (.bool true) ∧ Ext w w' := by
  have HL1 := hide (lineOf_any A (min n 8) c (zs.take 8) w (reads_take hr) (fun z hz' => hz z (List.mem_of_mem_take hz')) (by omega))
  have HL2 := hide (fun (W : World) (hx : Ext w W) => lineOf_any Ab (min nb 8) cb (zb.take 8) W ((hx.reads (reads_take hrb) (Nat.le_refl _)).more hx.size) (fun z hz' => hzb z (List.mem_of_mem_take hz')) (by omega))
  have h8a := part_facts zs
  have h8b := part_facts zb
  have HRAW1 := hide (raw_jobs (zs.take 8) 8 (by omega) h8a)
  have HRAW2 := hide (raw_jobs (zb.take 8) 8 (by omega) h8b)
  have HJ1 := hide (fun W => jobsOf_any (lineN (idxL (zs.take 8))) (Nat.le_trans (line_small (zs.take 8) 8 h8a) (by omega)) (line_prn (zs.take 8)) W)
  have HJ2 := hide (fun W => jobsOf_any (lineN (idxL (zb.take 8))) (Nat.le_trans (line_small (zb.take 8) 8 h8b) (by omega)) (line_prn (zb.take 8)) W)
  have HJ3 := hide (fun W => jobsOf_any [97] (by decide) (by show ∀ c ∈ [97], 32 ≤ UInt8.toNat c ∧ UInt8.toNat c ≤ 126; decide) W)
  have HM := hide hm
  generalize lineN (idxL (zs.take 8)) = s1 at *
  generalize lineN (idxL (zb.take 8)) = s2 at *
  clear hr hz hm h8a h8b hrb hzb
  have hmin1 : (min (n : Int) 8) = ((min n 8 : Nat) : Int) := by omega
  have hmin2 : (min (nb : Int) 8) = ((min nb 8 : Nat) : Int) := by omega
  unfold maxLen at hc hcb
  go_enter Tryd.func4, Tryd.ntmps4
  go_wp2_with fail
  refine HL1.out.mono ?_
  rintro e w0 ⟨rfl, hx0⟩
  have HX0 := hide hx0
  clear hx0 HL1
  go_wp2_with fail
  refine (HJ1.out w0).mono ?_
  rintro e w1 ⟨A1, n1, c1, X, rfl, hx1, -, hok1, hjs1⟩
  have HX1 := hide (HX0.out.trans hx1)
  have HOK1 := hide hok1
  have HJS1 := hide hjs1
  clear hx1 hok1 hjs1 HJ1
  generalize hbx : X.isSome = bx at *
  have HBX := hide hbx
  clear hbx
  go_wp2_with fail
  refine (HL2.out w1 HX1.out).mono ?_
  rintro e w2 ⟨rfl, hx2⟩
  have HX2 := hide (HX1.out.trans hx2)
  have HX12 := hide hx2
  clear hx2 HL2
  go_wp2_with fail
  refine (HJ2.out w2).mono ?_
  rintro e w3 ⟨A2, n2, c2, Y, rfl, hx3, -, hok2, hjs2⟩
  have HX3 := hide (HX2.out.trans hx3)
  have HX13 := hide (HX12.out.trans hx3)
  have HOK2 := hide hok2
  have HJS2 := hide hjs2
  clear hx3 hok2 hjs2 HJ2
  generalize hby : Y.isSome = bY at *
  have HBY := hide hby
  clear hby
  go_wp2_with fail
  refine (HJ3.out w3).mono ?_
  rintro e w4 ⟨A3, n3, c3, X3, rfl, hx4, -, hok3, hjs3⟩
  have HX4 := hide (HX3.out.trans hx4)
  have HX14 := hide (HX13.out.trans hx4)
  have HX34 := hide hx4
  obtain ⟨ls3, hl1, hl2, -⟩ := hok3 _ split_a
  obtain ⟨js3, hp2, hs2⟩ := shape_of ls3 _ hl1 _ shp_a
  rw [hp2] at hl2
  obtain rfl := hl2.symm
  obtain ⟨vs3, hv3, -⟩ := hjs3 js3 rfl
  have h31 : n3 = 1 := by
    have h1 := (jobs_len hv3).1
    have h2 := congrArg List.length hs2
    simp [shp] at h2
    omega
  subst h31
  clear hl1 hp2 hs2 hv3 hok3 hjs3 hx4 hl2 HJ3 hmin1 hmin2 hn hc hnb hcb
  rw [show (some js3).isSome = true from rfl]
  cases bx with
  | false =>
    go_wp2_with fail
    go_ret
    exact ⟨rfl, HX4.out⟩
  | true =>
    cases bY with
    | false =>
      go_wp2_with fail
      go_ret
      exact ⟨rfl, HX4.out⟩
    | true =>
      obtain ⟨js, hX⟩ : ∃ js, X = some js := by
        cases X with
        | none => have := HBX.out; cases this
        | some js => exact ⟨js, rfl⟩
      obtain ⟨ks, hY⟩ : ∃ js, Y = some js := by
        cases Y with
        | none => have := HBY.out; cases this
        | some js => exact ⟨js, rfl⟩
      obtain ⟨vs, hv, hn8⟩ := HJS1.out js hX
      obtain ⟨us, hu, hm8⟩ := HJS2.out ks hY
      obtain ⟨hok, hlen⟩ := HRAW1.out w0 w1 w0.heap.size X HOK1.out js hX
      obtain ⟨hokk, hlenk⟩ := HRAW2.out w2 w3 w2.heap.size Y HOK2.out ks hY
      have hjl := (jobs_len hv).1
      have hkl := (jobs_len hu).1
      have HV := hide (hv.ext HX14.out)
      have HU := hide (hu.ext HX34.out)
      have HOK := hide (hok.ext HX14.out)
      have HOKK := hide (hokk.ext HX34.out)
      have HLEN := hide hlen
      have HLENK := hide hlenk
      clear hv hu hok hokk hlen hlenk HJS1 HJS2 HOK1 HOK2 HBX HBY hX hY HRAW1 HRAW2
      rcases Nat.eq_zero_or_pos n1 with h0 | h0
      · subst h0
        go_wp2_with fail
        go_ret
        exact ⟨rfl, HX4.out⟩
      · rcases Nat.eq_zero_or_pos n2 with h1 | h1
        · subst h1
          have t1 : ((n1 : Int) == 0) = false := by simp; omega
          go_wp2_with fail
          go_ret
          exact ⟨rfl, HX4.out⟩
        · obtain ⟨m, rfl⟩ : ∃ m, n1 = m + 1 := ⟨n1 - 1, by omega⟩
          have t1 : (((m + 1 : Nat) : Int) == 0) = false := by simp; omega
          have t1' : ((m : Int) + 1 == 0) = false := by simp; omega
          have t2 : ((n2 : Int) == 0) = false := by simp; omega
          obtain ⟨b, off, rfl, -⟩ := (Reads.of_own HV.out.row).addr (by omega) (by omega)
          have q1 := back_cell HV.out m (by omega)
          have hbk := last_back js (by omega)
          have hjm : js.length - 1 = m := by omega
          have hbk' : js.getLast?.map JobJ.back = some (js[m]'(by omega)).back := by
            rw [hbk]
            simp only [hjm]
          have HBK := hide hbk'
          clear hbk hbk' hjm
          generalize (js[m]'(by omega)).back = bb at *
          cases bb with
          | true =>
            go_wp2_with fail
            go_ret
            exact ⟨rfl, HX4.out⟩
          | false =>
            by_cases hsum : 8 < m + 1 + n2
            · have t3 : (8 : Int) < ((m + 1 : Nat) : Int) + (n2 : Int) := by omega
              go_wp2_with fail
              go_ret
              exact ⟨rfl, HX4.out⟩
            · have t3 : ¬ ((8 : Int) < ((m + 1 : Nat) : Int) + (n2 : Int)) := by omega
              go_upto_region 8 with fail
              have hok2 : ∀ j ∈ js ++ ks, JobFit oT (fun x => TokOk x.1) 8 j := fun j hj => (List.mem_append.1 hj).elim (HOK.out.tok j) (HOKK.out.tok j)
              have hline := line_app 8 js ks (fun e => by rw [e] at hjl; simp at hjl) (fun e => by rw [e] at hkl; simp at hkl; omega) HOK.out.tok HOKK.out.tok HBK.out
              have hl1 := HLEN.out
              have hl2 := HLENK.out
              have hll : (lineJ (js ++ ks)).length ≤ 200 := by
                rw [hline]
                simp only [List.length_append, List.length_cons, List.length_nil]
                omega
              have HPR1 := hide (print_jobs 8 js (some ⟨b, off, none⟩) (m + 1) c1 w0.heap.size vs w4 HV.out hn8 HOK.out.good (by omega) (count_ok (by omega) HOK.out) (by omega) (HM.out.ext HX4.out))
              have HPR2 := hide (fun (W : World) (hx : Ext w4 W) => print_jobs 8 ks A2 n2 c2 w2.heap.size us W (HU.out.ext hx) hm8 (HOKK.out.ext hx).good (by omega) (count_ok (by omega) HOKK.out) (by omega) (HM.out.ext (HX4.out.trans hx)))
              have HJ4 := hide (fun W => jobsOf_any (lineJ (js ++ ks)) hll (lineJ_prn 8 (js ++ ks) hok2) W)
              have HPJ := hide (printed_jobs 8 (by omega) (js ++ ks) (by rw [List.length_append]; omega) hok2 hll)
              have hz1 : (str (lineJ js)).size ≤ 100 := by rw [str_size]; omega
              have hz2 : (str (lineJ ks)).size ≤ 100 := by rw [str_size]; omega
              have hc1 : str (lineJ js) ++ (⟨#[32, 59, 32]⟩ : ByteArray) = str (lineJ js ++ [32, 59, 32]) := str_cat _ [32, 59, 32]
              have hz3 : (str (lineJ js ++ [32, 59, 32])).size ≤ 110 := by rw [str_size, List.length_append]; simp; omega
              have hc2 : str (lineJ js ++ [32, 59, 32]) ++ str (lineJ ks) = str (lineJ (js ++ ks)) := by rw [str_cat, hline, List.append_assoc]
              generalize str (lineJ js) = S1 at *
              generalize str (lineJ ks) = S2 at *
              generalize str (lineJ js ++ [32, 59, 32]) = S3 at *
              generalize str (lineJ (js ++ ks)) = S4 at *
              clear hok2 hline hl1 hl2 hll q1 t1 t1' t2 t3
              go_wp2_with fail
              refine HPR1.out.mono ?_
              rintro e w5 ⟨rfl, hx5⟩
              have HX5 := hide (HX4.out.trans hx5)
              have HX45 := hide hx5
              clear hx5 HPR1
              go_wp2_with fail
              refine (HPR2.out w5 HX45.out).mono ?_
              rintro e w6 ⟨rfl, hx6⟩
              have HX6 := hide (HX5.out.trans hx6)
              have HX46 := hide (HX45.out.trans hx6)
              clear hx6 HPR2
              go_wp2_with fail
              refine (HJ4.out w6).mono ?_
              rintro e w7 ⟨A7, n7, c7, X7, rfl, hx7, -, hok7, hjs7⟩
              obtain ⟨ls, rfl, hbare, hok8⟩ := HPJ.out w6 w7 w6.heap.size X7 hok7
              obtain ⟨vs7, hv7, hn7⟩ := hjs7 ls rfl
              have HX7 := hide (HX6.out.trans hx7)
              have HX47 := hide (HX46.out.trans hx7)
              have HP1 := hide (plain_any 200 ls A7 n7 c7 w6.heap.size vs7 w7 hv7 hn7 hok8.good (by omega) (plain_len w7 200 (by omega) ls hok8.eight hok8.good) (HM.out.ext HX7.out))
              have HP2 := hide (fun (W : World) (hx : Ext w4 W) (hw : Ext w W) => plain_any 8 js (some ⟨b, off, none⟩) (m + 1) c1 w0.heap.size vs W (HV.out.ext hx) hn8 (HOK.out.ext hx).good (by omega) (plain_len W 8 (by omega) js HOK.out.eight (HOK.out.ext hx).good) (HM.out.ext hw))
              have HP3 := hide (fun (W : World) (hx : Ext w4 W) (hw : Ext w W) => plain_any 8 ks A2 n2 c2 w2.heap.size us W (HU.out.ext hx) hm8 (HOKK.out.ext hx).good (by omega) (plain_len W 8 (by omega) ks HOKK.out.eight (HOKK.out.ext hx).good) (HM.out.ext hw))
              have hpl : ls.flatMap jobK = js.flatMap jobK ++ ks.flatMap jobK := by
                rw [plainK_bare, plainK_bare, plainK_bare, hbare, ← plainB_app]
                unfold bareJ
                rw [List.map_append]
              have hz5 : (str (js.flatMap jobK)).size ≤ 100000000000000 := by rw [str_size]; exact plain_len w4 8 (by omega) js HOK.out.eight HOK.out.good
              have hz6 : (str (ks.flatMap jobK)).size ≤ 100000000000000 := by rw [str_size]; exact plain_len w4 8 (by omega) ks HOKK.out.eight HOKK.out.good
              have hc3 : str (js.flatMap jobK) ++ str (ks.flatMap jobK) = str (ls.flatMap jobK) := by rw [str_cat, hpl]
              generalize str (js.flatMap jobK) = T1 at *
              generalize str (ks.flatMap jobK) = T2 at *
              generalize str (ls.flatMap jobK) = T3 at *
              clear hx7 hok7 hjs7 hv7 hok8 hbare hpl HJ4 HPJ hz1 hz2 hz3 hc1 hc2
              rw [show (some ls).isSome = true from rfl]
              go_wp2_with fail
              refine HP1.out.mono ?_
              rintro e w8 ⟨rfl, hx8⟩
              have HX8 := hide (HX7.out.trans hx8)
              have HX48 := hide (HX47.out.trans hx8)
              clear hx8
              go_wp2_with fail
              refine (HP2.out w8 HX48.out HX8.out).mono ?_
              rintro e w9 ⟨rfl, hx9⟩
              have HX9 := hide (HX8.out.trans hx9)
              have HX49 := hide (HX48.out.trans hx9)
              clear hx9
              go_wp2_with fail
              refine (HP3.out w9 HX49.out HX9.out).mono ?_
              rintro e w10 ⟨rfl, hx10⟩
              have HX10 := hide (HX9.out.trans hx10)
              clear hx10
              go_wp2_with fail
              go_ret
              exact ⟨by first | rfl | simp, HX10.out⟩
end Go.Proofs.YtjbgkcljjgofnaaDoor
