/- The contract of trace.Ring. -/
import Derived.Test.YtngdhpjbfcgloaaNext
import Derived.Test.YtngdhpjbfcgloaaMapO
namespace Go.Proofs.Ytngdhpjbfcgloaa
open Go.RowKit
set_option linter.unusedVariables false

theorem own_keptB {w w' : World} {base size n : Nat} {e : TypeId} {v : Value} {xs : List Value} {row : Option Nat} (h : w.ownsRow base e size v n xs) (hg : w.grownBy w' row) (hne : ∀ j, v.ownBlock = some j → row ≠ some j) : w'.ownsRow base e size v n xs :=
  h.kept hg (by
    cases hv : v.ownBlock with
    | none => simp
    | some j => exact .inr (fun e => hne j hv e.symm))
def RingPost (w : World) (es : List EdgeD) (R : List Nat) (e : Ending) (w' : World) : Prop := ∃ (A : Option Addr) (c : Nat), e = .returned (.tuple #[.slice A R.length c, .int .i64 0]) ∧ Reads w' w'.heap.size 1 A R.length (natsV R) ∧ R.length ≤ c ∧ c ≤ maxLen ∧ RingOk (nextL es) R ∧ Ext w w'
def UpToW (w : World) (n : Nat) (i : Value) (wr : World) : Prop := ∃ k : Nat, k ≤ n ∧ i = .int .i64 k ∧ Ext w wr
def StartRel (w : World) (N : Nat → List Nat) (R : List Nat) (i : Value) (wr : World) : Prop := ∃ k : Nat, k ≤ 64 ∧ i = .int .i64 k ∧ ringR N (64 - k) k = R ∧ Ext w wr
def BfsRel (w : World) (N : Nat → List Nat) (start : Nat) (X : Option FrM) (gm g : Nat) (v8 v9 : Value) (wr : World) : Prop :=
  ∃ (F k : Nat) (f : FrM) (way : List Nat) (A : Option Addr) (m c q s : Nat), F = g ∧ v9 = .int .i64 k ∧ v8 = .slice A m c ∧ way.length = m ∧ k ≤ m ∧ F + k = 66 ∧ bfsR N start F k f way = X ∧ BInv N start f way ∧ q ≤ m ∧ MapO wr gm q f s ∧ wr.ownsRow (gm + 1) 3 1 (.slice A m c) m (natsV way) ∧ Ext w wr
def ScanRel (w : World) (N : Nat → List Nat) (start p k : Nat) (l : List Nat) (A5 : Option Addr) (c5 : Nat) (Y : FrM × List Nat × Bool) (gm : Nat) (v8 v63 : Value) (wr : World) : Prop :=
  ∃ (j : Nat) (f : FrM) (way : List Nat) (A : Option Addr) (m c q s : Nat), j ≤ l.length ∧ v63 = .int .i64 j ∧ v8 = .slice A m c ∧ way.length = m ∧ scanR start p (l.drop j) f way = Y ∧ BInv N start f way ∧ way[k]? = some p ∧ q ≤ m ∧ MapO wr gm q f s ∧ wr.ownsRow (gm + 1) 3 1 (.slice A m c) m (natsV way) ∧ Ext w wr
  ∧ wr.ownsRow (gm + 1) 3 1 (.slice A5 l.length c5) l.length (natsV l) ∧ ∀ j, Value.ownBlock (.slice A m c) = some j → Value.ownBlock (.slice A5 l.length c5) ≠ some j
def BackRel (w : World) (f : FrM) (start : Nat) (way Z : List Nat) (gm g : Nat) (v14 v15 : Value) (wr : World) : Prop :=
  ∃ (j x F : Nat) (r : List Nat) (A : Option Addr) (m c q s : Nat), j = g ∧ v15 = .int .i64 x ∧ v14 = .slice A m c ∧ r.length = m ∧ m + j ≤ 64 ∧ way[j]? = some x ∧ j < F ∧ backR f start F x r = Z ∧ MapO wr gm q f s ∧ wr.ownsRow (gm + 1) 3 1 (.slice A m c) m (natsV r) ∧ Ext w wr
set_option maxHeartbeats 8000000 in
set_option maxRecDepth 100000 in
theorem ring_any (es : List EdgeD) (hes : ∀ e ∈ es, e.1 < 64 ∧ e.2 < 64) (A : Option Addr) (n c B : Nat) (w : World) (hr : Reads w B 2 A n (edgesV es)) (hB : B ≤ w.heap.size) (hn : n ≤ 4000) :
    Calls Try.prog 6 #[.slice A n c] w (RingPost w es (ringR (nextL es) 64 0)) := by
  obtain ⟨i0, hi0, hz0, hz1, hz2⟩ := info_parts int_info
  have hmm := @run_makeMap Try.prog
  have HLE := hide (show es.length = n from flat_len edgeC_len (by omega) hr)
  have HR := hide hr
  have HES := hide hes
  obtain ⟨N, hN⟩ : ∃ N, nextL es = N := ⟨_, rfl⟩
  have HN := hide hN
  have HNX := hide (fun (A : Option Addr) (n c B x : Nat) (hx64 : x < 64) (w : World) (hr : Reads w B 2 A n (edgesV es)) (hB : B ≤ w.heap.size) (hn : n ≤ 4000) => next_any es hes A n c B x hx64 w hr hB hn)
  have HN64 := hide (show ∀ x y, y ∈ N x → y < 64 by intro x y hy; rw [← hN] at hy; exact (hes _ (nextL_mem es x y hy)).2)
  have HNL := hide (show ∀ x, (N x).length ≤ 4000 by
    intro x
    rw [← hN]
    have h1 := Lib.compact_length_le ((castN (outs es x)).mergeSort fun a b => decide (a ≤ b))
    have h2 := outs_le es x
    rw [HLE.out] at h2
    rw [List.length_mergeSort, castN_len] at h1
    have h3 : (nextL es x).length = (Lib.compact ((castN (outs es x)).mergeSort fun a b => decide (a ≤ b))).length := by rw [← castN_len (nextL es x)]; exact congrArg List.length (nextL_ints es x)
    omega)
  unfold RingPost
  rw [hN] at HNX ⊢
  obtain ⟨R, hR⟩ : ∃ R, ringR N 64 0 = R := ⟨_, rfl⟩
  rw [hR]
  have HRR := hide hR
  clear hr hes hN hR
  go_enter Try.func6, Try.ntmps6
  go_wp2_with fail
  go_loopw [21] (UpToW w n) (fun i _ => n - (intOf i).toNat)
  case atStart => exact ⟨0, Nat.zero_le _, rfl, Ext.refl _⟩
  case round =>
    obtain ⟨j, hj, rfl, hx⟩ := hrel
    have HX := hide hx
    clear hx
    by_cases hlt2 : j < n
    · obtain ⟨b, off, rfl, hb⟩ := HR.out.addr (by omega) (by omega)
      have hjl : j < es.length := by rw [HLE.out]; exact hlt2
      obtain ⟨q0, q1⟩ := edge_cells (HX.out.reads HR.out hB) j hlt2 hjl
      obtain ⟨o1, o2⟩ := HES.out es[j] (List.getElem_mem hjl)
      generalize es[j] = ed at *
      obtain ⟨e1, e2⟩ := ed
      dsimp only at q0 q1 o1 o2
      go_wp2_with fail
      go_roundw
      case rel => exact ⟨j + 1, by omega, by go_num, HX.out.alloc _⟩
      case measure => simp [intOf]; omega
    · obtain rfl : n = j := by omega
      generalize wr = w1 at *
      go_wp2_with fail
      go_loopw [44] (StartRel w N R) (fun i _ => 64 - (intOf i).toNat)
      case atStart => exact ⟨0, by omega, rfl, HRR.out, HX.out⟩
      case round =>
        obtain ⟨start, hs, rfl, hrr, hx⟩ := hrel
        have HX2 := hide hx
        have HR2 := hide hrr
        clear hx hrr
        by_cases h64 : start < 64
        · have HR3 := hide (show (match bfsR N start 66 0 (fun _ => none) [start] with | some f => (backR f start 66 ((f start).getD 0).toNat []).reverse | none => ringR N (64 - (start + 1)) (start + 1)) = R by
            have := HR2.out
            rw [show 64 - start = (64 - (start + 1)) + 1 by omega] at this
            exact this)
          obtain ⟨X, hX⟩ : ∃ X, bfsR N start 66 0 (fun _ => none) [start] = X := ⟨_, rfl⟩
          rw [hX] at HR3
          have HXX := hide hX
          have HM0 := hide ((MapO.made wr).alloc (.cells #[.int .i64 (start : Int)] 3))
          have HX3 := hide ((HX2.out.alloc (.map #[] 0)).alloc (.cells #[.int .i64 (start : Int)] 3))
          have ho0 := own_lit (wr.alloc (.map #[] 0)) #[.int .i64 (start : Int)] 3 1 (wr.heap.size + 1) (by simp) (by decide) rfl
          rw [show (wr.alloc (.map #[] 0)).heap.size = wr.heap.size + 1 by simp] at ho0
          have HO0 := hide ho0
          clear ho0
          have hgm := HX2.out.size
          clear hX HR2
          go_wp2_with fail
          generalize wr.heap.size = gm at *
          go_loopg [8, 9] 66 (BfsRel w N start X gm)
          case atStart => exact ⟨66, 0, _, [start], _, 1, 1, 0, 0, rfl, rfl, rfl, rfl, by omega, rfl, HXX.out, BInv.begin h64, by omega, HM0.out, HO0.out, HX3.out⟩
          case round =>
            obtain ⟨F, k, f, way, A1, m, c1, q, s, rfl, rfl, rfl, hl, hk, hg, hb, hinv, hq, hm, ho, hx⟩ := hrel
            have HL := hide hl
            have HI := hide hinv
            have HM := hide hm
            have HO := hide ho
            have HX4 := hide hx
            have hm64 : m ≤ 64 := by rw [← hl]; exact hinv.len
            have hg0 := HX4.out.size
            obtain ⟨F, rfl⟩ : ∃ F', F = F' + 1 := ⟨F - 1, by omega⟩
            unfold bfsR at hb
            clear hl hinv hm hx HM0 HO0 HX3
            by_cases hlt : k < m
            · rw [if_pos (show k < way.length by rw [HL.out]; exact hlt)] at hb
              obtain ⟨ga, rfl, hga, hga', hc1, hc2⟩ := own_addr ho (by omega)
              unfold maxLen at hc2
              have hkl : k < way.length := by rw [HL.out]; exact hlt
              obtain ⟨p, hp⟩ : ∃ p, way[k]? = some p := ⟨_, List.getElem?_eq_getElem hkl⟩
              have hgp : way.getD k 0 = p := by rw [List.getD_eq_getElem?_getD, hp]; rfl
              rw [hgp] at hb
              have hp64 : p < 64 := HI.out.small p (List.mem_of_getElem? hp)
              have HP := hide hp
              obtain ⟨Y, hY⟩ : ∃ Y, scanR start p (N p) f way = Y := ⟨_, rfl⟩
              rw [hY] at hb
              have HB := hide hb
              have HY := hide hY
              have hcell := (own_cell HO.out k (u := .int .i64 (p : Int)) (by simp [natsV, hp])).1
              have HNC := hide (HNX.out A n c B p hp64 wr (HX4.out.reads HR.out hB) (Nat.le_trans hB hg0) hn)
              have HNP := HNL.out p
              clear hp hgp hb hY ho hkl
              go_wp2_with fail
              refine HNC.out.mono ?_
              rintro e w5 ⟨A5, c5, rfl, ho5, hx5⟩
              have HL5 := hide (show w5.ownsRow (gm + 1) 3 1 (.slice A5 (N p).length c5) (N p).length (natsV (N p)) from own_mono ho5 (by omega))
              have HB5 := hide (show ∀ j, Value.ownBlock (.slice A5 (N p).length c5) = some j → wr.heap.size ≤ j from fun j hj => (ho5.lt j hj).1)
              have HM5 := hide (HM.out.ext hx5)
              have HO5 := hide (hx5.own HO.out)
              have HX5 := hide (HX4.out.trans hx5)
              clear ho5 hx5 hcell HNC
              go_wp2_with fail
              go_loopw [8, 63] (ScanRel w N start p k (N p) A5 c5 Y gm) (fun _ i _ => (N p).length - (intOf i).toNat)
              case atStart => exact ⟨0, f, way, _, m, c1, q, s, Nat.zero_le _, rfl, rfl, HL.out, HY.out, HI.out, HP.out, hq, HM5.out, HO5.out, HX5.out, HL5.out, fun j hj => by
                simp only [Value.ownBlock, Option.some.injEq] at hj
                subst hj
                intro e
                have := HB5.out _ e
                omega⟩
              case round =>
                obtain ⟨j, f1, way1, A1, m1, c6, q1, s1, hj, rfl, rfl, hl1, hsc, hinv1, hp1, hq1, hm1, ho1, hx1, hls1, hne1⟩ := hrel
                have HL1 := hide hl1
                have HI1 := hide hinv1
                have HP1 := hide hp1
                have HM1 := hide hm1
                have HO1 := hide ho1
                have HX1 := hide hx1
                have HLS1 := hide hls1
                have HNE1 := hide hne1
                have hm164 : m1 ≤ 64 := by rw [← hl1]; exact hinv1.len
                have hg1 := HX1.out.size
                have hkm1 : k < m1 := by have := (List.getElem?_eq_some_iff.1 hp1).1; omega
                clear hl1 hinv1 hp1 hm1 hx1 hne1 HM5 HO5 HX5 HL5 HB5 HI HM HO HX4
                by_cases hjl : j < (N p).length
                · obtain ⟨g5, rfl, h5, h5', -, -⟩ := own_addr hls1 (by omega)
                  obtain ⟨nn, hnn⟩ : ∃ nn, (N p)[j]? = some nn := ⟨_, List.getElem?_eq_getElem hjl⟩
                  have hnp : nn ∈ N p := List.mem_of_getElem? hnn
                  have hn64 := HN64.out p nn hnp
                  have HNP := hide hnp
                  have cl := (own_cell HLS1.out j (u := .int .i64 (nn : Int)) (by simp [natsV, hnn])).1
                  rw [List.drop_eq_getElem_cons hjl, show (N p)[j] = nn from (List.getElem?_eq_some_iff.1 hnn).2] at hsc
                  unfold scanR at hsc
                  have hlk := HM1.out.look nn (by omega)
                  clear hnn hls1 hnp
                  by_cases hf : (f1 nn).isSome = true
                  · rw [if_pos hf] at hsc
                    rw [hf] at hlk
                    have HSC := hide hsc
                    generalize (f1 nn).getD 0 = vv at *
                    clear hsc hf ho1
                    go_wp2_with fail
                    go_roundw
                    case rel => exact ⟨j + 1, f1, way1, A1, m1, c6, q1, s1, by omega, by go_num, rfl, HL1.out, HSC.out, HI1.out, HP1.out, hq1, HM1.out, HO1.out, HX1.out, HLS1.out, HNE1.out⟩
                    case measure => simp [intOf]; omega
                  · have hff : (f1 nn).isSome = false := by simpa using hf
                    rw [if_neg hf] at hsc
                    rw [hff] at hlk
                    have HF := hide hff
                    obtain ⟨ga, rfl, hga, hga', hcc1, hcc2⟩ := own_addr ho1 (by omega)
                    unfold maxLen at hcc2
                    have cw := (own_cell HO1.out k (u := .int .i64 (p : Int)) (by simp [natsV, HP1.out])).1
                    obtain ⟨W3, hrun, hm3, hg3⟩ := HM1.out.store (by simp only [maxLen]; omega) nn (by omega) (p : Int) (by omega) (by omega)
                    have HO3 := hide (own_keptB HO1.out hg3 (fun j hv e => by injection e with e; have := (HO1.out.lt j hv).1; omega))
                    have HLS3 := hide (own_keptB HLS1.out hg3 (fun j hv e => by injection e with e; have := (HLS1.out.lt j hv).1; omega))
                    have HX3 := hide (HX1.out.grown hg3 (fun j hj => by injection hj with hj; omega))
                    have hs3 : wr.heap.size ≤ W3.heap.size := hg3.size
                    have HM3 := hide hm3
                    generalize (f1 nn).getD 0 = vv at *
                    clear hm3 hg3 hf hff ho1
                    by_cases hns : nn = start
                    · subst hns
                      rw [if_pos rfl] at hsc
                      have HFI := hide (HI1.out.found (List.mem_of_getElem? HP1.out) HNP.out)
                      have hxs : some (updN f1 nn (some (p : Int))) = X := by
                        have := HB.out
                        rw [← hsc] at this
                        exact this
                      subst hxs
                      obtain ⟨Z, hZ⟩ : ∃ Z, backR (updN f1 nn (some (p : Int))) nn 66 p [] = Z := ⟨_, rfl⟩
                      have hzr : Z.reverse = R := by
                        have := HR3.out
                        simp only [updN_same, Option.getD_some, Int.toNat_natCast] at this
                        rw [hZ] at this
                        exact this
                      have HZ := hide hZ
                      have HZR := hide hzr
                      have HROK := hide (show RingOk N R by
                        have := ring_of HFI.out
                        rw [updN_same] at this
                        simp only [Option.getD_some, Int.toNat_natCast] at this
                        rw [hZ, hzr] at this
                        exact this)
                      have hl1 := HM3.out.look1 nn (by omega)
                      rw [updN_same] at hl1
                      simp only [Option.getD_some] at hl1
                      have hl2 : (Instr.lookup 34 (.map (some gm)) (.int .i64 (nn : Int)) false).run Try.prog (W3.alloc (.cells #[] 3)) = .ok (.int .i64 (p : Int)) (W3.alloc (.cells #[] 3)) := by
                        have := (HM3.out.alloc (.cells #[] 3)).look1 nn (by omega)
                        rw [updN_same] at this
                        simpa only [Option.getD_some] using this
                      have HM4 := hide (HM3.out.alloc (.cells #[] 3))
                      have HX4 := hide (HX3.out.alloc (.cells #[] 3))
                      have HO4 := hide (own_lit W3 #[] 3 0 (gm + 1) (by omega) (by decide) rfl)
                      clear hsc hZ hzr HR3 HXX HY HB HNX hl1 HLS3 HO3 HM3 HLS1 HO1 HM1 HNE1
                      go_wp2_with fail
                      clear hl2 hlk hrun cl cw
                      generalize W3.alloc (.cells #[] 3) = W4 at *
                      go_loopg [14, 15] k (BackRel w (updN f1 nn (some (p : Int))) nn way1 Z gm)
                      case atStart => exact ⟨k, p, 66, [], _, 0, 0, _, _, rfl, rfl, rfl, rfl, by omega, HP1.out, by omega, HZ.out, HM4.out, HO4.out, HX4.out⟩
                      case round =>
                        obtain ⟨j5, x, G, r, A7, m7, c7, q7, s7, rfl, rfl, rfl, hl7, hm7, hw7, hG, hbk, hmp7, ho7, hx7⟩ := hrel
                        obtain ⟨G, rfl⟩ : ∃ G', G = G' + 1 := ⟨G - 1, by omega⟩
                        unfold backR at hbk
                        have HL7 := hide hl7
                        have HW7 := hide hw7
                        have HMP7 := hide hmp7
                        have HO7 := hide ho7
                        have HX7 := hide hx7
                        have hx64 : x < 64 := HFI.out.small x (List.mem_of_getElem? hw7)
                        have hs7 := HX7.out.size
                        have hgm7 := HMP7.out.lt
                        have HB7 := hide (Blk.new' wr 3 #[.int .i64 (x : Int)] (g := wr.heap.size) rfl)
                        clear hl7 hw7 hmp7 ho7 hx7 HM4 HX4 HO4
                        by_cases hxn : x = nn
                        · subst hxn
                          rw [if_pos rfl] at hbk
                          have HBK := hide hbk
                          clear hbk
                          go_wp2_with (at_builtin; refine wpList_append_any _ rfl (.tmp 90) (.tmp 92) _ rfl (gm + 1) 3 i0 _ 1 8 Try.underlying26 hi0 hz0 hz1 hz2 rfl (by omega) _ m7 _ rfl (HO7.out.alloc _) _ _ 1 1 _ rfl HB7.out.reads (by simp [Value.oneCell']) (by simp only [maxLen]; omega) (by omega) (by simp; omega) ?_; intro A8 c8 w8 ho8 hg8 ha8)
                          have HO8 := hide (show w8.ownsRow (gm + 1) 3 1 (.slice A8 (m7 + 1) c8) (m7 + 1) (intsV (castN Z)) by rw [← natsV_cast, ← HBK.out, natsV_append]; exact ho8)
                          have HX8 := hide (show Ext w w8 from (HX7.out.alloc _).grown hg8 (fun j hj => by have := (HO7.out.lt j hj).1; omega))
                          have HLZ := hide (show R.length = m7 + 1 by rw [← HZR.out, List.length_reverse, ← HBK.out, List.length_append, HL7.out]; rfl)
                          clear ho8 hg8 ha8
                          refine (reverse_own A8 (m7 + 1) c8 (gm + 1) (castN Z) w w8 HO8.out HX8.out (by omega) (by omega)).mono ?_
                          rintro e w9 ⟨rfl, ho9, hx9⟩
                          have HO9 := hide ho9
                          have HX9 := hide hx9
                          clear ho9 hx9
                          go_wp2_with fail
                          go_ret2
                          refine ⟨A8, c8, by rw [HLZ.out]; rfl, ?_, ?_, ?_, HROK.out, HX9.out⟩
                          · rw [HLZ.out, ← HZR.out, natsV_cast]
                            have e : castN Z.reverse = (castN Z).reverse := by simp [castN]
                            rw [e]
                            exact Reads.of_own HO9.out
                          · rw [HLZ.out]
                            exact (own_le HO9.out).1
                          · exact (own_le HO9.out).2
                        · rw [if_neg hxn] at hbk
                          have hj5 : 0 < j5 := by
                            rcases Nat.eq_zero_or_pos j5 with rfl | h
                            · rw [HFI.out.first] at HW7
                              exact absurd (Option.some.inj HW7.out).symm hxn
                            · exact h
                          obtain ⟨j6, y, h1, h2, h3, h4⟩ := HFI.out.back j5 x hj5 HW7.out
                          rw [h3] at hbk
                          simp only [Option.getD_some, Int.toNat_natCast] at hbk
                          have HBK := hide hbk
                          have HH2 := hide h2
                          have HH3 := hide h3
                          have t1 : (x == nn) = false := by simpa using hxn
                          have t2 : ((x : Int) == (nn : Int)) = false := by simp; omega
                          clear hbk h2 h3 h4 hxn
                          go_wp2_with (at_builtin; refine wpList_append_any _ rfl (.tmp 90) (.tmp 92) _ rfl (gm + 1) 3 i0 _ 1 8 Try.underlying26 hi0 hz0 hz1 hz2 rfl (by omega) _ m7 _ rfl (HO7.out.alloc _) _ _ 1 1 _ rfl HB7.out.reads (by simp [Value.oneCell']) (by simp only [maxLen]; omega) (by omega) (by simp; omega) ?_; intro A8 c8 w8 ho8 hg8 ha8; have hlk := (show MapO w8 gm q7 (updN f1 nn (some (p : Int))) s7 from (HMP7.out.alloc _).kept hg8 (fun e => by have := (HO7.out.lt _ e.symm).1; omega)).look1 x (by omega); rw [HH3.out] at hlk; simp only [Option.getD_some] at hlk)
                          have HO8 := hide (show w8.ownsRow (gm + 1) 3 1 (.slice A8 (m7 + 1) c8) (m7 + 1) (natsV (r ++ [x])) by rw [natsV_append]; exact ho8)
                          have HX8 := hide (show Ext w w8 from (HX7.out.alloc _).grown hg8 (fun j hj => by have := (HO7.out.lt j hj).1; omega))
                          have HM8 := hide (show MapO w8 gm q7 (updN f1 nn (some (p : Int))) s7 from (HMP7.out.alloc _).kept hg8 (fun e => by have := (HO7.out.lt _ e.symm).1; omega))
                          clear ho8 hg8 ha8
                          go_roundg j6
                          case rel => exact ⟨j6, y, G, r ++ [x], A8, m7 + 1, c8, q7, s7, rfl, rfl, rfl, by rw [List.length_append, HL7.out]; rfl, by omega, HH2.out, by omega, HBK.out, HM8.out, HO8.out, HX8.out⟩
                          case measure => omega
                    · rw [if_neg hns] at hsc
                      have HSC := hide hsc
                      have HNS := hide hns
                      have t1 : (nn == start) = false := by simpa using hns
                      have t2 : ((nn : Int) == (start : Int)) = false := by simp; omega
                      have HB7 := hide (Blk.new' W3 3 #[.int .i64 (nn : Int)] (g := W3.heap.size) rfl)
                      clear hsc hns
                      go_wp2_with (at_builtin; refine wpList_append_any _ rfl (.tmp 100) (.tmp 102) _ rfl (gm + 1) 3 i0 _ 1 8 Try.underlying26 hi0 hz0 hz1 hz2 rfl (by omega) _ m1 _ rfl (HO3.out.alloc _) _ _ 1 1 _ rfl HB7.out.reads (by simp [Value.oneCell']) (by simp only [maxLen]; omega) (by omega) (by simp; omega) ?_; intro A8 c8 w8 ho8 hg8 ha8)
                      have HO8 := hide (show w8.ownsRow (gm + 1) 3 1 (.slice A8 (m1 + 1) c8) (m1 + 1) (natsV (way1 ++ [nn])) by rw [natsV_append]; exact ho8)
                      have HX8 := hide (show Ext w w8 from (HX3.out.alloc _).grown hg8 (fun j hj => by have := (HO3.out.lt j hj).1; omega))
                      have HM8 := hide (show MapO w8 gm (q1 + 1) (updN f1 nn (some (p : Int))) (if (f1 nn).isSome then s1 else s1 + 1) from (HM3.out.alloc _).kept hg8 (fun e => by have := (HO3.out.lt _ e.symm).1; omega))
                      have HLS8 := hide (own_keptB (HLS3.out.alloc (.cells #[.int .i64 (nn : Int)] 3)) hg8 (fun j hv e => HNE1.out j e hv))
                      have HNE8 := hide (show ∀ j, Value.ownBlock (.slice A8 (m1 + 1) c8) = some j → Value.ownBlock (.slice (some ⟨g5, 0, none⟩) (N p).length c5) ≠ some j from fun j hv e => by
                        rcases ha8 with ha8 | ha8
                        · exact HNE1.out j (ha8 ▸ hv) e
                        · rw [ha8] at hv
                          have := (HLS3.out.lt j e).2
                          injection hv with hv
                          simp at hv
                          omega)
                      clear ho8 hg8 ha8 cl cw hlk hrun
                      go_roundw
                      case rel => exact ⟨j + 1, _, way1 ++ [nn], A8, m1 + 1, c8, q1 + 1, _, by omega, by go_num, rfl, by rw [List.length_append, HL1.out]; rfl, HSC.out, HI1.out.more HF.out HNS.out (List.mem_of_getElem? HP1.out) HNP.out hn64, by rw [List.getElem?_append_left (by rw [HL1.out]; exact hkm1)]; exact HP1.out, by omega, HM8.out, HO8.out, HX8.out, HLS8.out, HNE8.out⟩
                      case measure => simp [intOf]; omega
                · obtain rfl : j = (N p).length := by omega
                  rw [List.drop_length] at hsc
                  have hsc : (f1, way1, false) = Y := hsc
                  subst hsc
                  have HBB := hide (show bfsR N start F (k + 1) f1 way1 = X from HB.out)
                  go_wp2_with fail
                  go_roundg F
                  case rel => exact ⟨F, k + 1, f1, way1, A1, m1, c6, q1, s1, rfl, by go_num, rfl, HL1.out, by omega, by omega, HBB.out, HI1.out, hq1, HM1.out, HO1.out, HX1.out⟩
                  case measure => omega
            · rw [if_neg (show ¬ k < way.length by rw [HL.out]; exact hlt)] at hb
              subst hb
              go_wp2_with fail
              go_roundw
              case rel => exact ⟨start + 1, by omega, by go_num, HR3.out, HX4.out⟩
              case measure => simp [intOf]; omega
        · obtain rfl : start = 64 := by omega
          have HRN := hide (show [] = R from HR2.out)
          go_wp2_with fail
          go_ret2
          refine ⟨none, 0, ?_, ?_, ?_⟩
          · rw [← HRN.out]; rfl
          · rw [← HRN.out]; exact Reads.none_
          · rw [← HRN.out]; exact ⟨Nat.le_refl _, Nat.zero_le _, ⟨by simp, by simp, by simp⟩, HX2.out⟩
end Go.Proofs.Ytngdhpjbfcgloaa
