/- Held, and the walk of TraceHeld. -/
import Derived.Test.YtcgcimnmngpoeaaTraceRightW
import Derived.Test.YtcgcimnmngpoeaaTraceDel
namespace Go.Proofs.Ytcgcimnmngpoeaa
open Go.RowKit
set_option linter.unusedVariables false

def heldS (t : Int) (o : List Int) (r : RecD) : List Int := if r.t = t then (if r.k = 1 then o ++ [r.o] else if r.k = 2 then o.erase r.o else o) else o
def heldF (l : List RecD) (t : Int) : List Int := l.foldl (heldS t) []
theorem heldF_snoc (l : List RecD) (r : RecD) (t : Int) : heldF (l ++ [r]) t = heldS t (heldF l t) r := by simp [heldF]
theorem heldF_obj (l : List RecD) (t : Int) (h : ∀ r ∈ l, r.o ≤ 5) : ∀ x ∈ heldF l t, x ≤ 5 := by
  have key : ∀ (l : List RecD) (o : List Int), (∀ r ∈ l, r.o ≤ 5) → (∀ x ∈ o, x ≤ 5) → ∀ x ∈ l.foldl (heldS t) o, x ≤ 5 := by
    intro l
    induction l with
    | nil => intro o _ ho; exact ho
    | cons r l ih =>
      intro o hl ho
      rw [List.foldl_cons]
      refine ih _ (fun q hq => hl q (List.mem_cons_of_mem _ hq)) ?_
      intro x hx
      unfold heldS at hx
      split at hx
      · split at hx
        · rcases List.mem_append.1 hx with hx | hx
          · exact ho x hx
          · rw [List.mem_singleton.1 hx]; exact hl r (by simp)
        · split at hx
          · exact ho x (List.mem_of_mem_erase hx)
          · exact ho x hx
      · exact ho x hx
  exact key l [] h (by simp)
def HeldRel (w : World) (l : List RecD) (t : Int) (n : Nat) (out i : Value) (wr : World) : Prop :=
  ∃ (k m : Nat) (A : Option Addr) (c : Nat), k ≤ n ∧ i = .int .i64 k ∧ out = .slice A m c ∧ m ≤ k ∧ wr.ownsRow w.heap.size 3 1 (.slice A m c) m (intsV (heldF (l.take k) t)) ∧ Ext w wr
def HeldPost (w : World) (l : List RecD) (t : Int) (e : Ending) (w' : World) : Prop :=
  ∃ (m : Nat) (A : Option Addr) (c : Nat), e = .returned (.tuple #[.slice A m c, .int .i64 0]) ∧ m ≤ 400 ∧ w'.ownsRow w.heap.size 3 1 (.slice A m c) m (intsV (heldF l t)) ∧ Ext w w'

set_option maxHeartbeats 4000000 in
set_option maxRecDepth 100000 in
theorem held_any (l : List RecD) (ok : ∀ r ∈ l, r.Ok) (t : Int) (A : Option Addr) (n c B : Nat) (w : World) (hr : Reads w B 4 A n (recsV l)) (hB : B ≤ w.heap.size) (hn : l.length = n) (h400 : n ≤ 400) (hc : n ≤ c) :
    Calls Try.prog 15 #[.slice A n c, .int .i64 t] w (HeldPost w l t) := by
  obtain ⟨i0, hi0, hz0, hz1, hz2⟩ := info_parts int_info
  have HC := hide (checked_ok l ok A n c B w hr hB hn h400 hc)
  have HR := hide hr
  have HK := hide ok
  have HN := hide hn
  clear hr ok hn
  go_enter Try.func15, Try.ntmps15
  go_wp2_with fail
  refine HC.out.mono ?_
  rintro e w1 ⟨rfl, hx1⟩
  have HX1 := hide hx1
  clear hx1
  go_wp2_with fail
  go_loopw [7, 18] (HeldRel w l t n) (fun _ i _ => n - (intOf i).toNat)
  case atStart => exact ⟨0, 0, none, 0, Nat.zero_le _, rfl, rfl, Nat.le_refl _, World.ownsRow_nil _ _ _ _, HX1.out⟩
  case round =>
    obtain ⟨k, m, A1, c1, hk, rfl, rfl, hmk, ho, hx⟩ := hrel
    have HO := hide ho
    have HX := hide hx
    clear ho hx HX1
    by_cases hlt : k < n
    · obtain ⟨b, off, rfl, hb⟩ := reads4_addr HR.out (by omega)
      have hkl : k < l.length := by rw [HN.out]; exact hlt
      obtain ⟨q0, q1, q2, q3⟩ := rec_cells (HX.out.reads HR.out hB) k hlt hkl
      obtain ⟨o1, o2, o3, o4, o5, o6, o7, o8⟩ := HK.out l[k] (List.getElem_mem hkl)
      have HT := hide (show heldF (l.take (k + 1)) t = heldS t (heldF (l.take k) t) l[k] by rw [List.take_succ_eq_append_getElem hkl, heldF_snoc])
      generalize l[k] = r at *
      obtain ⟨rk, rc, rt, ro⟩ := r
      dsimp only at o1 o2 o3 o4 o5 o6 o7 o8 q0 q1 q2 q3
      generalize heldF (l.take k) t = f at *
      go_upto_region 8 with fail
      have hbx : Blk (wr.alloc (recBox rk rc rt ro)) wr.heap.size 34 #[.int .i64 rk, .int .i64 rc, .int .i64 rt, .int .i64 ro] := Blk.new _ _ _
      have HO2 := hide (HO.out.alloc (recBox rk rc rt ro))
      have HX2 := hide (HX.out.alloc (recBox rk rc rt ro))
      generalize wr.alloc (recBox rk rc rt ro) = W2 at hbx HO2 HX2 ⊢
      have p0 : W2.cell? ⟨wr.heap.size, 0, none⟩ = some (.int .i64 rk) := hbx.cell 0
      have p2 : W2.cell? ⟨wr.heap.size, 2, none⟩ = some (.int .i64 rt) := hbx.cell 2
      have p3 : W2.cell? ⟨wr.heap.size, 3, none⟩ = some (.int .i64 ro) := hbx.cell 3
      clear q0 q1 q2 q3 hbx
      by_cases ht : rt = t
      · have tt : (rt != t) = false := by simpa using ht
        have hcase : rk = 1 ∨ rk = 2 ∨ 2 < rk := by omega
        rcases hcase with rfl | rfl | h3
        · have HST := hide (show heldS t f ⟨1, rc, rt, ro⟩ = f ++ [ro] by simp [heldS, ht])
          clear ht
          have HB3 := hide (Blk.new W2 3 #[.int .i64 ro])
          go_wp2_with (at_builtin; refine wpList_append_any _ rfl (.tmp 30) (.tmp 33) 40 rfl w.heap.size 3 i0 _ 1 8 Try.underlying40 hi0 hz0 hz1 hz2 rfl (by omega) _ m (intsV f) rfl (HO2.out.alloc _) _ _ 1 1 [.int .i64 ro] rfl HB3.out.reads (by simp [Value.oneCell']) (by simp only [maxLen]; omega) (by omega) (by have := HX2.out.size; simp; omega) ?_; intro A4 c4 w4 ho4 hg4 ha4)
          have HO4 := hide (show w4.ownsRow w.heap.size 3 1 (.slice A4 (m + 1) c4) (m + 1) (intsV (f ++ [ro])) by rw [intsV_append]; exact ho4)
          have HX4 := hide ((HX2.out.alloc (.cells #[.int .i64 ro] 3)).grown hg4 (fun j hj => (HO2.out.lt j hj).1))
          clear ho4 hg4 ha4 p0 p2 p3
          go_roundw
          case rel => exact ⟨k + 1, m + 1, A4, c4, by omega, by go_num, rfl, by omega, by rw [HT.out, HST.out]; exact HO4.out, HX4.out⟩
          case measure => simp [intOf]; omega
        · have HST := hide (show heldS t f ⟨2, rc, rt, ro⟩ = f.erase ro by simp [heldS, ht])
          clear ht
          go_wp2_with fail
          refine (index_ints A1 m c1 W2.heap.size f ro W2 (Reads.of_own HO2.out) (by simp only [maxLen]; omega)).mono ?_
          rintro e w3 ⟨zi, rfl, hidx, rfl⟩
          rcases hidx with ⟨i, hi, rfl, hv, hfirst⟩ | ⟨rfl, hnot⟩
          · have hil : i < m := by have := HO2.out.1; rw [intsV_length] at this; omega
            obtain ⟨g, rfl, hg1, hg2, _⟩ := own_addr HO2.out (by omega)
            have HER := hide (show (intsV f).eraseIdx i = intsV (f.erase ro) by rw [intsV_eraseIdx, erase_first f ro i hi hv hfirst])
            clear hv hfirst
            go_wp2_with fail
            refine (delete_own w.heap.size g m c1 i (intsV f) W2 HO2.out (intsV_one _) hil).mono ?_
            rintro e w4 ⟨rfl, ho4, hg4⟩
            rw [HER.out] at ho4
            have HO4 := hide ho4
            have HX4 := hide (HX2.out.grown hg4 (fun j hj => by injection hj with hj; omega))
            clear ho4 hg4 p0 p2 p3
            go_wp2_with fail
            go_roundw
            case rel => exact ⟨k + 1, m - 1, _, c1, by omega, by go_num, rfl, by omega, by rw [HT.out, HST.out]; exact HO4.out, HX4.out⟩
            case measure => simp [intOf]; omega
          · have HER := hide (List.erase_of_not_mem hnot)
            clear hnot
            go_wp2_with fail
            go_roundw
            case rel => exact ⟨k + 1, m, A1, c1, by omega, by go_num, rfl, by omega, by rw [HT.out, HST.out, HER.out]; exact HO2.out, HX2.out⟩
            case measure => simp [intOf]; omega
        · have t1 : (rk == 1) = false := by rw [beq_eq_false_iff_ne]; omega
          have t2 : (rk == 2) = false := by rw [beq_eq_false_iff_ne]; omega
          have n1 : rk ≠ 1 := by omega
          have n2 : rk ≠ 2 := by omega
          have HST := hide (show heldS t f ⟨rk, rc, rt, ro⟩ = f by simp [heldS, ht, n1, n2])
          clear ht n1 n2
          go_wp2_with fail
          go_roundw
          case rel => exact ⟨k + 1, m, A1, c1, by omega, by go_num, rfl, by omega, by rw [HT.out, HST.out]; exact HO2.out, HX2.out⟩
          case measure => simp [intOf]; omega
      · have tt : (rt != t) = true := by simpa using ht
        have HST := hide (show heldS t f ⟨rk, rc, rt, ro⟩ = f by simp [heldS, ht])
        clear ht
        go_wp2_with fail
        go_roundw
        case rel => exact ⟨k + 1, m, A1, c1, by omega, by go_num, rfl, by omega, by rw [HT.out, HST.out]; exact HO2.out, HX2.out⟩
        case measure => simp [intOf]; omega
    · obtain rfl : k = n := by omega
      have HNIL := hide (show A1 = none → m = 0 by
        intro h
        obtain ⟨A', c', hv, _, _, h3⟩ := own_form HO.out
        injection hv with e1 e2 e3
        exact (h3 (e1.symm.trans h)).1)
      have HO5 := HO.out
      rw [List.take_of_length_le (by rw [HN.out]; exact Nat.le_refl _)] at HO5
      have HO6 := hide HO5
      clear HO5 HO
      go_wp2_with fail
      refine (iclone_any A1 m c1 wr.heap.size (intsV (heldF l t)) wr (Reads.of_own HO6.out) (intsV_one _) (Nat.le_refl _) (by omega) HNIL.out).mono ?_
      rintro e w5 ⟨A5, c5, rfl, ho5, hx5⟩
      have HO7 := hide (own_mono ho5 HX.out.size)
      have HX7 := hide (HX.out.trans hx5)
      clear ho5 hx5
      go_wp2_with fail
      go_ret2
      exact ⟨m, A5, c5, rfl, by omega, HO7.out, HX7.out⟩
end Go.Proofs.Ytcgcimnmngpoeaa
