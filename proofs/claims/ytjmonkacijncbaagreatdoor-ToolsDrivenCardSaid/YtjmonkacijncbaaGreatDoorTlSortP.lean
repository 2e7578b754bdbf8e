/- Sorted lines: the plain law, and what the library answers of them. Plain theorems, no condition. -/
import Derived.Test.YtjmonkacijncbaaGreatDoorTlMeanS
import Derived.Test.YtjmonkacijncbaaGreatDoorTlOnceP
import Derived.Test.YtjmonkacijncbaaGreatDoorShelfB
import Derived.Test.YtjmonkacijncbaaGreatDoorTlPartsW
namespace Go.Proofs.YtjmonkacijncbaaGreatDoor
open Go.RowKit
set_option linter.unusedVariables false

theorem le_tr (a b c : Bs) : decide (a ≤ b) = true → decide (b ≤ c) = true → decide (a ≤ c) = true := by
  simp only [decide_eq_true_eq]
  exact fun h k => List.le_trans h k
theorem le_tot (a b : Bs) : (decide (a ≤ b) || decide (b ≤ a)) = true := by
  simp only [Bool.or_eq_true, decide_eq_true_eq]
  exact List.le_total a b
theorem sortS_pair (L : List Bs) : (sortS L).Pairwise fun a b => decide (a ≤ b) = true := List.pairwise_mergeSort le_tr le_tot L
theorem sortS_idem (L : List Bs) : sortS (sortS L) = sortS L := List.mergeSort_of_pairwise (sortS_pair L)
theorem sortS_len (L : List Bs) : (sortS L).length = L.length := List.length_mergeSort _
theorem sortS_text (b : Bs) : linesP (textP (sortS (linesP b))) = sortS (linesP b) := lines_text _ (picks_no picks_sortS (lines_no b))
theorem sort_law (b : Bs) : textP (sortS (linesP (textP (sortS (linesP b))))) = textP (sortS (linesP b)) := by rw [sortS_text, sortS_idem]
theorem tac_law (s : Bs) : textP ((linesP (textP ((linesP (s ++ [10])).reverse))).reverse) = s ++ [10] := by
  rw [lines_text _ (picks_no picks_rev (lines_no _)), List.reverse_reverse, lines_snoc, cut_text]
theorem ba_sort : sortS [[98], [97]] = [[97], [98]] := by
  have h1 : (sortS [[98], [97]]).Pairwise fun a b => decide (a ≤ b) = true := sortS_pair _
  have h2 : (sortS [[98], [97]]).Perm [[98], [97]] := List.mergeSort_perm _ _
  have hl := sortS_len [[98], [97]]
  match hx : sortS [[98], [97]], hl with
  | [x, y], _ =>
    rw [hx] at h1 h2
    have hy : (x = [98] ∧ y = [97]) ∨ (x = [97] ∧ y = [98]) := by
      have hm : ([98] : Bs) ∈ [x, y] := h2.symm.subset (by simp)
      have hn : ([97] : Bs) ∈ [x, y] := h2.symm.subset (by simp)
      have hd : ([98] : Bs) ≠ [97] := by decide
      simp only [List.mem_cons, List.not_mem_nil, or_false] at hm hn
      rcases hm with rfl | rfl <;> rcases hn with hn | hn
      · exact absurd hn.symm hd
      · exact .inl ⟨rfl, hn.symm⟩
      · exact .inr ⟨hn.symm, rfl⟩
      · exact absurd hn.symm hd
    rcases hy with ⟨rfl, rfl⟩ | ⟨rfl, rfl⟩
    · exact absurd h1 (by decide)
    · rfl
theorem ba_law : textP (sortS (linesP [98, 10, 97, 10])) = [97, 10, 98, 10] := by
  rw [show linesP [98, 10, 97, 10] = [[98], [97]] by decide +kernel, ba_sort]
  decide
theorem text_perm {l l' : List Bs} (hp : l.Perm l') : (textP l).length = (textP l').length := by
  induction hp with
  | nil => rfl
  | cons x _ ih => rw [text_cons, text_cons, ih]
  | swap x y l => rw [text_cons, text_cons, text_cons, text_cons]; omega
  | trans _ _ ih1 ih2 => rw [ih1, ih2]
theorem sort_text_len (b : Bs) : (textP (sortS (linesP b))).length = (textP (linesP b)).length := text_perm (List.mergeSort_perm _ _)
theorem tac_text_len (b : Bs) : (textP (linesP b).reverse).length = (textP (linesP b)).length := text_perm (List.reverse_perm _)
theorem cut_trim {b : Bs} (h : b ≠ []) : cutNl (Lib.trimSuffix b [10]) = linesP b := (if_neg h).symm
theorem text_ne {l : List Bs} (h : l ≠ []) : textP l ≠ [] := by
  cases l with
  | nil => exact absurd rfl h
  | cons a r => intro e; have := congrArg List.length e; rw [text_cons] at this; simp at this
/-- strings.Split into a row of its own. -/
theorem split_own (s : Bs) (hs : s.length ≤ 1000000) (w : World) (hL : LibOk w) : Calls Tryz.prog 14 #[.string (str s), .string ⟨#[10]⟩] w fun e w' => ∃ k, k = (cutNl s).length ∧ 0 < k ∧ k ≤ 1000001 ∧ e = .returned (.slice (some ⟨w.heap.size, 0, none⟩) k k) ∧ w'.ownsRow w.heap.size 9 1 (.slice (some ⟨w.heap.size, 0, none⟩) k k) k (strsV (cutNl s)) ∧ Ext w w' := by
  obtain ⟨m, hm⟩ := hL.max
  have h := Tryz.strings_Split (str s) (str [10]) m w (by rw [str_size]; omega) hm (by decide)
  have hc := split_cut s
  have hlen := cut_len s
  refine h.mono ?_
  rintro e w' ⟨rfl, rfl⟩
  generalize Lib.splitB (str [10]) 0 (Lib.countB (str s) (str [10])) (str s) = ps at hc ⊢
  have hv : ps.map Value.string = strsV (cutNl s) := by
    rw [← hc]
    simp [strsV, str_data]
  rw [count_b, hv]
  have hcl : s.count 10 ≤ s.length := List.count_le_length
  refine ⟨_, hlen.symm, by omega, by omega, rfl, ?_, (Ext.refl w).alloc _⟩
  have := own_lit w (strsV (cutNl s)).toArray 9 (s.count 10 + 1) w.heap.size (Nat.le_refl _) (by simp only [maxLen]; omega) (by simp [strsV_length, hlen])
  simpa using this
/-- slices.IsSorted on rising strings. -/
theorem issorted_any (L : List Bs) (hp : L.Pairwise fun a b => decide (a ≤ b) = true) (A : Option Addr) (n c B : Nat) (w : World) (hr : Reads w B 1 A n (strsV L)) (hn : 0 < n) (hn2 : n ≤ 1000000000) :
    Calls Tryz.prog 17 #[.slice A n c] w fun e w' => e = .returned (.bool true) ∧ Ext w w' := by
  obtain ⟨b, off, rfl, hb, hc⟩ := arg_cell hr hn
  have hl := args_len hr
  have hd : (L.map str).toArray.size = n := by simp [hl]
  have h := Tryz.slices_IsSorted_str b off c (L.map str).toArray w (fun i hi => by
    have hi' : i < L.length := by rw [hd] at hi; omega
    rw [hc i L[i] (List.getElem?_eq_getElem hi')]
    simp [hi']) (by rw [hd]; omega)
  rw [hd] at h
  refine h.mono ?_
  rintro e w' ⟨rfl, q, rfl⟩
  refine ⟨?_, (Ext.refl w).drewN q⟩
  congr 2
  refine (Lib.downOK_iff _ _ _).2 fun i hi => ?_
  have h1 : i < L.length := by omega
  have h2 : i + 1 < L.length := by omega
  have hle := List.pairwise_iff_getElem.1 hp i (i + 1) h1 h2 (by omega)
  simp only [decide_eq_true_eq] at hle
  simp only [List.getElem!_toArray, decide_eq_false_iff_not]
  rw [show (L.map str)[i + 1]! = str L[i + 1] by simp [h2], show (L.map str)[i]! = str L[i] by simp [h1], str_list, str_list]
  exact hle
/-- slices.Equal on the same strings. -/
theorem sequal_any (L : List Bs) (A A' : Option Addr) (n c c' B B' : Nat) (w : World) (hr : Reads w B 1 A n (strsV L)) (hr' : Reads w B' 1 A' n (strsV L)) (hn : 0 < n) (hn2 : n ≤ 1000000000) :
    Calls Tryz.prog 18 #[.slice A n c, .slice A' n c'] w fun e w' => e = .returned (.bool true) ∧ Ext w w' := by
  obtain ⟨b, off, rfl, hb, hc⟩ := arg_cell hr hn
  obtain ⟨b', off', rfl, hb', hc'⟩ := arg_cell hr' hn
  have hl := args_len hr
  have hd : (L.map str).length = n := by simp [hl]
  have h := Tryz.slices_Equal_string b off n c b' off' n c' (L.map str) (L.map str) w (by omega) (by omega) (by omega) (by omega) (fun i hi => by
    have hi' : i < L.length := by rw [hd] at hi; omega
    rw [hc i L[i] (List.getElem?_eq_getElem hi')]
    simp [hi', List.getD_eq_getElem?_getD]) (fun i hi => by
    have hi' : i < L.length := by rw [hd] at hi; omega
    rw [hc' i L[i] (List.getElem?_eq_getElem hi')]
    simp [hi', List.getD_eq_getElem?_getD])
  refine h.mono ?_
  rintro e w' ⟨rfl, q, rfl⟩
  exact ⟨by simp, (Ext.refl w).drewN q⟩
end Go.Proofs.YtjmonkacijncbaaGreatDoor
