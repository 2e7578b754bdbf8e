/- The law ToolsOnce in plain words. Plain theorems, no condition. -/
import Derived.Test.YtjmonkacijncbaaGreatDoorTlRepP
namespace Go.Proofs.YtjmonkacijncbaaGreatDoor
open Go.RowKit
set_option linter.unusedVariables false

/-- What Compact leaves: no two neighbours are equal, and the last one is the row's last. -/
theorem compact_chain (d : Array Bs) : ∀ m, m ≤ d.size → (∀ j, j + 1 < (Lib.compactUpTo d m).length → (Lib.compactUpTo d m)[j]! ≠ (Lib.compactUpTo d m)[j + 1]!) ∧ (0 < m → (Lib.compactUpTo d m).getLast? = some d[m - 1]!) := by
  intro m
  induction m with
  | zero => exact fun _ => ⟨fun j hj => by simp [Lib.compactUpTo] at hj, fun h => absurd h (by omega)⟩
  | succ m ih =>
    intro hm
    obtain ⟨i1, i2⟩ := ih (by omega)
    rw [Lib.compactUpTo_succ]
    by_cases h0 : m = 0
    · subst h0
      have hk : Lib.keeps d 0 = true := by simp [Lib.keeps]
      have he : Lib.compactUpTo d 0 = [] := rfl
      rw [hk, if_pos rfl, he]
      exact ⟨fun j hj => by simp at hj, fun _ => by simp⟩
    · have hlast := i2 (by omega)
      by_cases hne : d[m]! = d[m - 1]!
      · rw [Lib.keeps_neg (by omega) hne, if_neg (by decide), List.append_nil]
        refine ⟨i1, fun _ => ?_⟩
        rw [hlast, Nat.add_sub_cancel, hne]
      · rw [Lib.keeps_pos hne, if_pos rfl]
        generalize hL : Lib.compactUpTo d m = L at *
        have hLp : L ≠ [] := fun e => by rw [e] at hlast; cases hlast
        have hLl : 0 < L.length := List.length_pos_iff.2 hLp
        refine ⟨fun j hj => ?_, fun _ => by simp⟩
        rw [List.length_append] at hj
        have h1 : ([d[m]!] : List Bs).length = 1 := rfl
        rw [h1] at hj
        by_cases hj2 : j + 1 < L.length
        · have e1 : (L ++ [d[m]!])[j]! = L[j]! := by
            rw [getElem!_pos (L ++ [d[m]!]) j (by simp; omega), getElem!_pos L j (by omega), List.getElem_append_left (by omega)]
          have e2 : (L ++ [d[m]!])[j + 1]! = L[j + 1]! := by
            rw [getElem!_pos (L ++ [d[m]!]) (j + 1) (by simp; omega), getElem!_pos L (j + 1) (by omega), List.getElem_append_left (by omega)]
          rw [e1, e2]
          exact i1 j hj2
        · have hjl : j = L.length - 1 := by omega
          have e1 : (L ++ [d[m]!])[j]! = d[m - 1]! := by
            rw [getElem!_pos _ _ (by simp; omega), List.getElem_append_left (by omega)]
            rw [List.getLast?_eq_getElem?, List.getElem?_eq_getElem (by omega)] at hlast
            injection hlast with hlast
            subst hjl
            exact hlast
          have e2 : (L ++ [d[m]!])[j + 1]! = d[m]! := by
            rw [getElem!_pos _ _ (by simp; omega), List.getElem_append_right (by omega)]
            simp
          rw [e1, e2]
          exact fun e => hne e.symm
theorem compact_idem (L : List Bs) : Lib.compact (Lib.compact L) = Lib.compact L := by
  refine Lib.compact_all _ (fun j hj => ?_)
  have h := (compact_chain L.toArray L.length (by simp)).1
  cases j with
  | zero => simp [Lib.keeps]
  | succ j =>
    have := h j hj
    refine Lib.keeps_pos ?_
    have e : ∀ i, i < (Lib.compact L).length → (Lib.compact L).toArray[i]! = (Lib.compact L)[i]! := fun i hi => by
      rw [getElem!_pos (Lib.compact L).toArray i (by simpa using hi), getElem!_pos (Lib.compact L) i hi]
      rfl
    rw [Nat.add_sub_cancel, e (j + 1) hj, e j (by omega)]
    exact fun e => this e.symm
theorem picks_no {f : List Bs → List Bs} (hf : Picks f) {L : List Bs} (h : NoNl L) : NoNl (f L) := fun y hy => h y ((hf L).2 y hy)
theorem uniq_law (b : Bs) : textP (Lib.compact (linesP (textP (Lib.compact (linesP b))))) = textP (Lib.compact (linesP b)) := by
  rw [lines_text _ (picks_no picks_compact (lines_no b)), compact_idem]
theorem grep_law (g : Bs) (b : Bs) : textP ((linesP (textP ((linesP b).filter fun s => Lib.contains s g))).filter fun s => Lib.contains s g) = textP ((linesP b).filter fun s => Lib.contains s g) := by
  rw [lines_text _ (picks_no (picks_filter fun s => Lib.contains s g) (lines_no b)), List.filter_filter]
  simp
theorem aab_law : textP (Lib.compact (linesP [97, 10, 97, 10, 98])) = [97, 10, 98, 10] := by decide +kernel
theorem text_cons (a : Bs) (l : List Bs) : (textP (a :: l)).length = (a.length + 1) + (textP l).length := by
  show ((a ++ [10]) ++ textP l).length = _
  rw [List.length_append, List.length_append]
  rfl
theorem text_sub {l1 l2 : List Bs} (h : l1.Sublist l2) : (textP l1).length ≤ (textP l2).length := by
  induction h with
  | slnil => exact Nat.le_refl _
  | cons a _ ih => rw [text_cons]; omega
  | cons_cons a _ ih => rw [text_cons, text_cons]; omega
theorem compactUpTo_sub (d : Array Bs) : ∀ m, m ≤ d.size → (Lib.compactUpTo d m).Sublist (d.toList.take m) := by
  intro m
  induction m with
  | zero => exact fun _ => List.Sublist.refl _
  | succ m ih =>
    intro hm
    have h := ih (by omega)
    rw [Lib.compactUpTo_succ, List.take_add_one, Array.getElem?_toList, Array.getElem?_eq_getElem (show m < d.size by omega)]
    rw [getElem!_pos d m (by omega)]
    refine List.Sublist.append h ?_
    split
    · exact List.Sublist.refl _
    · exact List.nil_sublist _
theorem compact_sub (L : List Bs) : (Lib.compact L).Sublist L := by
  have h := compactUpTo_sub L.toArray L.length (by simp)
  unfold Lib.compact
  simpa using h
theorem lines_text_len (b : Bs) : (textP (linesP b)).length ≤ b.length + 1 := by
  unfold linesP
  split
  · exact Nat.zero_le _
  · rw [cut_text, List.length_append]
    have := trim_le b
    have h1 : ([10] : Bs).length = 1 := rfl
    omega
end Go.Proofs.YtjmonkacijncbaaGreatDoor
