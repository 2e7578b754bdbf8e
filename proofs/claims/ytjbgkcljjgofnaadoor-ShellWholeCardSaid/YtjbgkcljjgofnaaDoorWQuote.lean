/- The contract of words.Quote. -/
import Derived.Test.YtjbgkcljjgofnaaDoorWPrnA
import Derived.Test.YtjbgkcljjgofnaaDoorBld
import Derived.Test.YtjbgkcljjgofnaaDoorWRead
namespace Go.Proofs.YtjbgkcljjgofnaaDoor
open Go.RowKit
set_option linter.unusedVariables false

theorem sgl_split (s : List UInt8) (h : (sglL s).length < s.length) : ∃ rest, s = sglL s ++ 39 :: rest ∧ ∀ c ∈ sglL s, c.toNat ≠ 39 := by
  induction s with
  | nil => simp [sglL] at h
  | cons c t ih =>
    by_cases hc : c.toNat = 39
    · have e : sglL (c :: t) = [] := by simp [sglL, hc]
      have e2 : c = 39 := UInt8.toNat_inj.1 hc
      exact ⟨t, by rw [e, e2]; rfl, by rw [e]; intro d hd; cases hd⟩
    · have e : sglL (c :: t) = c :: sglL t := by simp [sglL, hc]
      rw [e] at h ⊢
      obtain ⟨rest, h1, h2⟩ := ih (by simpa using h)
      refine ⟨rest, by rw [List.cons_append, ← h1], ?_⟩
      intro d hd
      rcases List.mem_cons.1 hd with rfl | hd
      · exact hc
      · exact h2 d hd
theorem sgl_none (s : List UInt8) (h : ¬ (sglL s).length < s.length) : ∀ c ∈ s, c.toNat ≠ 39 := by
  induction s with
  | nil => intro c hc; cases hc
  | cons c t ih =>
    by_cases hc : c.toNat = 39
    · have e : sglL (c :: t) = [] := by simp [sglL, hc]
      rw [e] at h
      simp at h
    · have e : sglL (c :: t) = c :: sglL t := by simp [sglL, hc]
      rw [e] at h
      intro d hd
      rcases List.mem_cons.1 hd with rfl | hd
      · exact hc
      · exact ih (by simpa using h) d hd
theorem escQ_none (s : List UInt8) (h : ∀ c ∈ s, c.toNat ≠ 39) : escQ s = s := by
  induction s with
  | nil => rfl
  | cons c t ih =>
    simp only [escQ]
    rw [if_neg (h c (by simp)), ih (fun d hd => h d (by simp [hd]))]
theorem escQ_app (a b : List UInt8) (h : ∀ c ∈ a, c.toNat ≠ 39) : escQ (a ++ 39 :: b) = a ++ [39, 92, 39, 39] ++ escQ b := by
  induction a with
  | nil => simp [escQ]
  | cons c t ih =>
    rw [List.cons_append]
    simp only [escQ]
    rw [if_neg (h c (by simp)), ih (fun d hd => h d (by simp [hd]))]
    rfl
theorem index_sgl (s : List UInt8) : Lib.index s [39] = if (sglL s).length < s.length then ((sglL s).length : Int) else -1 := by
  rw [Lib.index_one, idx_sgl]
theorem replace_esc : ∀ (n : Nat) (s : List UInt8), s.length ≤ n → Lib.replaceK [39] [39, 92, 39, 39] (Lib.count s [39]) s = escQ s := by
  intro n
  induction n with
  | zero =>
    intro s hs
    have : s = [] := List.eq_nil_of_length_eq_zero (by omega)
    subst this
    rfl
  | succ n ih =>
    intro s hs
    by_cases h : (sglL s).length < s.length
    · have hi : Lib.index s [39] = ((sglL s).length : Int) := by rw [index_sgl, if_pos h]
      rw [Lib.count_hit (i := (sglL s).length) (by decide) hi, Nat.add_comm 1, Lib.replaceK_hit _ _ _ _ _ hi]
      obtain ⟨rest, h1, h2⟩ := sgl_split s h
      have e1 : s.take (sglL s).length = sglL s := (List.prefix_iff_eq_take.1 (List.takeWhile_prefix _)).symm
      have e2 : s.drop ((sglL s).length + ([39] : List UInt8).length) = rest := by
        generalize sglL s = a at *
        subst h1
        simp
      rw [e1, e2, ih rest (by have := congrArg List.length h1; simp at this; omega)]
      generalize sglL s = a at *
      subst h1
      rw [escQ_app a rest h2]
    · have hi : Lib.index s [39] = -1 := by rw [index_sgl, if_neg h]
      rw [Lib.count_miss hi, escQ_none s (sgl_none s h)]
      rfl
theorem replaceAll_esc (s : List UInt8) : Lib.replaceAll s [39] [39, 92, 39, 39] = escQ s := by
  unfold Lib.replaceAll Lib.replace Lib.replaceNum
  rw [if_neg (by decide), if_pos (.inl (by decide))]
  exact replace_esc _ s (Nat.le_refl _)
/-- The library's variable that bounds a search holds an integer. -/
def MaxAt (w : World) : Prop := ∃ m : Int, w.cell? ⟨0, 0, none⟩ = some (.int .i64 m)
theorem MaxAt.ext {w w' : World} (h : MaxAt w) (hx : Ext w w') : MaxAt w' := by
  obtain ⟨m, h⟩ := h
  exact ⟨m, hx.cell h⟩
theorem escQ_len (s : List UInt8) : (escQ s).length ≤ 4 * s.length := by
  induction s with
  | nil => simp [escQ]
  | cons c t ih =>
    simp only [escQ]
    split <;> simp <;> omega
theorem quote_any (s : List UInt8) (hs : s.length ≤ 1000000) (w : World) (hm : MaxAt w) :
    Calls Tryd.prog 17 #[.string (str s)] w fun e w' => e = .returned (.string (str (quoteL s))) ∧ Ext w w' := by
  obtain ⟨m, hm⟩ := hm
  have hsz := str_size s
  have hcb := Lib.countB_le (str [39]) (by decide) _ (str s) (Nat.le_refl _)
  have hra := Tryd.strings_ReplaceAll (str s) (str [39]) (str [39, 92, 39, 39]) m w (by omega) hm (by decide) (by
    have : (str [39, 92, 39, 39]).size = 4 := rfl
    rw [this]
    omega)
  rw [str_toList, str_toList, str_toList, replaceAll_esc] at hra
  have HRA := hide hra
  have hel := escQ_len s
  have hes := str_size (escQ s)
  have h1 : (⟨#[39]⟩ : ByteArray) ++ str (escQ s) = str (39 :: escQ s) := str_append [39] (escQ s)
  have h2 : str (39 :: escQ s) ++ ⟨#[39]⟩ = str (quoteL s) := str_append (39 :: escQ s) [39]
  have h3 : (str (39 :: escQ s)).size = (escQ s).length + 1 := str_size _
  clear hra hm hcb
  go_enter Tryd.func17, Tryd.ntmps17
  go_wp2_with fail
  refine HRA.out.mono ?_
  rintro e w1 ⟨rfl, hx⟩
  have HX := hide hx
  clear hx HRA
  have hq : (⟨(escQ s).toArray⟩ : ByteArray) = str (escQ s) := rfl
  rw [hq]
  generalize str (escQ s) = E at *
  generalize str (39 :: escQ s) = E2 at *
  clear hq
  go_wp2_with fail
  go_ret
  exact ⟨rfl, HX.out⟩
end Go.Proofs.YtjbgkcljjgofnaaDoor
