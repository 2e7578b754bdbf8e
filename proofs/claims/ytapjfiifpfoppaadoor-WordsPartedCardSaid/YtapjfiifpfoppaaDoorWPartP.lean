/- Plain facts for WordsParted: fields at blanks. Plain theorems, no condition. -/
import Derived.Test.YtapjfiifpfoppaaDoorWExp
import Derived.Lib.FieldsP
namespace Go.Proofs.YtapjfiifpfoppaaDoor
open Go.RowKit
set_option linter.unusedVariables false

def spaceP (x : Nat) : Bool := decide (x = 32)
/-- A text parted at its blanks. -/
def sepF (s : List UInt8) : List (List UInt8) := (endF (looseF ⟨[], [], false⟩ s)).out
/-- What the spans so far are. -/
def SpanAt (s : List UInt8) (pos : Nat) (st : Option Nat) (acc : List (Nat × Nat)) (f : FldD) : Prop :=
  acc.map (fun x => (str s).extract x.1 x.2) = f.out.map str ∧ (match st with | none => f.some = false ∧ f.now = [] | some a => f.some = true ∧ a ≤ pos ∧ f.now = (s.take pos).drop a)
theorem extract_str (s : List UInt8) (a b : Nat) : (str s).extract a b = str ((s.drop a).take (b - a)) := by
  rw [str, ByteArray.extract_mk, str]
theorem spans_list (s : List UInt8) (hp : Printable s) : ∀ (f pos : Nat) (st : Option Nat) (acc : List (Nat × Nat)) (F : FldD), pos ≤ s.length → s.length - pos ≤ f → SpanAt s pos st acc F → F = looseF ⟨[], [], false⟩ (s.take pos) →
    SpanAt s s.length (Lib.spansFromP spaceP (str s) f pos st acc).2 (Lib.spansFromP spaceP (str s) f pos st acc).1 (looseF ⟨[], [], false⟩ s) := by
  intro f
  induction f with
  | zero =>
    intro pos st acc F hpos hf h hF
    have : pos = s.length := by omega
    subst this
    rw [List.take_length] at hF
    rw [← hF]
    exact h
  | succ f ih =>
    intro pos st acc F hpos hf h hF
    by_cases hlt : pos < s.length
    · have hsz : pos < (str s).size := by rw [str_size]; exact hlt
      have hc := hp s[pos] (List.getElem_mem hlt)
      have e : ((str s)[pos]'hsz) = s[pos] := rfl
      have hd := decode_ascii (str s) pos hsz (by rw [e]; omega)
      rw [e] at hd
      have hnext : looseF ⟨[], [], false⟩ (s.take (pos + 1)) = if s[pos].toNat = 32 then endF F else addF F [s[pos]] := by
        rw [List.take_succ_eq_append_getElem hlt, looseF_snoc, ← hF]
        rfl
      unfold Lib.spansFromP
      rw [if_pos hsz, hd]
      dsimp only
      obtain ⟨h1, h2⟩ := h
      by_cases h32 : s[pos].toNat = 32
      · rw [if_pos h32] at hnext
        have hs : spaceP s[pos].toNat = true := decide_eq_true h32
        rw [hs, if_pos rfl]
        cases st with
        | none =>
          refine ih _ _ _ (endF F) (by omega) (by omega) ⟨?_, ?_⟩ hnext.symm
          · simp only [endF, h2.1]
            simpa using h1
          · exact ⟨rfl, rfl⟩
        | some a =>
          refine ih _ _ _ (endF F) (by omega) (by omega) ⟨?_, ?_⟩ hnext.symm
          · simp only [endF, h2.1, if_true, List.map_append, h1, List.map_cons, List.map_nil]
            rw [extract_str, h2.2.2, List.take_drop, show a + (pos - a) = pos by have := h2.2.1; omega]
          · exact ⟨rfl, rfl⟩
      · rw [if_neg h32] at hnext
        have hs : spaceP s[pos].toNat = false := decide_eq_false h32
        rw [hs, if_neg (by decide)]
        cases st with
        | none =>
          refine ih _ _ _ (addF F [s[pos]]) (by omega) (by omega) ⟨h1, ?_⟩ hnext.symm
          refine ⟨rfl, by omega, ?_⟩
          simp only [addF, h2.2, List.nil_append]
          rw [List.take_succ_eq_append_getElem hlt, List.drop_append_of_le_length (by rw [List.length_take]; omega), List.drop_of_length_le (by rw [List.length_take]; omega)]
          rfl
        | some a =>
          refine ih _ _ _ (addF F [s[pos]]) (by omega) (by omega) ⟨h1, ?_⟩ hnext.symm
          refine ⟨rfl, by have := h2.2.1; omega, ?_⟩
          simp only [addF, h2.2.2]
          rw [List.take_succ_eq_append_getElem hlt, List.drop_append_of_le_length (by rw [List.length_take]; have := h2.2.1; omega)]
          rfl
    · have : pos = s.length := by omega
      subst this
      rw [Lib.spansFromP_end _ _ _ _ _ _ (by rw [str_size]; omega)]
      rw [List.take_length] at hF
      rw [← hF]
      exact h
theorem fields_list (s : List UInt8) (hp : Printable s) : Lib.goFieldsP spaceP (str s) = (sepF s).map str := by
  have h := spans_list s hp (str s).size 0 none [] ⟨[], [], false⟩ (Nat.zero_le _) (by rw [str_size]; omega) ⟨rfl, rfl, rfl⟩ rfl
  unfold Lib.goFieldsP Lib.spansOfP Lib.closeSpans sepF
  generalize Lib.spansFromP spaceP (str s) (str s).size 0 none [] = x at *
  obtain ⟨acc, st⟩ := x
  obtain ⟨h1, h2⟩ := h
  cases st with
  | none =>
    simp only [endF, h2.1]
    simpa using h1
  | some a =>
    simp only [endF, h2.1, if_true, List.map_append, List.map_cons, List.map_nil, h1]
    rw [h2.2.2, List.take_length, extract_str, str_size, List.take_of_length_le (by simp)]
theorem looseF_plain (x : List UInt8) : ∀ f : FldD, (∀ c ∈ x, c.toNat ≠ 32) → f.some = true → looseF f x = ⟨f.out, f.now ++ x, true⟩ := by
  induction x with
  | nil => intro f _ hs; obtain ⟨o, n, s⟩ := f; simp only at hs; subst hs; simp [looseF]
  | cons c x ih =>
    intro f h hs
    have e : looseF f (c :: x) = looseF (addF f [c]) x := by
      show looseF (if c.toNat = 32 then endF f else addF f [c]) x = _
      rw [if_neg (h c (by simp))]
    rw [e, ih _ (fun d hd => h d (by simp [hd])) rfl]
    simp [addF]
theorem dec_digits (n : Nat) : ∀ c ∈ Lib.decDigits n, c.toNat ≠ 32 := by
  induction n using Nat.strongRecOn with
  | _ n ih =>
    intro c hc
    rw [Lib.decDigits] at hc
    have key : ∀ k : Nat, k < 10 → (UInt8.ofNat (48 + k)).toNat ≠ 32 := by
      intro k hk
      rcases (by omega : k = 0 ∨ k = 1 ∨ k = 2 ∨ k = 3 ∨ k = 4 ∨ k = 5 ∨ k = 6 ∨ k = 7 ∨ k = 8 ∨ k = 9) with rfl | rfl | rfl | rfl | rfl | rfl | rfl | rfl | rfl | rfl <;> decide
    split at hc
    · rename_i h
      rw [List.mem_singleton] at hc
      subst hc
      exact key n h
    · rcases List.mem_append.1 hc with hc | hc
      · exact ih (n / 10) (by omega) c hc
      · rw [List.mem_singleton] at hc
        subst hc
        exact key (n % 10) (Nat.mod_lt _ (by decide))
theorem split_five : splitD [36, 120, 32, 34, 36, 120, 34, 32, 97, 36, 63, 98, 32, 36, 110, 111, 110, 101, 32, 34, 36, 110, 111, 110, 101, 34] = .ok [⟨[], [⟨[120], true, false⟩], 0⟩, ⟨[], [⟨[120], true, true⟩], 3⟩, ⟨[], [⟨[97], false, false⟩, ⟨[63], true, false⟩, ⟨[98], false, false⟩], 8⟩, ⟨[], [⟨[110, 111, 110, 101], true, false⟩], 13⟩, ⟨[], [⟨[110, 111, 110, 101], true, true⟩], 19⟩] := by kernel_rfl
section
variable (s st : List UInt8)
theorem five_a : fieldsD [⟨[120], true, false⟩] [⟨[120], s⟩, ⟨[120], [110, 111]⟩] st = sepF s := by
  simp [fieldsD, partsF, stepF, valueD, findV, sepF]
theorem five_b : fieldsD [⟨[120], true, true⟩] [⟨[120], s⟩, ⟨[120], [110, 111]⟩] st = [s] := by
  simp [fieldsD, partsF, stepF, valueD, findV, addF, endF]
theorem five_c (h : ∀ c ∈ st, c.toNat ≠ 32) : fieldsD [⟨[97], false, false⟩, ⟨[63], true, false⟩, ⟨[98], false, false⟩] [⟨[120], s⟩, ⟨[120], [110, 111]⟩] st = [97 :: (st ++ [98])] := by
  simp [fieldsD, partsF, stepF, valueD, addF, endF, looseF_plain st _ h]
theorem five_d : fieldsD [⟨[110, 111, 110, 101], true, false⟩] [⟨[120], s⟩, ⟨[120], [110, 111]⟩] st = [] := by
  simp [fieldsD, partsF, stepF, valueD, findV, looseF, endF]
theorem five_e : fieldsD [⟨[110, 111, 110, 101], true, true⟩] [⟨[120], s⟩, ⟨[120], [110, 111]⟩] st = [[]] := by
  simp [fieldsD, partsF, stepF, valueD, findV, addF, endF]
end
theorem looseF_half (s : List UInt8) : ∀ f : FldD, 2 * (looseF f s).out.length + (if (looseF f s).some = true then 1 else 0) ≤ 2 * f.out.length + (if f.some = true then 1 else 0) + s.length := by
  induction s with
  | nil => intro f; exact Nat.le_refl _
  | cons c s ih =>
    intro f
    have e : looseF f (c :: s) = looseF (if c.toNat = 32 then endF f else addF f [c]) s := rfl
    rw [e, List.length_cons]
    refine Nat.le_trans (ih _) ?_
    obtain ⟨o, n, b⟩ := f
    split
    · cases b <;> simp [endF] <;> omega
    · cases b <;> simp [addF] <;> omega
theorem sepF_len (s : List UInt8) (h : s.length ≤ 50) : (sepF s).length ≤ 40 := by
  have := looseF_half s ⟨[], [], false⟩
  unfold sepF
  simp only [endF]
  split
  · rename_i hs
    rw [if_pos hs] at this
    simp at this ⊢
    omega
  · simp at this
    omega
end Go.Proofs.YtapjfiifpfoppaaDoor
