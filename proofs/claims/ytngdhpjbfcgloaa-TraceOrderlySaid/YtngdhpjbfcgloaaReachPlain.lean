/- What can be reached over edges, as plain data. No program in sight. -/
import Derived.Test.YtngdhpjbfcgloaaMem
import Derived.Test.YtngdhpjbfcgloaaFlat
import Derived.Test.YtngdhpjbfcgloaaArr
namespace Go.Proofs.Ytngdhpjbfcgloaa
open Go.RowKit

abbrev EdgeD := Nat × Nat
def edgeC (e : EdgeD) : List Value := [.int .i64 e.1, .int .i64 e.2]
def edgesV (l : List EdgeD) : List Value := l.flatMap edgeC
theorem edgeC_len (e : EdgeD) : (edgeC e).length = 2 := rfl
theorem edgesV_append (a b : List EdgeD) : edgesV (a ++ b) = edgesV a ++ edgesV b := by simp [edgesV]
theorem edgesV_one (l : List EdgeD) : ∀ u ∈ edgesV l, u.oneCell' = true := by
  intro u hu
  obtain ⟨r, _, h⟩ := List.mem_flatMap.1 hu
  simp only [edgeC, List.mem_cons, List.not_mem_nil, or_false] at h
  rcases h with h | h <;> subst h <;> rfl
theorem edge_cells {w : World} {B n b off : Nat} {l : List EdgeD} (h : Reads w B 2 (some ⟨b, off, none⟩) n (edgesV l)) (i : Nat) (hi : i < n) (hl : i < l.length) :
    w.cell? ⟨b, off + i * 2, none⟩ = some (.int .i64 (l[i].1 : Int)) ∧ w.cell? ⟨b, off + i * 2 + 1, none⟩ = some (.int .i64 (l[i].2 : Int)) :=
  ⟨Reads.elem edgeC_len h i hl (by omega) 0 (by omega) rfl, Reads.elem edgeC_len h i hl (by omega) 1 (by omega) rfl⟩
def natsV (xs : List Nat) : List Value := xs.map fun (x : Nat) => .int .i64 (x : Int)
theorem natsV_length (xs : List Nat) : (natsV xs).length = xs.length := by simp [natsV]
theorem natsV_one (xs : List Nat) : ∀ u ∈ natsV xs, u.oneCell' = true := by
  intro u hu
  obtain ⟨x, _, rfl⟩ := List.mem_map.1 hu
  rfl
theorem natsV_append (a b : List Nat) : natsV (a ++ b) = natsV a ++ natsV b := by simp [natsV]
theorem natsV_take (a : List Nat) (k : Nat) : (natsV a).take k = natsV (a.take k) := by simp [natsV]
theorem cells_nats {w : World} {B n b off : Nat} {xs : List Nat} (h : Reads w B 1 (some ⟨b, off, none⟩) n (natsV xs)) (i : Nat) (hi : i < n) : w.cell? ⟨b, off + i, none⟩ = some (.int .i64 (xs.getD i 0 : Nat)) := by
  obtain ⟨b', off', he, _, hc⟩ := h.at1 (by omega)
  simp only [Option.some.injEq, Addr.mk.injEq, and_true] at he
  obtain ⟨rfl, rfl⟩ := he
  have hl : xs.length = n := by have := h.1; rw [natsV_length] at this; omega
  rw [hc i hi]
  simp [natsV, List.getD_eq_getElem?_getD, show i < xs.length by omega]

def Closed (es : List EdgeD) (S : Nat → Bool) : Prop := ∀ e ∈ es, S e.1 = true → S e.2 = true
def Holds (fs : List Nat) (S : Nat → Bool) : Prop := ∀ f ∈ fs, S f = true
/-- M is just what can be come to from fs. -/
def Least (es : List EdgeD) (fs : List Nat) (M : Nat → Bool) : Prop := Holds fs M ∧ Closed es M ∧ (∀ x, M x = true → x < 64) ∧ ∀ S, Holds fs S → Closed es S → ∀ x, M x = true → S x = true
def setL (M : Nat → Bool) (k : Nat) : List Nat := (List.range k).filter M
theorem setL_succ (M : Nat → Bool) (k : Nat) : setL M (k + 1) = setL M k ++ if M k = true then [k] else [] := by
  unfold setL
  rw [List.range_succ, List.filter_append]
  by_cases h : M k = true <;> simp [h]
theorem setL_le (M : Nat → Bool) (k : Nat) : (setL M k).length ≤ k := by
  have := List.length_filter_le M (List.range k)
  simpa [setL] using this
theorem mem_setL (M : Nat → Bool) (k x : Nat) : x ∈ setL M k ↔ x < k ∧ M x = true := by simp [setL]
theorem setL_congr {M M' : Nat → Bool} (k : Nat) (h : ∀ x, x < k → M x = M' x) : setL M k = setL M' k := by
  unfold setL
  exact List.filter_congr (fun x hx => h x (by simpa using hx))
def cnt (M : Nat → Bool) : Nat := (setL M 64).length
theorem cnt_le (M : Nat → Bool) : cnt M ≤ 64 := setL_le M 64
theorem len_upd (M : Nat → Bool) (n : Nat) (hM : M n = false) : ∀ k, (setL (updN M n true) k).length = (setL M k).length + if n < k then 1 else 0
  | 0 => by simp [setL]
  | k + 1 => by
    rw [setL_succ, setL_succ, List.length_append, List.length_append, len_upd M n hM k]
    by_cases h : k = n
    · subst h
      simp [updN, hM]
    · rw [updN_other _ _ _ _ h]
      by_cases h1 : n < k
      · simp [h1, show n < k + 1 by omega]; omega
      · simp [h1, show ¬ n < k + 1 by omega]
theorem cnt_upd (M : Nat → Bool) (n : Nat) (hM : M n = false) (hn : n < 64) : cnt (updN M n true) = cnt M + 1 := by
  unfold cnt
  rw [len_upd M n hM 64, if_pos hn]

/-- The state of the search: what has been met, and what is still to be looked at. -/
def RInv (es : List EdgeD) (fs : List Nat) (M : Nat → Bool) (way : List Nat) : Prop :=
  (∀ f ∈ fs, M f = true ∨ f ∈ way) ∧ (∀ e ∈ es, M e.1 = true → M e.2 = true ∨ e.2 ∈ way) ∧ (∀ x, M x = true → x < 64) ∧ (∀ x ∈ way, x < 64) ∧
  ∀ S, Holds fs S → Closed es S → (∀ x, M x = true → S x = true) ∧ ∀ x ∈ way, S x = true
theorem RInv.start (es : List EdgeD) (fs : List Nat) (h : ∀ f ∈ fs, f < 64) : RInv es fs (fun _ => false) fs :=
  ⟨fun f hf => .inr hf, (fun _ _ h => by cases h), (fun _ h => by cases h), h, fun S hf _ => ⟨(fun _ h => by cases h), hf⟩⟩
theorem RInv.done {es : List EdgeD} {fs : List Nat} {M : Nat → Bool} (h : RInv es fs M []) : Least es fs M := by
  obtain ⟨h1, h2, h3, h4, h5⟩ := h
  refine ⟨fun f hf => ?_, fun e he hm => ?_, h3, fun S hs hc => (h5 S hs hc).1⟩
  · rcases h1 f hf with h | h
    · exact h
    · cases h
  · rcases h2 e he hm with h | h
    · exact h
    · cases h
theorem RInv.skip {es : List EdgeD} {fs : List Nat} {M : Nat → Bool} {way : List Nat} {n : Nat} (h : RInv es fs M (way ++ [n])) (hn : M n = true) : RInv es fs M way := by
  obtain ⟨h1, h2, h3, h4, h5⟩ := h
  refine ⟨fun f hf => ?_, fun e he hm => ?_, h3, fun x hx => h4 x (by simp [hx]), fun S hs hc => ⟨(h5 S hs hc).1, fun x hx => (h5 S hs hc).2 x (by simp [hx])⟩⟩
  · rcases h1 f hf with h | h
    · exact .inl h
    · rcases List.mem_append.1 h with h | h
      · exact .inr h
      · rw [List.mem_singleton.1 h]; exact .inl hn
  · rcases h2 e he hm with h | h
    · exact .inl h
    · rcases List.mem_append.1 h with h | h
      · exact .inr h
      · rw [List.mem_singleton.1 h]; exact .inl hn
def outs (es : List EdgeD) (n : Nat) : List Nat := (es.filter fun e => decide (e.1 = n)).map (·.2)
theorem outs_snoc (es : List EdgeD) (e : EdgeD) (n : Nat) : outs (es ++ [e]) n = outs es n ++ if e.1 = n then [e.2] else [] := by
  unfold outs
  by_cases h : e.1 = n <;> simp [h]
theorem outs_le (es : List EdgeD) (n : Nat) : (outs es n).length ≤ es.length := by
  unfold outs
  rw [List.length_map]
  exact List.length_filter_le _ _
theorem mem_outs {es : List EdgeD} {n x : Nat} : x ∈ outs es n ↔ ∃ e ∈ es, e.1 = n ∧ e.2 = x := by
  unfold outs
  simp
theorem RInv.take {es : List EdgeD} {fs : List Nat} {M : Nat → Bool} {way : List Nat} {n : Nat} (hes : ∀ e ∈ es, e.1 < 64 ∧ e.2 < 64) (h : RInv es fs M (way ++ [n])) : RInv es fs (updN M n true) (way ++ outs es n) := by
  obtain ⟨h1, h2, h3, h4, h5⟩ := h
  have hup : ∀ x, M x = true → updN M n true x = true := fun x hx => by unfold updN; split <;> simp_all
  have key : ∀ x, M x = true ∨ x ∈ way ++ [n] → updN M n true x = true ∨ x ∈ way ++ outs es n := by
    intro x hx
    rcases hx with hx | hx
    · exact .inl (hup x hx)
    · rcases List.mem_append.1 hx with hx | hx
      · exact .inr (by simp [hx])
      · rw [List.mem_singleton.1 hx]; exact .inl (updN_same M n true)
  refine ⟨fun f hf => key f (h1 f hf), fun e he hm => ?_, fun x hx => ?_, fun x hx => ?_, fun S hs hc => ⟨fun x hx => ?_, fun x hx => ?_⟩⟩
  · by_cases hen : e.1 = n
    · exact .inr (List.mem_append.2 (.inr (mem_outs.2 ⟨e, he, hen, rfl⟩)))
    · rw [updN_other M n _ _ hen] at hm
      exact key _ (h2 e he hm)
  · by_cases hxn : x = n
    · subst hxn; exact h4 x (by simp)
    · rw [updN_other M n _ _ hxn] at hx; exact h3 x hx
  · rcases List.mem_append.1 hx with hx | hx
    · exact h4 x (by simp [hx])
    · obtain ⟨e, he, _, rfl⟩ := mem_outs.1 hx
      exact (hes e he).2
  · by_cases hxn : x = n
    · subst hxn; exact (h5 S hs hc).2 x (by simp)
    · rw [updN_other M n _ _ hxn] at hx; exact (h5 S hs hc).1 x hx
  · rcases List.mem_append.1 hx with hx | hx
    · exact (h5 S hs hc).2 x (by simp [hx])
    · obtain ⟨e, he, hen, rfl⟩ := mem_outs.1 hx
      exact hc e he (by rw [hen]; exact (h5 S hs hc).2 n (by simp))
/-- From what is come to one comes to nothing more. -/
theorem Least.again {es : List EdgeD} {fs : List Nat} {M M' : Nat → Bool} (h : Least es fs M) (h' : Least es (setL M 64) M') : ∀ x, M x = M' x := by
  intro x
  rw [Bool.eq_iff_iff]
  exact ⟨fun hx => h'.1 x ((mem_setL M 64 x).2 ⟨h.2.2.1 x hx, hx⟩), fun hx => h'.2.2.2 M (fun f hf => ((mem_setL M 64 f).1 hf).2) h.2.1 x hx⟩
theorem Least.more {es : List EdgeD} {fs gs : List Nat} {M M' : Nat → Bool} (h : Least es fs M) (h' : Least es gs M') (hsub : ∀ f ∈ fs, f ∈ gs) : ∀ x, M x = true → M' x = true :=
  fun x hx => h.2.2.2 M' (fun f hf => h'.1 f (hsub f hf)) h'.2.1 x hx
theorem Least.one {M : Nat → Bool} (h : Least [(1, 2)] [1] M) : setL M 64 = [1, 2] := by
  have h1 : M 1 = true := h.1 1 (by simp)
  have h2 : M 2 = true := h.2.1 (1, 2) (by simp) h1
  have e : ∀ x, x < 64 → M x = decide (x = 1 ∨ x = 2) := by
    intro x _
    rw [Bool.eq_iff_iff]
    refine ⟨fun hx => h.2.2.2 (fun x => decide (x = 1 ∨ x = 2)) (by simp [Holds]) (by simp [Closed]) x hx, fun hx => ?_⟩
    simp at hx
    rcases hx with rfl | rfl <;> assumption
  rw [setL_congr 64 e]
  decide
end Go.Proofs.Ytngdhpjbfcgloaa
