/- The contract of (*world).step where the plain step goes. -/
import Derived.Test.YtikpdhkjkmbomaaPlStepA
import Derived.Test.YtikpdhkjkmbomaaPlStepB
namespace Go.Proofs.Ytikpdhkjkmbomaa
open Go.RowKit Go.Maps
set_option linter.unusedVariables false

theorem StOut.mono {w0 wb : World} {be gw K K' : Nat} {d' : WT} {e : Ending} {w' : World} (h : StOut w0 wb be gw K d' e w') (hK : K ≤ K') : StOut w0 wb be gw K' d' e w' := by
  obtain ⟨he, N, E, ms, Af, cf, Ae, ce, h⟩ := h
  exact ⟨he, N, E, ms, Af, cf, Ae, ce, h.mono hK⟩
def stepCs (s : StepD) : Array Value := #[.int .i64 s.who, .int .i64 s.call.num, .int .i64 s.call.a, .int .i64 s.call.b, .int .i64 s.call.c, .string (str s.call.name), .string ⟨#[]⟩, .slice none 0 0]
theorem atT_ne {f : FdT} (hf : f.length = 8) {a : Int} (h : atT f a ≠ .no) : 0 ≤ a ∧ a < 8 := by
  unfold atT at h
  by_cases h0 : 0 ≤ a
  · rw [if_pos h0] at h
    refine ⟨h0, ?_⟩
    by_cases h8 : a < 8
    · exact h8
    · rw [List.getD_eq_getElem?_getD, List.getElem?_eq_none (by omega)] at h
      exact absurd rfl h
  · rw [if_neg h0] at h
    exact absurd rfl h
theorem wstep_any (w0 wb w : World) (be gw K N E : Nat) (s : StepD) (d d' : WT) (ms : List Nat) (Af Ae : Option Addr) (cf ce : Nat) (h : WAt w0 wb be gw K N E d ms Af cf Ae ce w) (hs : stpT s d = some d') (hN : N ≤ 20) (hE : E ≤ 20) (hK : K ≤ 100000) (hp : d.pipes ≤ 9) (hW : d.waits ≤ 1000) :
    Calls Try.prog 8 #[.pointer (some ⟨gw, 0, none⟩), .agg (stepCs s)] w (StOut w0 wb be gw (K + 2) d') := by
  obtain ⟨who, num, a, b, c, name⟩ := s
  unfold stpT at hs
  dsimp only at hs
  split at hs
  case isFalse => cases hs
  case isTrue hg =>
  obtain ⟨hg0, hg1, hg2⟩ := hg
  obtain ⟨i, rfl⟩ := Int.eq_ofNat_of_zero_le hg0
  have hiF : i < d.fds.length := by omega
  have hi : i < N := by rw [← h.lf]; exact hiF
  obtain ⟨f, hf⟩ : ∃ f, d.fds[i]? = some f := ⟨_, List.getElem?_eq_getElem hiF⟩
  have hfl : f.length = 8 := by
    have := (h.each i (by rw [h.lm]; exact hi) hiF).len
    rw [List.getElem?_eq_getElem hiF] at hf
    injection hf with hf
    rwa [hf] at this
  have hgd : d.fds.getD i [] = f := by rw [List.getD_eq_getElem?_getD, hf]; rfl
  rw [Int.toNat_natCast, hgd] at hs
  show Calls Try.prog 8 #[.pointer (some ⟨gw, 0, none⟩), .agg #[.int .i64 (i : Int), .int .i64 num, .int .i64 a, .int .i64 b, .int .i64 c, .string (str name), .string ⟨#[]⟩, .slice none 0 0]] w _
  by_cases h2 : num = 2
  · subst h2
    rw [if_pos rfl] at hs
    split at hs
    case isFalse => cases hs
    case isTrue hi0 =>
    injection hs with hs
    subst hs
    exact (step_fork w0 wb w be gw K N E i d ms Af Ae cf ce f a b c name h hi hg2 hf hN hE hK (by omega)).mono fun _ _ q => q.mono (by omega)
  rw [if_neg h2] at hs
  by_cases h3 : num = 3
  · subst h3
    rw [if_pos rfl] at hs
    injection hs with hs
    subst hs
    exact (step_exec w0 wb w be gw K N E i d ms Af Ae cf ce f a b c name h hi hg2 hf hN hE hK).mono fun _ _ q => q.mono (by omega)
  rw [if_neg h3] at hs
  by_cases h4 : num = 4
  · subst h4
    rw [if_pos rfl] at hs
    split at hs
    case isFalse => cases hs
    case isTrue hi0 =>
    injection hs with hs
    subst hs
    exact (step_wait w0 wb w be gw K N E i d ms Af Ae cf ce f a b c name h hi hg2 hf hN hE hK (by omega) hW).mono fun _ _ q => q.mono (by omega)
  rw [if_neg h4] at hs
  unfold ownT at hs
  dsimp only at hs
  by_cases h10 : num = 10
  · subst h10
    rw [if_pos rfl] at hs
    split at hs
    case isFalse => cases hs
    case isTrue hl =>
    injection hs with hs
    subst hs
    exact (step_pipe w0 wb w be gw K N E i d ms Af Ae cf ce f a b c name h hi hg2 hf hN hE hK hp hl.1 hl.2).mono fun _ _ q => q
  rw [if_neg h10] at hs
  by_cases h11 : num = 11
  · subst h11
    rw [if_pos rfl] at hs
    split at hs
    case isFalse => cases hs
    case isTrue hl =>
    injection hs with hs
    subst hs
    have ha := atT_ne hfl hl.1
    exact (step_dup w0 wb w be gw K N E i d ms Af Ae cf ce f a b c name h hi hg2 hf hN hE hK ha.1 ha.2 hl.2.1 hl.2.2 hl.1).mono fun _ _ q => q.mono (by omega)
  rw [if_neg h11] at hs
  by_cases h6 : num = 6
  · subst h6
    rw [if_pos rfl] at hs
    split at hs
    case isFalse => cases hs
    case isTrue hl =>
    injection hs with hs
    subst hs
    have ha := atT_ne hfl hl
    exact (step_close w0 wb w be gw K N E i d ms Af Ae cf ce f a b c name h hi hg2 hf hN hE hK ha.1 ha.2 hl).mono fun _ _ q => q.mono (by omega)
  rw [if_neg h6] at hs
  by_cases h5 : num = 5
  · subst h5
    rw [if_pos rfl] at hs
    split at hs
    case isFalse => cases hs
    case isTrue hl =>
    injection hs with hs
    subst hs
    obtain ⟨hl1, hl2⟩ := hl
    have hcase : (name = inS ∧ a = 1 ∧ b = 0 ∧ openT name a b = .fin) ∨ (name = outS ∧ a = 2 ∧ b = 5 ∧ openT name a b = .fout) ∨ (name = outS ∧ a = 2 ∧ b = 9 ∧ openT name a b = .foutm) := by
      unfold openT at hl2 ⊢
      split
      · rename_i q; exact .inl ⟨q.1, q.2.1, q.2.2, rfl⟩
      · rename_i q1
        rw [if_neg q1] at hl2
        split
        · rename_i q; exact .inr (.inl ⟨q.1, q.2.1, q.2.2, rfl⟩)
        · rename_i q2
          rw [if_neg q2] at hl2
          split
          · rename_i q; exact .inr (.inr ⟨q.1, q.2.1, q.2.2, rfl⟩)
          · rename_i q3
            rw [if_neg q3] at hl2
            exact absurd rfl hl2
    rcases hcase with ⟨rfl, rfl, rfl, e⟩ | ⟨rfl, rfl, rfl, e⟩ | ⟨rfl, rfl, rfl, e⟩
    · dsimp only
      rw [e]
      exact (step_open_in w0 wb w be gw K N E i d ms Af Ae cf ce f 1 0 c inS h hi hg2 hf hN hE hK hl1).mono fun _ _ q => q.mono (by omega)
    · dsimp only
      rw [e]
      exact (step_open_out w0 wb w be gw K N E i d ms Af Ae cf ce f 2 5 c outS h hi hg2 hf hN hE hK hl1).mono fun _ _ q => q.mono (by omega)
    · dsimp only
      rw [e]
      exact (step_open_more w0 wb w be gw K N E i d ms Af Ae cf ce f 2 9 c outS h hi hg2 hf hN hE hK hl1).mono fun _ _ q => q.mono (by omega)
  rw [if_neg h5] at hs
  cases hs
end Go.Proofs.Ytikpdhkjkmbomaa
