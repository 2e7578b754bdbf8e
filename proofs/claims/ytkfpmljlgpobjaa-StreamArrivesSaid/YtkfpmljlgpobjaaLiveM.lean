/- Rounds of two open ends come to an end: all that was written is read. Plain laws. -/
import Derived.Test.YtkfpmljlgpobjaaLiveR
namespace Go.Proofs.Ytkfpmljlgpobjaa
open Go.RowKit
set_option linter.unusedVariables false

/-- How many rounds are left at most, till all is received; d: is an answer due there? -/
def mu (u n r : Nat) (wait peer : Int) (d : Nat) : Int :=
  if peer = 64 then (if n = r then 1 else if n < r then (if d = 1 then 4 else 5) else if u = r then 4 - wait else if d = 1 then 4 else 8 - wait)
  else if d = 1 then 9 else if u = n then 10 else 13 - wait
theorem mu_pos (u n r : Nat) (wait peer : Int) (d : Nat) (h : wait ≤ 2) : 1 ≤ mu u n r wait peer d := by
  unfold mu
  repeat' split
  all_goals omega
theorem mu_le (u n r : Nat) (wait peer : Int) (d : Nat) (h : 0 ≤ wait) : mu u n r wait peer d ≤ 13 := by
  unfold mu
  repeat' split
  all_goals omega
/-- A round comes nearer to the end: the numbers of one that says, and r, what the other end received of it. -/
theorem mu_step {L u n r n1 u2 n2 r2 d d2 : Nat} {wait tries peer wait2 tries2 peer2 : Int} {s : Prop}
    (hy : s → u2 = r ∧ peer2 = 64 ∧ (r = max n1 r → n2 = r ∧ tries2 = 0 ∧ (u < r → wait2 = 0) ∧ (¬ u < r → wait2 = wait)) ∧ (r ≠ max n1 r → u < r → n2 = max n1 r ∧ wait2 = 1 ∧ tries2 = 0) ∧ (r ≠ max n1 r → ¬ u < r → wait + 1 < 3 → n2 = max n1 r ∧ wait2 = wait + 1 ∧ tries2 = 0) ∧ (r ≠ max n1 r → ¬ u < r → ¬ wait + 1 < 3 → n2 = r ∧ wait2 = 0 ∧ tries2 = 1))
    (hno : ¬ s → u2 = u ∧ peer2 = peer ∧ (u = n1 → n2 = n1 ∧ wait2 = wait ∧ tries2 = tries) ∧ (u ≠ n1 → wait + 1 < 3 → n2 = n1 ∧ wait2 = wait + 1 ∧ tries2 = tries) ∧ (u ≠ n1 → ¬ wait + 1 < 3 → n2 = u ∧ wait2 = 0 ∧ tries2 = tries + 1))
    (hs : d = 1 → s) (d1 : n < n1 → d2 = 1) (d0 : ¬ n < n1 → d2 = 0) (hfar : r < n → r2 = r) (hnear : n1 - r ≤ 64 → (r = n → r2 = n1) ∧ (r2 = r ∨ r2 = n1))
    (hn1 : n1 = max n (u + min (L - u) (max peer 1).toNat)) (hL : n1 ≤ L) (hur : u ≤ r) (hun : u ≤ n) (hrL : r < L) (hLu : L - u ≤ 64) (w0 : 0 ≤ wait) (w2 : wait ≤ 2) :
    r2 = L ∨ mu u2 n2 r2 wait2 peer2 d2 < mu u n r wait peer d := by
  have hnr : n1 - r ≤ 64 := by omega
  obtain ⟨k1, k2⟩ := hnear hnr
  clear hnear hnr
  by_cases hr2 : r2 = L
  · exact .inl hr2
  refine .inr ?_
  by_cases hp : peer = 64
  · subst hp
    have hnL : n1 = L := by omega
    have hr : r2 = r := by omega
    subst hr
    have hnn : ¬ n = r2 := by omega
    clear k2 hfar
    by_cases hc : s
    · obtain ⟨a1, a2, a3, a4, a5, a6⟩ := hy hc
      clear hy hno
      have hm : r2 ≠ max n1 r2 := by omega
      have b4 := a4 hm
      have b5 := a5 hm
      have b6 := a6 hm
      clear a3 a4 a5 a6
      subst a1 a2
      unfold mu
      by_cases c1 : u < u2
      · obtain ⟨e1, e2, -⟩ := b4 c1
        clear b4 b5 b6
        subst e1 e2
        repeat' split
        all_goals omega
      · by_cases c2 : wait + 1 < 3
        · obtain ⟨e1, e2, -⟩ := b5 c1 c2
          clear b4 b5 b6
          subst e1 e2
          repeat' split
          all_goals omega
        · obtain ⟨e1, e2, -⟩ := b6 c1 c2
          clear b4 b5 b6
          subst e1 e2
          repeat' split
          all_goals omega
    · obtain ⟨a1, a2, a3, a4, a5⟩ := hno hc
      have hd : ¬ d = 1 := fun h => hc (hs h)
      clear hy hno hs
      subst a1 a2
      unfold mu
      by_cases c1 : u2 = n1
      · exfalso; omega
      · by_cases c2 : wait + 1 < 3
        · obtain ⟨e1, e2, -⟩ := a4 c1 c2
          clear a3 a4 a5
          subst e1 e2
          repeat' split
          all_goals omega
        · obtain ⟨e1, e2, -⟩ := a5 c1 c2
          clear a3 a4 a5
          subst e1 e2
          repeat' split
          all_goals omega
  · have hmu : mu u n r wait peer d = if d = 1 then 9 else if u = n then 10 else 13 - wait := by unfold mu; rw [if_neg hp]
    rw [hmu]
    by_cases hc : s
    · obtain ⟨a1, a2, a3, a4, a5, a6⟩ := hy hc
      clear hy hno
      have hw2 : 0 ≤ wait2 := by
        by_cases c0 : r = max n1 r
        · obtain ⟨-, -, e1, e2⟩ := a3 c0
          by_cases c1 : u < r
          · rw [e1 c1]; omega
          · rw [e2 c1]; omega
        · by_cases c1 : u < r
          · obtain ⟨-, e1, -⟩ := a4 c0 c1; omega
          · by_cases c2 : wait + 1 < 3
            · obtain ⟨-, e1, -⟩ := a5 c0 c1 c2; omega
            · obtain ⟨-, e1, -⟩ := a6 c0 c1 c2; omega
      have hm8 : mu u2 n2 r2 wait2 peer2 d2 ≤ 8 := by
        unfold mu
        rw [if_pos a2]
        repeat' split
        all_goals omega
      repeat' split
      all_goals omega
    · obtain ⟨a1, a2, a3, a4, a5⟩ := hno hc
      have hd : ¬ d = 1 := fun h => hc (hs h)
      clear hy hno hs
      have hp2 : ¬ peer2 = 64 := by rw [a2]; exact hp
      have hmu2 : mu u2 n2 r2 wait2 peer2 d2 = if d2 = 1 then 9 else if u2 = n2 then 10 else 13 - wait2 := by unfold mu; rw [if_neg hp2]
      rw [hmu2, if_neg hd]
      by_cases hnn : n < n1
      · rw [if_pos (d1 hnn)]
        split <;> omega
      · have hd2 := d0 hnn
        rw [if_neg (by omega)]
        have hun2 : ¬ u = n := by omega
        rw [if_neg hun2]
        have c1 : u ≠ n1 := by omega
        by_cases c2 : wait + 1 < 3
        · obtain ⟨e1, e2, -⟩ := a4 c1 c2
          rw [if_neg (by omega)]
          omega
        · obtain ⟨e1, e2, -⟩ := a5 c1 c2
          rw [if_pos (by omega)]
          omega
/-- The tries never end. -/
theorem tries_step {L u n r n1 u2 n2 d d2 : Nat} {wait tries peer wait2 tries2 peer2 : Int} {s : Prop}
    (hy : s → u2 = r ∧ peer2 = 64 ∧ (r = max n1 r → n2 = r ∧ tries2 = 0 ∧ (u < r → wait2 = 0) ∧ (¬ u < r → wait2 = wait)) ∧ (r ≠ max n1 r → u < r → n2 = max n1 r ∧ wait2 = 1 ∧ tries2 = 0) ∧ (r ≠ max n1 r → ¬ u < r → wait + 1 < 3 → n2 = max n1 r ∧ wait2 = wait + 1 ∧ tries2 = 0) ∧ (r ≠ max n1 r → ¬ u < r → ¬ wait + 1 < 3 → n2 = r ∧ wait2 = 0 ∧ tries2 = 1))
    (hno : ¬ s → u2 = u ∧ peer2 = peer ∧ (u = n1 → n2 = n1 ∧ wait2 = wait ∧ tries2 = tries) ∧ (u ≠ n1 → wait + 1 < 3 → n2 = n1 ∧ wait2 = wait + 1 ∧ tries2 = tries) ∧ (u ≠ n1 → ¬ wait + 1 < 3 → n2 = u ∧ wait2 = 0 ∧ tries2 = tries + 1))
    (hs : d = 1 → s) (d1 : n < n1 → d2 = 1) (hn1 : n1 = max n (u + min (L - u) (max peer 1).toNat)) (hL : n1 ≤ L) (hun : u ≤ n)
    (h : tries ≤ 5 ∨ (tries = 6 ∧ ((n = u ∧ u < L ∧ wait = 0) ∨ d = 1))) : tries2 ≤ 5 ∨ (tries2 = 6 ∧ ((n2 = u2 ∧ u2 < L ∧ wait2 = 0) ∨ d2 = 1)) := by
  by_cases hc : s
  · obtain ⟨a1, a2, a3, a4, a5, a6⟩ := hy hc
    refine .inl ?_
    by_cases c0 : r = max n1 r
    · obtain ⟨-, e1, -, -⟩ := a3 c0; omega
    · by_cases c1 : u < r
      · obtain ⟨-, -, e1⟩ := a4 c0 c1; omega
      · by_cases c2 : wait + 1 < 3
        · obtain ⟨-, -, e1⟩ := a5 c0 c1 c2; omega
        · obtain ⟨-, -, e1⟩ := a6 c0 c1 c2; omega
  · obtain ⟨a1, a2, a3, a4, a5⟩ := hno hc
    have hd : ¬ d = 1 := fun h => hc (hs h)
    rcases h with h | ⟨h, ⟨h1, h2, h3⟩ | h1⟩
    · by_cases c1 : u = n1
      · obtain ⟨-, -, e1⟩ := a3 c1; exact .inl (by omega)
      · by_cases c2 : wait + 1 < 3
        · obtain ⟨-, -, e1⟩ := a4 c1 c2; exact .inl (by omega)
        · obtain ⟨e0, e2, e1⟩ := a5 c1 c2
          by_cases h6 : tries2 ≤ 5
          · exact .inl h6
          · exact .inr ⟨by omega, .inl ⟨by omega, by omega, e2⟩⟩
    · have hn : n < n1 := by omega
      have c1 : u ≠ n1 := by omega
      obtain ⟨-, -, e1⟩ := a4 c1 (by omega)
      exact .inr ⟨by omega, .inr (d1 hn)⟩
    · exact absurd h1 hd
end Go.Proofs.Ytkfpmljlgpobjaa
