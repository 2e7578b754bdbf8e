/- What BindLoads rests on: an image that was linked may be, and begins where its name says. Plain theorems. -/
import Derived.Test.YtljlniehbenefaaDoorBdCheck
namespace Go.Proofs.YtljlniehbenefaaDoor
open Go.RowKit
set_option linter.unusedVariables false

theorem entry_start {os : List ObX} {S : PlS} (hs : placesP os = some S) (k : Nat) (hname : ∀ j (hj : j < os.length), ∀ n ∈ os[j].1.names, n.name = startS → j = k ∧ n.wh = 1 ∧ n.pos = 0) (he : 16 ≤ entryP S.out) : entryP S.out = (cAt os k : Int) := by
  rcases entryP_mem S.out 0 with h | ⟨p, hp, h1, h2⟩
  · have : entryP S.out = 0 := h
    omega
  · obtain ⟨j, hj, n, hn, rfl⟩ := places_from hs p hp
    obtain ⟨rfl, hw, hpos⟩ := hname j hj n hn h1
    have : entryP S.out = addrN (cAt os j) (dAt os j) n := h2
    rw [this]
    unfold addrN
    rw [if_pos hw, hpos]
    omega
theorem cAt_mod4 (os : List ObX) (k : Nat) : cAt os k % 4 = 0 := by
  have h : ∀ l : List ObX, cLen l % 4 = 0 := by
    intro l
    induction l with
    | nil => rfl
    | cons a l ih =>
      unfold cLen at *
      rw [List.map_cons, List.sum_cons]
      omega
  have := h (os.take k)
  unfold cAt
  omega
theorem page_num {bs : Bs} {code k : Nat} {p : PgD} (h : PgIs bs code k p) (hk : k ≤ 1000) : p.Num ∧ p.m ≤ 16 ∧ 1 ≤ p.rights ∧ p.rights ≤ 5 := by
  have h1 := h.page
  have h2 := h.rights
  have h3 : p.m ≤ 16 := by rw [h.m, h.ds, List.length_take]; omega
  have h4 : p.rights = 5 ∨ p.rights = 3 := by rw [h2]; split <;> simp
  exact ⟨⟨by omega, by omega, by omega, by omega, by omega⟩, h3, by omega, by omega⟩
theorem pages_chk {bs : Bs} {pgs : List PgD} {N C : Nat} (hp : PgsIs bs (upN (16 + C) 16) pgs) (hl : N ≤ 16 + 16 * pgs.length) (hl2 : 0 < pgs.length → 16 + 16 * (pgs.length - 1) < N) (hfit : N ≤ 1024) (hC : 16 + C ≤ N) (en : Nat) (he4 : en % 4 = 0) (h1 : 16 ≤ en) (h2 : en < 16 + C) :
    pgs.length ≤ 64 ∧ Fine pgs pgs.length ∧ (en : Int) % 4 = 0 ∧ startsB (en : Int) pgs = true := by
  have hlen : pgs.length ≤ 63 := by
    by_cases h0 : 0 < pgs.length
    · have := hl2 h0; omega
    · omega
  refine ⟨by omega, fun i hi _ => ?_, by omega, ?_⟩
  · obtain ⟨-, hm, hr1, hr2⟩ := page_num (hp i hi) (by omega)
    have hpg := (hp i hi).page
    have hpv : 0 < i → prevOf pgs i = ((1 + (i - 1) : Nat) : Int) := fun h0 => by
      have hi1 : i - 1 < pgs.length := by omega
      unfold prevOf
      rw [List.getElem?_eq_getElem hi1]
      exact (hp (i - 1) hi1).page
    unfold badAt badP
    rw [decide_eq_false_iff_not]
    rintro (h | h | ⟨h0, h⟩ | h | h)
    · omega
    · omega
    · rw [hpv h0] at h; omega
    · simp only [mayB, decide_eq_false_iff_not] at h
      exact h ⟨hr1, hr2⟩
    · omega
  · have hk : en / 16 - 1 < pgs.length := by omega
    unfold startsB
    rw [List.any_eq_true]
    refine ⟨pgs[en / 16 - 1], List.getElem_mem hk, ?_⟩
    have hpg := (hp _ hk).page
    have hr := (hp _ hk).rights
    have hu := (upN_bd (16 + C) 16 (by omega)).1
    rw [if_pos (by omega)] at hr
    unfold startP
    rw [Bool.and_eq_true, decide_eq_true_eq, decide_eq_true_eq, hpg, hr]
    exact ⟨by omega, by omega⟩
theorem chk_zero {en z : Int} {ps : List PgD} (h : Chk en ps z) (hc : ps.length ≤ 64 ∧ Fine ps ps.length ∧ en % 4 = 0 ∧ startsB en ps = true) : z = 0 := by
  rcases h with ⟨h, -⟩ | ⟨-, h⟩
  · exact h
  · exact absurd hc h
end Go.Proofs.YtljlniehbenefaaDoor
