/- Weak names, in plain words: where the places are. Plain theorems. -/
import Derived.Test.YtljlniehbenefaaBdPl
namespace Go.Proofs.Ytljlniehbenefaa
open Go.RowKit
set_option linter.unusedVariables false

def xS : Bs := [120]
def xO (wk : Bool) (k : Int) : ObD := ⟨[], [0, 0, 0, 0, 0, 0, 0, 0], [⟨xS, 2, k, wk⟩], []⟩
theorem xO_chk (wk : Bool) (k : Int) (h0 : 0 ≤ k) (h1 : k ≤ 8) : ChkOk (xO wk k) := by
  refine ⟨by show (0 : Nat) ≤ _; omega, by show (8 : Nat) ≤ _; omega, by show (1 : Nat) ≤ _; omega, by show (0 : Nat) ≤ _; omega, fun n hn => ?_, ?_, fun n hn => (by cases hn), ?_⟩
  · rw [show (xO wk k).names = [⟨xS, 2, k, wk⟩] from rfl, List.mem_singleton] at hn
    subst hn
    exact ⟨(by decide : nameB xS = true), h0, h1, fun h => absurd (show (2 : Int) = 1 from h) (by decide)⟩
  · show ([xS] : List Bs).Nodup
    simp
  · exact List.Pairwise.nil
theorem xO_sm (wk : Bool) (k : Int) (h0 : 0 ≤ k) (h1 : k ≤ 8) : ObSm (xO wk k) := by
  refine ⟨by show (0 : Nat) ≤ _; omega, by show (8 : Nat) ≤ _; omega, by show (1 : Nat) ≤ _; omega, by show (0 : Nat) ≤ _; omega, fun x hx => (by cases hx), fun n hn => ?_, fun n hn => (by cases hn)⟩
  rw [show (xO wk k).names = [⟨xS, 2, k, wk⟩] from rfl, List.mem_singleton] at hn
  subst hn
  exact ⟨(by decide : xS.length ≤ 1000), ⟨by dsimp only; omega, by dsimp only; omega⟩, by dsimp only; omega, by dsimp only; omega⟩
def dv : ObV := ⟨none, 0, 0, none, 0, 0, none, 0, 0, none, 0, 0⟩
def withV (l : List ObD) : List ObX := l.map fun o => (o, dv)
theorem withV_fst (l : List ObD) : (withV l).map Prod.fst = l := by unfold withV; rw [List.map_map]; exact List.map_id l
theorem cLen_fst {ps qs : List ObX} (h : ps.map Prod.fst = qs.map Prod.fst) : cLen ps = cLen qs := by
  have e : ∀ l : List ObX, cLen l = ((l.map Prod.fst).map fun o => 4 * o.code.length).sum := fun l => by unfold cLen; rw [List.map_map]; rfl
  rw [e, e, h]
theorem dLen_fst {ps qs : List ObX} (h : ps.map Prod.fst = qs.map Prod.fst) : dLen ps = dLen qs := by
  have e : ∀ l : List ObX, dLen l = ((l.map Prod.fst).map fun o => upN o.data.length 4).sum := fun l => by unfold dLen; rw [List.map_map]; rfl
  rw [e, e, h]
theorem take_fst {ps qs : List ObX} (h : ps.map Prod.fst = qs.map Prod.fst) (i : Nat) : (ps.take i).map Prod.fst = (qs.take i).map Prod.fst := by rw [List.map_take, List.map_take, h]
theorem defN_fst {ps qs : List ObX} (h : ps.map Prod.fst = qs.map Prod.fst) : defN ps = defN qs := by
  funext i n
  have h1 : cAt ps i = cAt qs i := by unfold cAt; rw [cLen_fst (take_fst h i)]
  have h2 : dAt ps i = dAt qs i := by unfold dAt dBeg; rw [cLen_fst h, dLen_fst (take_fst h i)]
  unfold defN
  rw [h1, h2]
theorem defsG_fst (f : Nat → NmD → PlW) : ∀ (ps qs : List ObX) (i : Nat), ps.map Prod.fst = qs.map Prod.fst → defsG f ps i = defsG f qs i := by
  intro ps
  induction ps with
  | nil => intro qs i h; cases qs with
    | nil => rfl
    | cons q qs => cases h
  | cons p ps ih => intro qs i h; cases qs with
    | nil => cases h
    | cons q qs =>
      rw [List.map_cons, List.map_cons] at h
      injection h with h1 h2
      unfold defsG
      rw [h1, ih qs (i + 1) h2]
theorem placesP_fst {ps qs : List ObX} (h : ps.map Prod.fst = qs.map Prod.fst) : placesP ps = placesP qs := by
  unfold placesP
  rw [defN_fst h, defsG_fst _ _ _ _ h]
theorem endL_x {ps : List ObX} (h : ∀ p ∈ ps, ∃ wk k, p.1 = xO wk k) (hn : ps.length ≤ 8) : endL ps ≤ 1024 := by
  have h1 := sum_le_mul (fun p : ObX => 4 * p.1.code.length) 0 ps (fun p hp => by obtain ⟨wk, k, e⟩ := h p hp; rw [e]; exact Nat.le_refl _)
  have h2 := sum_le_mul (fun p : ObX => upN p.1.data.length 4) 8 ps (fun p hp => by obtain ⟨wk, k, e⟩ := h p hp; rw [e]; exact (by decide : upN 8 4 ≤ 8))
  have h3 := (upN_bd (16 + cLen ps) 16 (by omega)).2
  unfold endL dBeg dLen
  unfold cLen at *
  omega
/-- The parts of the law. -/
def weakL (m : Nat) (k : Int) : List ObD := List.replicate m (xO true k)
def allL (m a : Nat) (k : Int) : List ObD := (weakL m k).take a ++ (xO false k :: (weakL m k).drop a)
theorem weak_zero (k : Int) : ∃ f, placesP (withV (weakL 0 k)) = some ⟨[], f⟩ := ⟨_, rfl⟩
theorem weak_some (m : Nat) (h0 : 0 < m) (h4 : m ≤ 4) (k : Int) : ∃ z f, placesP (withV (weakL m k)) = some ⟨[⟨xS, 0, z⟩], f⟩ := by
  match m, h0, h4 with
  | 1, _, _ => exact ⟨_, _, rfl⟩
  | 2, _, _ => exact ⟨_, _, rfl⟩
  | 3, _, _ => exact ⟨_, _, rfl⟩
  | 4, _, _ => exact ⟨_, _, rfl⟩
theorem all_some (m a : Nat) (h4 : m ≤ 4) (ha : a ≤ m) (k : Int) : ∃ z f, placesP (withV (allL m a k)) = some ⟨[⟨xS, a, z⟩], f⟩ := by
  match m, a, h4, ha with
  | 0, 0, _, _ => exact ⟨_, _, rfl⟩
  | 1, 0, _, _ => exact ⟨_, _, rfl⟩
  | 1, 1, _, _ => exact ⟨_, _, rfl⟩
  | 2, 0, _, _ => exact ⟨_, _, rfl⟩
  | 2, 1, _, _ => exact ⟨_, _, rfl⟩
  | 2, 2, _, _ => exact ⟨_, _, rfl⟩
  | 3, 0, _, _ => exact ⟨_, _, rfl⟩
  | 3, 1, _, _ => exact ⟨_, _, rfl⟩
  | 3, 2, _, _ => exact ⟨_, _, rfl⟩
  | 3, 3, _, _ => exact ⟨_, _, rfl⟩
  | 4, 0, _, _ => exact ⟨_, _, rfl⟩
  | 4, 1, _, _ => exact ⟨_, _, rfl⟩
  | 4, 2, _, _ => exact ⟨_, _, rfl⟩
  | 4, 3, _, _ => exact ⟨_, _, rfl⟩
  | 4, 4, _, _ => exact ⟨_, _, rfl⟩
theorem two_none (m a : Nat) (h4 : m ≤ 4) (ha : a ≤ m) (k : Int) : placesP (withV (allL m a k ++ [xO false k])) = none := by
  match m, a, h4, ha with
  | 0, 0, _, _ => rfl
  | 1, 0, _, _ => rfl
  | 1, 1, _, _ => rfl
  | 2, 0, _, _ => rfl
  | 2, 1, _, _ => rfl
  | 2, 2, _, _ => rfl
  | 3, 0, _, _ => rfl
  | 3, 1, _, _ => rfl
  | 3, 2, _, _ => rfl
  | 3, 3, _, _ => rfl
  | 4, 0, _, _ => rfl
  | 4, 1, _, _ => rfl
  | 4, 2, _, _ => rfl
  | 4, 3, _, _ => rfl
  | 4, 4, _, _ => rfl
end Go.Proofs.Ytljlniehbenefaa
