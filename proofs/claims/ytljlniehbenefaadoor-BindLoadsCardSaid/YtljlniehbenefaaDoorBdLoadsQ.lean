/- A part with one name more: 'start', at its code's beginning. Plain theorems. -/
import Derived.Test.YtljlniehbenefaaDoorBdLoadsP
import Derived.Test.YtljlniehbenefaaDoorBdApartW
namespace Go.Proofs.YtljlniehbenefaaDoor
open Go.RowKit
set_option linter.unusedVariables false

def nmStart : NmD := ⟨startS, 1, 0, false⟩
def addS (o : ObD) : ObD := { o with names := o.names ++ [nmStart] }
theorem objR_names (code : List Nat) (data : Bs) (names needs : List Int) : (objR code data names needs).names.length ≤ 8 ∧ ∀ n ∈ (objR code data names needs).names, n.name ≠ startS := by
  have hn := namesR_inv (code.take 20).length (data.take 40).length names [] 0 ⟨by simp, by simp, by simp, by simp⟩
  refine ⟨hn.few, fun n hm => ?_⟩
  obtain ⟨z, rfl⟩ := hn.made n hm
  rw [mkN_name]
  intro h
  have h1 : (110 : UInt8) = 115 := (List.cons.inj h).1
  exact absurd h1 (by decide)
theorem added_ok {o : ObD} (h : ChkOk o) (h8 : o.names.length ≤ 8) (hns : ∀ n ∈ o.names, n.name ≠ startS) : ChkOk (addS o) := by
  refine ⟨h.code, h.data, ?_, h.nds, fun n hn => ?_, ?_, h.needs, h.rising⟩
  · show (o.names ++ [nmStart]).length ≤ 24
    rw [List.length_append]
    exact Nat.le_trans (Nat.add_le_add_right h8 1) (by omega)
  · rcases List.mem_append.1 hn with hn | hn
    · exact h.names n hn
    · rw [List.mem_singleton] at hn
      subst hn
      refine ⟨by decide +kernel, Int.le_refl _, ?_, fun _ => rfl⟩
      show (0 : Int) ≤ 4 * (o.code.length : Int)
      omega
  · show ((o.names ++ [nmStart]).map NmD.name).Nodup
    rw [List.map_append, List.nodup_append]
    refine ⟨h.nodup, by simp, fun a ha b hb => ?_⟩
    obtain ⟨n, hn, rfl⟩ := List.mem_map.1 ha
    have hb' : b = startS := by simpa [nmStart] using hb
    rw [hb']
    exact hns n hn
/-- Names of raw parts. -/
def Plain8 (acc : List ObX) : Prop := ∀ p ∈ acc, p.1.names.length ≤ 8 ∧ ∀ n ∈ p.1.names, n.name ≠ startS
theorem plain8_of {l : List RawP} {acc : List ObX} (ha : acc.map Prod.fst = (l.take 6).map RawP.o) : Plain8 acc := by
  intro p hp
  have h1 : p.1 ∈ acc.map Prod.fst := List.mem_map.2 ⟨p, hp, rfl⟩
  rw [ha] at h1
  obtain ⟨r, hr, e⟩ := List.mem_map.1 h1
  rw [← e]
  exact objR_names _ _ _ _
theorem facts_set {acc : List ObX} (h : Facts acc) (h8 : Plain8 acc) (k : Nat) (hk : k < acc.length) (v : ObV) : Facts (acc.set k (addS acc[k].1, v)) := by
  have hm : ∀ p ∈ acc.set k (addS acc[k].1, v), p ∈ acc ∨ p = (addS acc[k].1, v) := fun p hp => List.mem_or_eq_of_mem_set hp
  have hk2 := List.getElem_mem hk
  have hok := added_ok (h.chk _ hk2) (h8 _ hk2).1 (h8 _ hk2).2
  refine ⟨by rw [List.length_set]; exact h.len, fun p hp => ?_, fun p hp => ?_, fun p hp => ?_, fun p hp => ?_⟩
  · rcases hm p hp with h1 | rfl
    · exact h.chk p h1
    · exact hok
  · rcases hm p hp with h1 | rfl
    · exact h.sm p h1
    · exact chk_sm hok (h.sm _ hk2).word
  · rcases hm p hp with h1 | rfl
    · exact h.code p h1
    · exact h.code acc[k] hk2
  · rcases hm p hp with h1 | rfl
    · exact h.data p h1
    · exact h.data acc[k] hk2
theorem set_start {acc : List ObX} (h8 : Plain8 acc) (k : Nat) (hk : k < acc.length) (v : ObV) : ∀ j (hj : j < (acc.set k (addS acc[k].1, v)).length), ∀ n ∈ (acc.set k (addS acc[k].1, v))[j].1.names, n.name = startS → j = k ∧ n.wh = 1 ∧ n.pos = 0 := by
  intro j hj n hn he
  rw [List.getElem_set] at hn
  split at hn
  · rename_i hkj
    subst hkj
    rcases List.mem_append.1 hn with hn | hn
    · exact absurd he ((h8 _ (List.getElem_mem hk)).2 n hn)
    · rw [List.mem_singleton] at hn
      subst hn
      exact ⟨rfl, rfl, rfl⟩
  · exact absurd he ((h8 _ (List.getElem_mem _)).2 n hn)
end Go.Proofs.YtljlniehbenefaaDoor
