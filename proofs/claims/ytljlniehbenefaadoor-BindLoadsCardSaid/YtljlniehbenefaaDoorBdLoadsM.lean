/- The memory of the objects while a part gets one name more. Plain theorems. -/
import Derived.Test.YtljlniehbenefaaDoorBdLoadsQ
import Derived.Test.YtljlniehbenefaaDoorBdObjsS
namespace Go.Proofs.YtljlniehbenefaaDoor
open Go.RowKit
set_option linter.unusedVariables false

def named (v : ObV) (A8 : Option Addr) (c8 : Nat) : ObV := { v with A3 := A8, n3 := v.n3 + 1, c3 := c8 }
theorem ObsSt.named {w wr w' : World} {acc : List ObX} {g c : Nat} (h : ObsSt w acc (some ⟨g, 0, none⟩) c wr) (hs : Sep acc) (k : Nat) (hk : k < acc.length) {A8 : Option Addr} {c8 : Nat}
    (ho : w'.ownsRow w.heap.size nmT 4 (.slice A8 (acc[k].2.n3 + 1) c8) (acc[k].2.n3 + 1) ((acc[k].1.names ++ [nmStart]).flatMap nmC))
    (hg : wr.grownBy w' (nmBlk acc[k].2)) :
    ObsSt w (acc.set k (addS acc[k].1, Go.Proofs.YtljlniehbenefaaDoor.named acc[k].2 A8 c8)) (some ⟨g, 0, none⟩) c (w'.setCell ⟨g, k * 4 + 2, none⟩ (.slice A8 (acc[k].2.n3 + 1) c8)) := by
  have hkm := List.getElem_mem hk
  have hrow := own_keptB h.row hg (fun j hj => by
    intro e
    exact own_own_ne (h.each _ hkm).names h.row (by decide) j e hj)
  have hset := own_set hrow (k * 4 + 2) (.slice A8 (acc[k].2.n3 + 1) c8)
  rw [flat_set (f := obXC) (k := 4) (fun _ => rfl) acc k 2 hk (by omega) (addS acc[k].1, Go.Proofs.YtljlniehbenefaaDoor.named acc[k].2 A8 c8) (.slice A8 (acc[k].2.n3 + 1) c8) rfl] at hset
  have hlen : (acc.set k (addS acc[k].1, Go.Proofs.YtljlniehbenefaaDoor.named acc[k].2 A8 c8)).length = acc.length := List.length_set
  have hgl := (h.row.lt g rfl).1
  have hbl : ∀ b, nmBlk acc[k].2 = some b → w.heap.size ≤ b := fun b hb => ((h.each _ hkm).names.lt b hb).1
  refine ⟨by rw [hlen]; exact hset, fun p hp => ?_, (h.ext.grown hg (fun b hb => hbl b hb)).setCell (p := ⟨g, k * 4 + 2, none⟩) hgl _⟩
  obtain ⟨j, hj, rfl⟩ := List.mem_iff_getElem.1 hp
  rw [List.getElem_set]
  split
  · rename_i hkj
    have h0 := h.each _ hkm
    have k1 := own_keptB h0.code hg (fun b hb e => own_own_ne h0.names h0.code (by decide) b e hb)
    have k2 := own_keptB h0.data hg (fun b hb e => own_own_ne h0.names h0.data (by decide) b e hb)
    have k4 := own_keptB h0.needs hg (fun b hb e => own_own_ne h0.names h0.needs (by decide) b e hb)
    exact ⟨own_far k1 (p := ⟨g, k * 4 + 2, none⟩) (fun e => own_own_ne k1 hrow (by decide) g e rfl) _, own_far k2 (p := ⟨g, k * 4 + 2, none⟩) (fun e => own_own_ne k2 hrow (by decide) g e rfl) _,
      own_far ho (p := ⟨g, k * 4 + 2, none⟩) (fun e => own_own_ne ho hrow (by decide) g e rfl) _, own_far k4 (p := ⟨g, k * 4 + 2, none⟩) (fun e => own_own_ne k4 hrow (by decide) g e rfl) _⟩
  · rename_i hkj
    rw [hlen] at hj
    have h0 := h.each _ (List.getElem_mem hj)
    have hn := (h.each _ hkm).names
    have k1 := own_keptB h0.code hg (fun b hb e => own_own_ne hn h0.code (by decide) b e hb)
    have k2 := own_keptB h0.data hg (fun b hb e => own_own_ne hn h0.data (by decide) b e hb)
    have k4 := own_keptB h0.needs hg (fun b hb e => own_own_ne hn h0.needs (by decide) b e hb)
    have k3 := own_keptB h0.names hg (fun b hb e => by
      have hp := List.pairwise_iff_getElem.1 hs
      rcases Nat.lt_or_gt_of_ne hkj with h1 | h1
      · exact hp k j hk hj h1 b b e hb rfl
      · exact hp j k hj hk h1 b b hb e rfl)
    exact ⟨own_far k1 (p := ⟨g, k * 4 + 2, none⟩) (fun e => own_own_ne k1 hrow (by decide) g e rfl) _, own_far k2 (p := ⟨g, k * 4 + 2, none⟩) (fun e => own_own_ne k2 hrow (by decide) g e rfl) _,
      own_far k3 (p := ⟨g, k * 4 + 2, none⟩) (fun e => own_own_ne k3 hrow (by decide) g e rfl) _, own_far k4 (p := ⟨g, k * 4 + 2, none⟩) (fun e => own_own_ne k4 hrow (by decide) g e rfl) _⟩
end Go.Proofs.YtljlniehbenefaaDoor
