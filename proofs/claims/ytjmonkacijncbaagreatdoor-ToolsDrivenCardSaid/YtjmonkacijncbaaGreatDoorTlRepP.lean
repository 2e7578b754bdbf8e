/- One byte put for another, in plain words; the contracts of bytes.Count and bytes.Index at one byte. -/
import Derived.Test.YtjmonkacijncbaaGreatDoorTlMean
import Derived.Test.YtjmonkacijncbaaGreatDoorShelfC
import Derived.Test.YtjmonkacijncbaaGreatDoorRow
import Derived.Lib.IndexLaws
namespace Go.Proofs.YtjmonkacijncbaaGreatDoor
open Go.RowKit
set_option linter.unusedVariables false

def replB (x y : UInt8) (b : Bs) : Bs := b.map fun u => if u = x then y else u
theorem replB_len (x y : UInt8) (b : Bs) : (replB x y b).length = b.length := by simp [replB]
theorem replB_app (x y : UInt8) (a b : Bs) : replB x y (a ++ b) = replB x y a ++ replB x y b := by simp [replB]
theorem replB_none (x y : UInt8) (b : Bs) (h : x ∉ b) : replB x y b = b := by
  unfold replB
  conv => rhs; rw [← List.map_id b]
  refine List.map_congr_left (fun u hu => ?_)
  have hne : u ≠ x := fun e => h (by rw [← e]; exact hu)
  rw [if_neg hne]
  rfl
theorem replB_same (x : UInt8) (b : Bs) : replB x x b = b := by
  unfold replB
  conv => rhs; rw [← List.map_id b]
  refine List.map_congr_left (fun u _ => ?_)
  split
  · rename_i h; exact h.symm
  · rfl
theorem rep_tail (x y : UInt8) (b : Bs) (p : Nat) (h : (b.take p).count x = b.count x) : replB x y (b.take p) ++ b.drop p = replB x y b := by
  have h1 : b.count x = (b.take p).count x + (b.drop p).count x := by rw [← List.count_append, List.take_append_drop]
  have h2 : x ∉ b.drop p := List.count_eq_zero.1 (by omega)
  conv => rhs; rw [← List.take_append_drop p b, replB_app, replB_none x y (b.drop p) h2]
theorem rep_step (x y : UInt8) (b : Bs) (p q : Nat) (hq : (b.drop p)[q]? = some x) (hn : ∀ k, k < q → (b.drop p)[k]? ≠ some x) :
    p + q < b.length ∧ replB x y (b.take (p + q + 1)) = (replB x y (b.take p) ++ (b.drop p).take q) ++ [y] ∧ (b.take (p + q + 1)).count x = (b.take p).count x + 1 := by
  have hl : q < (b.drop p).length := (List.getElem?_eq_some_iff.1 hq).1
  rw [List.length_drop] at hl
  have hx : x ∉ (b.drop p).take q := by
    intro h
    obtain ⟨k, hk⟩ := List.mem_iff_getElem?.1 h
    rw [List.getElem?_take] at hk
    split at hk
    · rename_i hkq
      exact hn k hkq hk
    · cases hk
  have ht : b.take (p + q + 1) = (b.take p ++ (b.drop p).take q) ++ [x] := by
    have e1 : b.take (p + (q + 1)) = b.take p ++ (b.drop p).take (q + 1) := by rw [List.take_add]
    rw [show p + q + 1 = p + (q + 1) by omega, e1, List.take_add_one, hq]
    simp
  refine ⟨by omega, ?_, ?_⟩
  · rw [ht, replB_app, replB_app, replB_none x y _ hx]
    simp [replB]
  · rw [ht, List.count_append, List.count_append, List.count_eq_zero.2 hx]
    simp
def numsB (b : Bs) : List Int := b.map fun u => (u.toNat : Int)
theorem numsB_len (b : Bs) : (numsB b).length = b.length := by simp [numsB]
theorem bytesOf_nums (b : Bs) : Lib.bytesOf (numsB b) = b := by
  unfold Lib.bytesOf numsB
  rw [List.map_map]
  conv => rhs; rw [← List.map_id b]
  refine List.map_congr_left (fun u _ => ?_)
  simp
theorem u8_back (x : UInt8) : ((x.toNat : Int)).toNat.toUInt8 = x := by simp
theorem nums_cells {w : World} {B n : Nat} {ad : Addr} {b : Bs} (h : Reads w B 1 (some ad) n (bytesV b)) : ∀ i, i < n → w.cell? (ad.add i) = some (.int .u8 ((numsB b).getD i 0)) := by
  intro i hi
  obtain ⟨ad', e, _, hc⟩ := h.2 (by omega)
  injection e with e
  subst e
  have hl := bytes_len h
  refine hc i _ ?_
  rw [List.getD_eq_getElem?_getD]
  simp [bytesV, numsB, show i < b.length by omega]
theorem count_oneb (x : UInt8) (b : Bs) (A : Option Addr) (n c B g1 c1 : Nat) (w : World) (hr : Reads w B 1 A n (bytesV b)) (hA : A = none → c = 0) (hx : w.cell? ⟨g1, 0, none⟩ = some (.int .u8 (x.toNat : Int))) :
    Calls Tryz.prog 39 #[.slice A n c, .slice (some ⟨g1, 0, none⟩) 1 c1] w fun e w' => e = .returned (.int .i64 ((b.count x : Nat) : Int)) ∧ w = w' := by
  have hl := bytes_len hr
  cases A with
  | none =>
    obtain rfl := hA rfl
    obtain rfl := some_of hr rfl
    have hb : b = [] := List.eq_nil_of_length_eq_zero hl
    subst hb
    have hcon := Tryz.bytes_Count_one_nil g1 0 c1 (x.toNat : Int) w hx
    exact hcon.mono fun e w' ⟨h1, h2⟩ => ⟨h1, h2.symm⟩
  | some ad =>
    have hcon := Tryz.bytes_Count_one_at ad n c g1 0 c1 (numsB b) (x.toNat : Int) w (by rw [numsB_len]; exact hl) (nums_cells hr) hx
    rw [bytesOf_nums, u8_back] at hcon
    exact hcon.mono fun e w' ⟨h1, h2⟩ => ⟨h1, h2.symm⟩
theorem index_oneb (x : UInt8) (b : Bs) (ad : Addr) (n c B g1 c1 : Nat) (w : World) (hr : Reads w B 1 (some ad) n (bytesV b)) (hx : w.cell? ⟨g1, 0, none⟩ = some (.int .u8 (x.toNat : Int))) :
    Calls Tryz.prog 71 #[.slice (some ad) n c, .slice (some ⟨g1, 0, none⟩) 1 c1] w fun e w' => e = .returned (.int .i64 (Lib.indexByte b x)) ∧ w = w' := by
  have hl := bytes_len hr
  have hcon := Tryz.bytes_Index_one_at ad n c g1 0 c1 (numsB b) (x.toNat : Int) w (by rw [numsB_len]; exact hl) (nums_cells hr) hx
  rw [bytesOf_nums, u8_back] at hcon
  exact hcon.mono fun e w' ⟨h1, h2⟩ => ⟨h1, h2.symm⟩
theorem index_of (x : UInt8) (b : Bs) (h : x ∈ b) : ∃ q : Nat, Lib.indexByte b x = (q : Int) ∧ b[q]? = some x ∧ ∀ k, k < q → b[k]? ≠ some x := by
  have hge := Lib.indexByte_ge b x
  have hne : Lib.indexByte b x ≠ -1 := fun e => by
    obtain ⟨k, hk⟩ := List.mem_iff_getElem?.1 h
    exact Lib.indexByte_none e k hk
  refine ⟨(Lib.indexByte b x).toNat, by omega, ?_⟩
  exact Lib.indexByte_some (by omega)
end Go.Proofs.YtjmonkacijncbaaGreatDoor
