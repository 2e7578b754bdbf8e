/- Write and Read of a pipe that both ends have: done, or to be waited for. -/
import Derived.Test.YtoicpnpahjmegaaPipeLive
namespace Go.Proofs.Ytoicpnpahjmegaa
open Go.RowKit
set_option linter.unusedVariables false

theorem rest_nat (z : Int) (k : Nat) (hk : 0 < k) : ∃ m : Nat, restZ z k = (m : Int) ∧ m < k := by
  have h1 := restZ_lo z k (by omega)
  have h2 := restZ_hi z k (by omega)
  exact ⟨(restZ z k).toNat, by omega, by omega⟩

theorem write_both {w0 : World} {gp : Nat} {all : Array Value} {i g : Nat} {r s : Int} {v : Value} {bs : List UInt8} (D : Option Addr) (n cd B : Nat) (ds : List UInt8) (w : World)
    (h : St w0 gp all i g r s v bs w) (hr : r ≠ 0) (hs : s ≠ 0) (hd : Reads w B 1 D n (bytesV ds)) (hdl : ds.length = n) (hn : n ≤ 256) (hnc : n ≤ cd) :
    Calls Try.prog 12 #[.pointer (some ⟨gp, 0, none⟩), .int .i64 ((i : Int) + 1), .slice D n cd] w fun e w' =>
      ∃ y q : Nat, e = .returned (.tuple #[.int .i64 (y : Int), .int .i64 (q : Int)]) ∧ y = min n (64 - bs.length) ∧ ((q = 0 ∧ (n = 0 ∨ bs.length < 64)) ∨ (q = 9 ∧ bs.length = 64 ∧ 0 < n)) ∧ ∃ v', St w0 gp all i g r s v' (bs ++ ds.take y) w' := by
  have hl := h.len
  by_cases hf : n = 0 ∨ bs.length < 64
  · refine (write_st D n cd B ds w h hr hs hd hdl hn hnc hf).mono ?_
    rintro e w' ⟨rfl, v', h', _, _⟩
    exact ⟨_, 0, rfl, rfl, .inl ⟨rfl, hf⟩, v', h'⟩
  · have h64 : bs.length = 64 := by omega
    have hn0 : 0 < n := by omega
    obtain ⟨A, c, rfl, _⟩ := own_form h.own
    have ho := h.one
    rw [h64] at ho
    refine (write_wait gp i g all r s A c D n cd w h.blk h.hi h.hp ho hr hs hn hn0).mono ?_
    rintro e w' ⟨rfl, rfl⟩
    exact ⟨0, 9, rfl, by omega, .inr ⟨rfl, h64, hn0⟩, .slice A bs.length c, by rw [List.take_zero, List.append_nil]; exact h⟩

theorem read_both {w0 : World} {gp : Nat} {all : Array Value} {i g : Nat} {r s : Int} {v : Value} {bs : List UInt8} (n : Nat) (w : World)
    (h : St w0 gp all i g r s v bs w) (hr : r ≠ 0) (hn : n ≤ 256) :
    Calls Try.prog 13 #[.pointer (some ⟨gp, 0, none⟩), .int .i64 ((i : Int) + 1), .int .i64 n] w fun e w' =>
      ∃ A2 k c2, ∃ q : Nat, e = .returned (.tuple #[.slice A2 k c2, .int .i64 (q : Int)]) ∧ k = min n bs.length ∧ ((q = 0 ∧ (n = 0 ∨ 0 < bs.length ∨ s ≤ 0)) ∨ (q = 9 ∧ bs.length = 0 ∧ 0 < n ∧ 0 < s)) ∧ w'.ownsRow w0.heap.size 5 1 (.slice A2 k c2) k (bytesV (bs.take k)) ∧ ∃ v', St w0 gp all i g r s v' (bs.drop k) w' := by
  by_cases hf : n = 0 ∨ 0 < bs.length ∨ s ≤ 0
  · refine (read_st n _ w h hr hn rfl hf).mono ?_
    rintro e w' ⟨A2, c2, rfl, h2, v', h', _, _⟩
    exact ⟨A2, _, c2, 0, rfl, rfl, .inl ⟨rfl, hf⟩, h2, v', h'⟩
  · have h0 : bs.length = 0 := by omega
    have hn0 : 0 < n := by omega
    have hs : 0 < s := by omega
    obtain ⟨A, c, rfl, _⟩ := own_form h.own
    have ho := h.one
    rw [h0] at ho
    refine (read_wait gp i g all r s A c n w h.blk h.hi h.hp ho hr hs hn hn0).mono ?_
    rintro e w' ⟨rfl, rfl⟩
    have hb : bs = [] := List.eq_nil_of_length_eq_zero h0
    subst hb
    exact ⟨none, 0, 0, 9, rfl, by simp, .inr ⟨rfl, rfl, hn0, hs⟩, World.ownsRow_nil _ _ _ _, _, h⟩
end Go.Proofs.Ytoicpnpahjmegaa
