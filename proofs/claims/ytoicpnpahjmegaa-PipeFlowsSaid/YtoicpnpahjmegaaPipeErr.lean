/- The refusals of Write and Read, and the state of one pipe over a run of operations. -/
import Derived.Test.YtoicpnpahjmegaaPipeOps
namespace Go.Proofs.Ytoicpnpahjmegaa
open Go.RowKit
set_option linter.unusedVariables false

set_option maxRecDepth 100000 in
theorem write_wait (gp i g : Nat) (all : Array Value) (r s : Int) (A : Option Addr) (c : Nat) (D : Option Addr) (n cd : Nat) (w : World)
    (hb : Blk w gp 51 all) (hi : i < 16) (hp : all[i]? = some (.pointer (some ⟨g, 0, none⟩))) (ho : OneAt w g r s (.slice A 64 c)) (hr : r ≠ 0) (hs : s ≠ 0) (hn : n ≤ 256) (h0 : 0 < n) :
    Calls Try.prog 12 #[.pointer (some ⟨gp, 0, none⟩), .int .i64 ((i : Int) + 1), .slice D n cd] w fun e w' => e = .returned (.tuple #[.int .i64 0, .int .i64 9]) ∧ w = w' := by
  have HE := hide (end_ok gp i g all r s _ 1 w hb hi hp ho (by omega) (by simpa using hs))
  have k0 : w.cell? ⟨g, 0, none⟩ = some (.int .i64 r) := ho.cell 0
  have k2 : w.cell? ⟨g, 2, none⟩ = some (.slice A 64 c) := ho.cell 2
  have t0 : (r == 0) = false := by simpa using hr
  clear hb hp ho hr hs
  go_enter Try.func12, Try.ntmps12
  go_wp2_with fail
  refine HE.out.mono ?_
  rintro e w' ⟨rfl, rfl⟩
  go_wp2_with fail
  go_ret2
  exact ⟨rfl, rfl⟩

set_option maxRecDepth 100000 in
theorem write_pipe (gp i g : Nat) (all : Array Value) (s : Int) (v : Value) (D : Option Addr) (n cd : Nat) (w : World)
    (hb : Blk w gp 51 all) (hi : i < 16) (hp : all[i]? = some (.pointer (some ⟨g, 0, none⟩))) (ho : OneAt w g 0 s v) (hs : s ≠ 0) (hn : n ≤ 256) :
    Calls Try.prog 12 #[.pointer (some ⟨gp, 0, none⟩), .int .i64 ((i : Int) + 1), .slice D n cd] w fun e w' => e = .returned (.tuple #[.int .i64 0, .int .i64 10]) ∧ w = w' := by
  have HE := hide (end_ok gp i g all 0 s _ 1 w hb hi hp ho (by omega) (by simpa using hs))
  have k0 : w.cell? ⟨g, 0, none⟩ = some (.int .i64 0) := ho.cell 0
  clear hb hp ho hs
  go_enter Try.func12, Try.ntmps12
  go_wp2_with fail
  refine HE.out.mono ?_
  rintro e w' ⟨rfl, rfl⟩
  go_wp2_with fail
  go_ret2
  exact ⟨rfl, rfl⟩

set_option maxRecDepth 100000 in
theorem write_state (gp i g : Nat) (all : Array Value) (r : Int) (v : Value) (D : Option Addr) (n cd : Nat) (w : World)
    (hb : Blk w gp 51 all) (hi : i < 16) (hp : all[i]? = some (.pointer (some ⟨g, 0, none⟩))) (ho : OneAt w g r 0 v) (hn : n ≤ 256) :
    Calls Try.prog 12 #[.pointer (some ⟨gp, 0, none⟩), .int .i64 ((i : Int) + 1), .slice D n cd] w fun e w' => e = .returned (.tuple #[.int .i64 0, .int .i64 8]) ∧ w = w' := by
  have HE := hide (end_state gp i g all r 0 _ 1 w hb hi hp ho (by omega) (by simp))
  clear hb hp ho
  go_enter Try.func12, Try.ntmps12
  go_wp2_with fail
  refine HE.out.mono ?_
  rintro e w' ⟨rfl, rfl⟩
  go_wp2_with fail
  go_ret2
  exact ⟨rfl, rfl⟩

set_option maxRecDepth 100000 in
theorem read_wait (gp i g : Nat) (all : Array Value) (r s : Int) (A : Option Addr) (c : Nat) (n : Nat) (w : World)
    (hb : Blk w gp 51 all) (hi : i < 16) (hp : all[i]? = some (.pointer (some ⟨g, 0, none⟩))) (ho : OneAt w g r s (.slice A 0 c)) (hr : r ≠ 0) (hs : 0 < s) (hn : n ≤ 256) (h0 : 0 < n) :
    Calls Try.prog 13 #[.pointer (some ⟨gp, 0, none⟩), .int .i64 ((i : Int) + 1), .int .i64 n] w fun e w' => e = .returned (.tuple #[.slice none 0 0, .int .i64 9]) ∧ w = w' := by
  have HE := hide (end_ok gp i g all r s _ 0 w hb hi hp ho (by omega) (by simpa using hr))
  have k1 : w.cell? ⟨g, 1, none⟩ = some (.int .i64 s) := ho.cell 1
  have k2 : w.cell? ⟨g, 2, none⟩ = some (.slice A 0 c) := ho.cell 2
  clear hb hp ho hr
  go_enter Try.func13, Try.ntmps13
  go_wp2_with fail
  refine HE.out.mono ?_
  rintro e w' ⟨rfl, rfl⟩
  go_wp2_with fail
  go_ret2
  exact ⟨rfl, rfl⟩

set_option maxRecDepth 100000 in
theorem read_state (gp i g : Nat) (all : Array Value) (s : Int) (v : Value) (n : Nat) (w : World)
    (hb : Blk w gp 51 all) (hi : i < 16) (hp : all[i]? = some (.pointer (some ⟨g, 0, none⟩))) (ho : OneAt w g 0 s v) (hn : n ≤ 256) :
    Calls Try.prog 13 #[.pointer (some ⟨gp, 0, none⟩), .int .i64 ((i : Int) + 1), .int .i64 n] w fun e w' => e = .returned (.tuple #[.slice none 0 0, .int .i64 8]) ∧ w = w' := by
  have HE := hide (end_state gp i g all 0 s _ 0 w hb hi hp ho (by omega) (by simp))
  clear hb hp ho
  go_enter Try.func13, Try.ntmps13
  go_wp2_with fail
  refine HE.out.mono ?_
  rintro e w' ⟨rfl, rfl⟩
  go_wp2_with fail
  go_ret2
  exact ⟨rfl, rfl⟩

/-- One pipe, made since w0: its place in the table, its ends, its bytes. -/
structure St (w0 : World) (gp : Nat) (all : Array Value) (i g : Nat) (r s : Int) (v : Value) (bs : List UInt8) (w : World) : Prop where
  blk : Blk w gp 51 all
  hi : i < 16
  hp : all[i]? = some (.pointer (some ⟨g, 0, none⟩))
  gpb : w0.heap.size ≤ gp
  gb : w0.heap.size ≤ g
  ext : Ext w0 w
  one : OneAt w g r s v
  own : w.ownsRow w0.heap.size 5 1 v bs.length (bytesV bs)
  len : bs.length ≤ 64

theorem St.next {w0 : World} {gp : Nat} {all : Array Value} {i g : Nat} {r s : Int} {v : Value} {bs bs' : List UInt8} {w w' : World} {N : Nat}
    (h : St w0 gp all i g r s v bs w) (hp : PipeIs w0.heap.size g r s v bs' N w w') (hN : N ≤ 64) :
    ∃ v', St w0 gp all i g r s v' bs' w' ∧ Kept g v w w' ∧ (v'.ownBlock = v.ownBlock ∨ ∀ k, v'.ownBlock = some k → w.heap.size ≤ k) := by
  obtain ⟨hl, A, c, h1, h2, h3, h4⟩ := hp
  subst hl
  have hv : ∀ k, v.ownBlock = some k → w0.heap.size ≤ k := fun k hk => (h.own.lt k hk).1
  exact ⟨_, ⟨h3.blk h.blk (fun e => by have := h.blk; have h1 := h.one; subst e; simp only [Blk] at this h1; rw [this] at h1; simp at h1) (own_blk_ne h.own h.blk (by decide)).symm, h.hi, h.hp, h.gpb, h.gb, h3.ext h.ext h.gb hv, h1, h2, hN⟩, h3, h4⟩

theorem write_st {w0 : World} {gp : Nat} {all : Array Value} {i g : Nat} {r s : Int} {v : Value} {bs : List UInt8} (D : Option Addr) (n cd B : Nat) (ds : List UInt8) (w : World)
    (h : St w0 gp all i g r s v bs w) (hr : r ≠ 0) (hs : s ≠ 0) (hd : Reads w B 1 D n (bytesV ds)) (hdl : ds.length = n) (hn : n ≤ 256) (hnc : n ≤ cd) (hfull : n = 0 ∨ bs.length < 64) :
    Calls Try.prog 12 #[.pointer (some ⟨gp, 0, none⟩), .int .i64 ((i : Int) + 1), .slice D n cd] w fun e w' =>
      e = .returned (.tuple #[.int .i64 ((min n (64 - bs.length) : Nat) : Int), .int .i64 0]) ∧ ∃ v', St w0 gp all i g r s v' (bs ++ ds.take (min n (64 - bs.length))) w' ∧ Kept g v w w' ∧ (v'.ownBlock = v.ownBlock ∨ ∀ k, v'.ownBlock = some k → w.heap.size ≤ k) := by
  obtain ⟨A, c, rfl, _⟩ := own_form h.own
  refine (write_ok gp i g all r s A bs.length c w0.heap.size bs D n cd B ds w h.blk h.hi h.hp h.one h.own h.ext.size rfl h.len hr hs hd hdl hn hnc hfull).mono ?_
  rintro e w' ⟨rfl, hp⟩
  exact ⟨rfl, h.next hp (by have := h.len; omega)⟩

theorem read_st {w0 : World} {gp : Nat} {all : Array Value} {i g : Nat} {r s : Int} {v : Value} {bs : List UInt8} (n k : Nat) (w : World)
    (h : St w0 gp all i g r s v bs w) (hr : r ≠ 0) (hn : n ≤ 256) (hk : k = min n bs.length) (hcase : n = 0 ∨ 0 < bs.length ∨ s ≤ 0) :
    Calls Try.prog 13 #[.pointer (some ⟨gp, 0, none⟩), .int .i64 ((i : Int) + 1), .int .i64 n] w fun e w' =>
      ∃ A2 c2, e = .returned (.tuple #[.slice A2 k c2, .int .i64 0]) ∧ w'.ownsRow w0.heap.size 5 1 (.slice A2 k c2) k (bytesV (bs.take k)) ∧ ∃ v', St w0 gp all i g r s v' (bs.drop k) w' ∧ Kept g v w w' ∧ (v'.ownBlock = v.ownBlock ∨ ∀ k, v'.ownBlock = some k → w.heap.size ≤ k) := by
  obtain ⟨A, c, rfl, _⟩ := own_form h.own
  refine (read_ok gp i g all r s A bs.length c w0.heap.size bs n k w h.blk h.hi h.hp h.one h.own h.ext.size rfl h.len hr hn (by omega) hcase).mono ?_
  rintro e w' ⟨A2, c2, rfl, h2, hp⟩
  exact ⟨A2, c2, rfl, h2, h.next hp (by have := h.len; omega)⟩

/-- Of a table of pipes: place i is free, all before it are not. -/
theorem make_st {w0 : World} (gp i : Nat) (all : Array Value) (w : World) (hb : Blk w gp 51 all) (hx : Ext w0 w) (hg : w0.heap.size ≤ gp) (hi : i < 16) (hs : all.size = 16) (hp : all[i]? = some (.pointer none)) (hj : ∀ j, j < i → ∃ a, all[j]? = some (.pointer (some a))) :
    Calls Try.prog 9 #[.pointer (some ⟨gp, 0, none⟩)] w fun e w' => e = .returned (.tuple #[.int .i64 ((i : Int) + 1), .int .i64 0]) ∧
      St w0 gp (all.setIfInBounds i (.pointer (some ⟨w.heap.size, 0, none⟩))) i w.heap.size 1 1 (.slice none 0 0) [] w' ∧ Kept gp (.slice none 0 0) w w' := by
  refine (make_any gp i all w hb hi hp hj).mono ?_
  rintro e w' ⟨rfl, h1, h2, h3⟩
  exact ⟨rfl, ⟨h1, hi, by simp [hs, hi], hg, hx.size, h3.ext hx hg (fun k hk => by simp [Value.ownBlock] at hk), h2, World.ownsRow_nil _ _ _ _, Nat.zero_le _⟩, h3⟩
end Go.Proofs.Ytoicpnpahjmegaa
