/- Contracts of the small functions of pipe. -/
import Derived.Test.YtoicpnpahjmegaaRows
import Derived.Test.YtoicpnpahjmegaaMem
import Derived.WalkKit
import Derived.WalkSpells
import Derived.ProofKit
import Derived.OpenShut
import Derived.Deep.QuietTactic
import Derived.BigQuiet
import Derived.Deep.RegionHeld3
import Derived.Deep.DeepCutAuto
namespace Go.Proofs.Ytoicpnpahjmegaa
open Go.RowKit
set_option linter.unusedVariables false

theorem u8_info : (Try.prog.info? 5).map (fun i => (i.zero, i.size, i.bytes)) = some (some (.int .u8 0), 1, 1) := by kernel_rfl

/-- Only block g, the row of the slice v, and new blocks may be other ones. -/
structure Kept (g : Nat) (v : Value) (w w' : World) : Prop where
  os : w'.os = w.os
  tape : w'.tape = w.tape
  output : w'.output = w.output
  size : w.heap.size ≤ w'.heap.size
  block : ∀ k, k < w.heap.size → k ≠ g → some k ≠ v.ownBlock → w'.heap[k]? = w.heap[k]?
section
variable {g : Nat} {v : Value} {w w' : World}
theorem Kept.blk (h : Kept g v w w') {k : Nat} {t : TypeId} {cs : Array Value} (hb : Blk w k t cs) (hk : k ≠ g) (hv : some k ≠ v.ownBlock) : Blk w' k t cs := (h.block k hb.lt hk hv).trans hb
theorem Kept.ext {a : World} (h : Kept g v w w') (hx : Ext a w) (hg : a.heap.size ≤ g) (hv : ∀ k, v.ownBlock = some k → a.heap.size ≤ k) : Ext a w' :=
  hx.trans' ⟨h.os, h.tape, h.output, h.size, fun k hk => h.block k (Nat.lt_of_lt_of_le hk hx.size) (by omega) (fun e => by have := hv k e.symm; omega)⟩
end
theorem own_of_keep {w w' : World} {base size n : Nat} {e : TypeId} {v : Value} {xs : List Value} (ho : w.ownsRow base e size v n xs) (h : ∀ k, v.ownBlock = some k → w'.heap[k]? = w.heap[k]?) : w'.ownsRow base e size v n xs := by
  obtain ⟨h1, h2⟩ := ho
  refine ⟨h1, ?_⟩
  rcases h2 with h2 | ⟨g, cap, cur, hv, hg, hh, r⟩
  · exact .inl h2
  · exact .inr ⟨g, cap, cur, hv, hg, (h g (by rw [hv]; rfl)).trans hh, r⟩

theorem new_any (w : World) : Calls Try.prog 8 #[] w fun e w' => e = .returned (.pointer (some ⟨w.heap.size, 0, none⟩)) ∧
    w.alloc (.cells #[.pointer none, .pointer none, .pointer none, .pointer none, .pointer none, .pointer none, .pointer none, .pointer none, .pointer none, .pointer none, .pointer none, .pointer none, .pointer none, .pointer none, .pointer none, .pointer none] 51) = w' := by
  go_enter Try.func8, Try.ntmps8
  go_wp2
  go_ret
  exact ⟨rfl, rfl⟩

theorem find_any (gp i : Nat) (p : Value) (all : Array Value) (w : World) (hb : Blk w gp 51 all) (hi : i < 16) (hp : all[i]? = some p) :
    Calls Try.prog 24 #[.pointer (some ⟨gp, 0, none⟩), .int .i64 ((i : Int) + 1)] w fun e w' => e = .returned p ∧ w = w' := by
  have hc : w.cell? ⟨gp, i, none⟩ = some p := (hb.cell i).trans hp
  clear hp hb
  go_enter Try.func24, Try.ntmps24
  go_wp2
  go_ret
  exact ⟨rfl, rfl⟩

theorem nil_equalIn {P : Program} {t e : TypeId} (h : P.underlying t = some (.pointer e)) (w : World) (a : Addr) (d : Nat) : (Op.equalIn (d + 1) t (.pointer none) (.pointer (some a))).run P w = .ok false w := by
  simp [Op.equalIn, run_underlying h]
theorem nil_equal {P : Program} {t e : TypeId} (h : P.underlying t = some (.pointer e)) (w : World) (a : Addr) : (Op.equal t (.pointer none) (.pointer (some a))).run P w = .ok false w := nil_equalIn h w a 9999
theorem nil_eql {P : Program} {t e : TypeId} (h : P.underlying t = some (.pointer e)) (w : World) (a : Addr) : (binOp .eql t (.pointer none) (.pointer (some a))).run P w = .ok (.bool false) w := by
  simp only [binOp]
  simp [nil_equal h w a]

theorem index_any (gp i : Nat) (all : Array Value) (w : World) (hb : Blk w gp 51 all) (hi : i < 16) (hp : all[i]? = some (.pointer none)) (hj : ∀ j, j < i → ∃ a, all[j]? = some (.pointer (some a))) :
    Calls Try.prog 21 #[.slice (some ⟨gp, 0, none⟩) 16 16, .pointer none] w fun e w' => e = .returned (.int .i64 i) ∧ w = w' := by
  have HB := hide hb
  have HP := hide hp
  have HJ := hide hj
  clear hb hp hj
  go_enter Try.func21, Try.ntmps21
  go_wp2
  go_loop [8] (fun n => ∃ k : Nat, k ≤ i ∧ n = .int .i64 k) (fun n => 16 - (intOf n).toNat)
  case atStart => exact ⟨0, Nat.zero_le _, rfl⟩
  case round =>
    obtain ⟨k, hk, rfl⟩ := hrel
    by_cases hlt : k < i
    · obtain ⟨a, ha⟩ := HJ.out k hlt
      have hc : w.cell? ⟨gp, k, none⟩ = some (.pointer (some a)) := (HB.out.cell k).trans ha
      clear ha
      have he := fun W => nil_eql Try.underlying48 W a
      go_wp2
      go_round
      case rel => exact ⟨k + 1, by omega, by go_num⟩
      case measure => simp [intOf]; omega
    · obtain rfl : k = i := by omega
      have hc : w.cell? ⟨gp, k, none⟩ = some (.pointer none) := (HB.out.cell k).trans HP.out
      go_wp2
      go_ret
      exact ⟨rfl, rfl⟩

theorem make_any (gp i : Nat) (all : Array Value) (w : World) (hb : Blk w gp 51 all) (hi : i < 16) (hp : all[i]? = some (.pointer none)) (hj : ∀ j, j < i → ∃ a, all[j]? = some (.pointer (some a))) :
    Calls Try.prog 9 #[.pointer (some ⟨gp, 0, none⟩)] w fun e w' => e = .returned (.tuple #[.int .i64 ((i : Int) + 1), .int .i64 0]) ∧
      Blk w' gp 51 (all.setIfInBounds i (.pointer (some ⟨w.heap.size, 0, none⟩))) ∧ Blk w' w.heap.size 56 #[.int .i64 1, .int .i64 1, .slice none 0 0] ∧ Kept gp (.slice none 0 0) w w' := by
  have HI := hide (index_any gp i all w hb hi hp hj)
  have HB := hide hb
  have hlt := hb.lt
  have HP := hide hp
  clear hb hp hj
  go_enter Try.func9, Try.ntmps9
  go_wp2_with fail
  refine HI.out.mono ?_
  rintro e w' ⟨rfl, rfl⟩
  have hx : Ext w (w.alloc (.cells #[.int .i64 1, .int .i64 1, .slice none 0 0] 56)) := by ((repeat (first | with_reducible exact Ext.refl _ | with_reducible assumption | with_reducible refine Ext.alloc ?_ _ | with_reducible refine Ext.drew ?_ | with_reducible refine Ext.drewN ?_ _ | with_reducible refine Ext.setCell ?_ (by first | exact Nat.le_refl _ | assumption | (simp; done) | omega) _ | with_reducible refine Ext.trans ?_ (by with_reducible assumption))); done)
  have c0 : (w.alloc (.cells #[.int .i64 1, .int .i64 1, .slice none 0 0] 56)).cell? ⟨gp, i, none⟩ = some (.pointer none) := hx.cell ((HB.out.cell i).trans HP.out)
  have f0 : (w.alloc (.cells #[.int .i64 1, .int .i64 1, .slice none 0 0] 56)).frozen? ⟨gp, i, none⟩ = false := (HB.out.alloc _).frozen i
  have h0 : (0 : Int) ≤ (i : Int) := by omega
  have h1 : (i : Int) < 16 := by omega
  go_wp2_with fail
  go_ret2
  refine ⟨rfl, (HB.out.set_ i _).alloc _, Blk.new' _ _ _ (by simp), ⟨rfl, rfl, rfl, by simp, fun k hk hne _ => ?_⟩⟩
  rw [Below.heap_alloc _ _ _ (by simpa using hk), Below.heap_setCell _ _ _ _ (by show k ≠ gp; exact hne)]

/-- A pipe as it lies: its ends, and its bytes. -/
abbrev OneAt (w : World) (g : Nat) (r s : Int) (v : Value) : Prop := Blk w g 56 #[.int .i64 r, .int .i64 s, v]

theorem end_ok (gp i g : Nat) (all : Array Value) (r s : Int) (v : Value) (en : Nat) (w : World) (hb : Blk w gp 51 all) (hi : i < 16) (hp : all[i]? = some (.pointer (some ⟨g, 0, none⟩))) (ho : OneAt w g r s v) (hen : en < 2) (hne : (if en = 0 then r else s) ≠ 0) :
    Calls Try.prog 22 #[.pointer (some ⟨gp, 0, none⟩), .int .i64 ((i : Int) + 1), .int .i64 en] w fun e w' => e = .returned (.tuple #[.pointer (some ⟨g, 0, none⟩), .int .i64 0]) ∧ w = w' := by
  have HF := hide (find_any gp i _ all w hb hi hp)
  have k0 : w.cell? ⟨g, 0, none⟩ = some (.int .i64 r) := ho.cell 0
  have k1 : w.cell? ⟨g, 1, none⟩ = some (.int .i64 s) := ho.cell 1
  clear hb hp ho
  have hcase : en = 0 ∨ en = 1 := by omega
  rcases hcase with rfl | rfl
  · have t : ((r : Int) == 0) = false := by simpa using hne
    clear hne hen
    go_enter Try.func22, Try.ntmps22
    go_wp2_with fail
    refine HF.out.mono ?_
    rintro e w' ⟨rfl, rfl⟩
    go_wp2_with fail
    go_ret2
    exact ⟨rfl, rfl⟩
  · have t : ((s : Int) == 0) = false := by simpa using hne
    clear hne hen
    go_enter Try.func22, Try.ntmps22
    go_wp2_with fail
    refine HF.out.mono ?_
    rintro e w' ⟨rfl, rfl⟩
    go_wp2_with fail
    go_ret2
    exact ⟨rfl, rfl⟩
theorem end_state (gp i g : Nat) (all : Array Value) (r s : Int) (v : Value) (en : Nat) (w : World) (hb : Blk w gp 51 all) (hi : i < 16) (hp : all[i]? = some (.pointer (some ⟨g, 0, none⟩))) (ho : OneAt w g r s v) (hen : en < 2) (hne : (if en = 0 then r else s) = 0) :
    Calls Try.prog 22 #[.pointer (some ⟨gp, 0, none⟩), .int .i64 ((i : Int) + 1), .int .i64 en] w fun e w' => e = .returned (.tuple #[.pointer none, .int .i64 8]) ∧ w = w' := by
  have HF := hide (find_any gp i _ all w hb hi hp)
  have k0 : w.cell? ⟨g, 0, none⟩ = some (.int .i64 r) := ho.cell 0
  have k1 : w.cell? ⟨g, 1, none⟩ = some (.int .i64 s) := ho.cell 1
  clear hb hp ho
  have hcase : en = 0 ∨ en = 1 := by omega
  rcases hcase with rfl | rfl
  · have t : ((r : Int) == 0) = true := by simpa using hne
    clear hne hen
    go_enter Try.func22, Try.ntmps22
    go_wp2_with fail
    refine HF.out.mono ?_
    rintro e w' ⟨rfl, rfl⟩
    go_wp2_with fail
    go_ret2
    exact ⟨rfl, rfl⟩
  · have t : ((s : Int) == 0) = true := by simpa using hne
    clear hne hen
    go_enter Try.func22, Try.ntmps22
    go_wp2_with fail
    refine HF.out.mono ?_
    rintro e w' ⟨rfl, rfl⟩
    go_wp2_with fail
    go_ret2
    exact ⟨rfl, rfl⟩
end Go.Proofs.Ytoicpnpahjmegaa
