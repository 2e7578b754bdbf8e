/- The memory of all spaces: a map of empty maps. New, Make, Fork. -/
import Derived.Test.YthmojneobkaolaaGreatDoorTpWheel4
import Derived.Maps.Own
import Derived.Maps.OwnOps
import Derived.Maps.OwnSet
import Derived.Maps.Views
import Derived.Maps.RangeRun
namespace Go.Proofs.YthmojneobkaolaaGreatDoor
open Go.RowKit Go.Maps
set_option linter.unusedVariables false

/-- How an element that is a map reads: by its block's number. -/
def mapElem (v : Value) : Option (DataW Unit × List MemPlace) := match v with
  | .map none => some (.nil, [])
  | .map (some g) => some (.lit (.int .i64 (g : Int)), [])
  | _ => none
theorem mapElem_inv {v : Value} {d : DataW Unit} {ps : List MemPlace} (h : mapElem v = some (d, ps)) : (v = .map none ∧ d = .nil) ∨ ∃ g : Nat, v = .map (some g) ∧ d = .lit (.int .i64 (g : Int)) := by
  unfold mapElem at h
  split at h
  · injection h with h; injection h with h _; exact .inl ⟨rfl, h.symm⟩
  · injection h with h; injection h with h _; exact .inr ⟨_, rfl, h.symm⟩
  · cases h
theorem wfK (o : Nat) (ho : o ≤ 1000000) : (Lit.int .i64 (o : Int)).wf = true := by
  simp [Lit.wf, IntKind.min, IntKind.max, IntKind.signed, IntKind.bits]
  omega
def gD : Option Nat → DataW Unit
  | none => .nil
  | some g => .lit (.int .i64 (g : Int))
theorem gD_inj {a b : Option Nat} (h : gD a = gD b) : a = b := by
  cases a with
  | none => cases b with
    | none => rfl
    | some y => cases h
  | some x => cases b with
    | none => cases h
    | some y =>
      have h1 : Lit.int .i64 (x : Int) = Lit.int .i64 (y : Int) := by injection h
      have h2 : (x : Int) = (y : Int) := by injection h1
      exact congrArg some (by omega)
set_option maxRecDepth 100000 in
theorem eql_none (a : Option Nat) (w : World) : (binOp .eql 190 (.map a) (.map none)).run Tryz.prog w = .ok (.bool a.isNone) w := by
  cases a <;> rfl
/-- Block b is a map of maps; f says which blocks its elements are. -/
def MapM (w : World) (b n : Nat) (f : Nat → Option Nat) : Prop :=
  ∃ D : DataW Unit, w.ownsMap Tryz.prog 3 mapElem b n D ∧ ∀ o : Nat, D.atKey (.int .i64 (o : Int)) .nil = gD (f o)
theorem MapM.made (w : World) : MapM (w.alloc (.map #[] 0)) w.heap.size 0 (fun _ => none) := ⟨.map [], World.ownsMap_made w _ _ _, fun _ => rfl⟩
section
variable {w w' : World} {b n : Nat} {f : Nat → Option Nat}
theorem MapM.lt (h : MapM w b n f) : b < w.heap.size := by obtain ⟨D, h, _⟩ := h; exact h.lt
theorem MapM.kept {row : Option Nat} (h : MapM w b n f) (hg : w.grownBy w' row) (hne : some b ≠ row) : MapM w' b n f := by
  obtain ⟨D, h, hf⟩ := h
  exact ⟨D, h.kept hg hne, hf⟩
theorem MapM.ext (h : MapM w b n f) (hx : Ext w w') : MapM w' b n f := h.kept (row := none) ⟨hx.os, hx.tape, hx.output, hx.size, fun k hk _ => hx.block k hk⟩ (by simp)
theorem MapM.keep {b' : Nat} {L : List TypeId} {G M : List Nat} (h : MapM w b n f) (hk : KeepL b' L G M w w') (hb : b ∉ M) : MapM w' b n f := by
  obtain ⟨D, ⟨es, cl, hh, F, hs, hD⟩, hf⟩ := h
  exact ⟨D, ⟨es, cl, (hk.rest b _ hh (fun _ _ _ e => by cases e) hb).trans hh, F, hs, hD⟩, hf⟩
theorem MapM.look (h : MapM w b n f) (o : Nat) (ho : o ≤ 1000000) : (Instr.lookup 186 (.map (some b)) (.int .i64 (o : Int)) false).run Tryz.prog w = .ok (.map (f o)) w := by
  obtain ⟨D, h, hf⟩ := h
  obtain ⟨v, ps, hrun, hv⟩ := h.lookup (int_keyed Tryz.underlying3) Tryz.underlying186 (z := .map none) (zd := .nil) (zp := []) (by kernel_rfl) rfl (keyOf_int_mk Tryz.underlying3 (wfK o ho))
  rw [hf o] at hv
  rcases mapElem_inv hv with ⟨rfl, he⟩ | ⟨g, rfl, he⟩
  · rw [show f o = none from gD_inj he]
    exact hrun
  · rw [show f o = some g from gD_inj (he.trans rfl)]
    exact hrun
set_option maxRecDepth 100000 in
theorem MapM.store (h : MapM w b n f) (hn : n < maxLen) (o : Nat) (ho : o ≤ 1000000) (g : Nat) :
    ∃ w', (Instr.mapUpdate 186 (.map (some b)) (.int .i64 (o : Int)) (.map (some g))).run Tryz.prog w = .ok () w' ∧ MapM w' b (n + 1) (updN f o (some g)) ∧ w.grownBy w' (some b) := by
  obtain ⟨D, h, hf⟩ := h
  obtain ⟨w', hrun, h5, h6⟩ := h.update (val := .map (some g)) (d := .lit (.int .i64 (g : Int))) (ps := []) (int_keyed Tryz.underlying3) Tryz.underlying186 hn (keyOf_int_mk Tryz.underlying3 (wfK o ho)) rfl
  refine ⟨w', hrun, ⟨_, h5, fun x => ?_⟩, h6⟩
  by_cases hx : x = o
  · subst hx
    rw [atKey_put_same h.isMap (by trivial), updN_same]
    rfl
  · have hne : Lit.int .i64 (x : Int) ≠ Lit.int .i64 (o : Int) := fun e => hx (by injection e with _ e; omega)
    rw [atKey_put_other hne, updN_other _ _ _ _ hx]
    exact hf x
end
/-- The memory: k spaces, all of them empty. -/
structure SpaceM (b : Nat) (w : World) (hm bm k : Nat) (f : Nat → Option Nat) : Prop where
  box : Blk w hm 189 #[.int .i64 64, .int .i64 64, .int .i64 0, .slice none 0 0, .map (some bm)]
  ge : b ≤ hm
  gem : b ≤ bm
  map : MapM w bm k f
  inner : ∀ o g, f o = some g → w.heap[g]? = some (.map #[] 0) ∧ g ≠ bm
  full : ∀ o, (f o).isSome = true ↔ 1 ≤ o ∧ o ≤ k
def SpaceAt (b : Nat) (w : World) (hm bm k : Nat) : Prop := ∃ f, SpaceM b w hm bm k f
theorem SpaceAt.ext {b : Nat} {w w' : World} {hm bm k : Nat} (h : SpaceAt b w hm bm k) (hx : Ext w w') : SpaceAt b w' hm bm k := by
  obtain ⟨f, h⟩ := h
  exact ⟨f, h.box.ext hx, h.ge, h.gem, h.map.ext hx, fun o g hg => ⟨(hx.block g (lt_of_some (h.inner o g hg).1)).trans (h.inner o g hg).1, (h.inner o g hg).2⟩, h.full⟩
theorem SpaceAt.keep {b b' : Nat} {L : List TypeId} {G : List Nat} {w w' : World} {hm bm k : Nat} (h : SpaceAt b w hm bm k) (hk : KeepL b' L G [] w w') (hL : 189 ∉ L) (hG : hm ∉ G) : SpaceAt b w' hm bm k := by
  obtain ⟨f, h⟩ := h
  exact ⟨f, hk.blk h.box hL hG, h.ge, h.gem, h.map.keep hk (by simp), fun o g hg => ⟨(hk.rest g _ (h.inner o g hg).1 (fun _ _ _ e => by cases e) (by simp)).trans (h.inner o g hg).1, (h.inner o g hg).2⟩, h.full⟩
theorem run_mk (t : TypeId) (w : World) : (Instr.makeMap t none).run Tryz.prog w = .ok (.map (some w.heap.size)) (w.alloc (.map #[] 0)) := rfl
theorem spacenew_ok (w : World) : Calls Tryz.prog 33 #[.int .i64 64, .int .i64 64] w fun e w' => ∃ hm bm, e = .returned (.tuple #[.pointer (some ⟨hm, 0, none⟩), .int .i64 0]) ∧ w.heap.size ≤ hm ∧ w.heap.size ≤ bm ∧ (∀ b, b ≤ w.heap.size → SpaceAt b w' hm bm 0) ∧ Ext w w' := by
  go_enter Tryz.func33, Tryz.ntmps33
  have hmk := run_mk 186 w
  go_wp2_with fail
  go_ret2
  have hs : (w.alloc (.map #[] 0)).heap.size = w.heap.size + 1 := by simp
  refine ⟨_, w.heap.size, rfl, by omega, Nat.le_refl _, fun b hb => ⟨fun _ => none, ?_, by omega, hb, (MapM.made w).ext ((Ext.refl _).alloc _), (fun o g hg => by cases hg), (fun o => ⟨fun h => (by cases h), fun h => absurd h (by omega)⟩)⟩, ((Ext.refl w).alloc _).alloc _⟩
  have := Blk.new (w.alloc (.map #[] 0)) 189 #[.int .i64 64, .int .i64 64, .int .i64 0, .slice none 0 0, .map (some w.heap.size)]
  rw [hs] at this
  exact this
def MkRel (k : Nat) (v : Value) (w0 wr : World) : Prop := ∃ s : Nat, v = .int .i64 (s : Int) ∧ 1 ≤ s ∧ s ≤ k + 1 ∧ w0 = wr
set_option maxHeartbeats 8000000 in
set_option maxRecDepth 100000 in
theorem spacemake_ok {b : Nat} {w : World} {hm bm k : Nat} (h : SpaceAt b w hm bm k) (hk : k < 16) :
    Calls Tryz.prog 34 #[.pointer (some ⟨hm, 0, none⟩)] w fun e w' => e = .returned (.tuple #[.int .i64 ((k : Int) + 1), .int .i64 0]) ∧ SpaceAt b w' hm bm (k + 1) ∧ KeepL b [] [] [bm] w w' := by
  obtain ⟨f, h⟩ := h
  have H := hide h
  have c4 : w.cell? ⟨hm, 4, none⟩ = some (.map (some bm)) := h.box.cell 4
  clear h
  go_enter Tryz.func34, Tryz.ntmps34
  go_upto_region 2 with fail
  go_loopw [4] (MkRel k · w) (fun v _ => k + 1 - (intOf v).toNat)
  case atStart => exact ⟨1, rfl, by omega, by omega, rfl⟩
  case round =>
    obtain ⟨s, rfl, hs1, hs2, rfl⟩ := hrel
    have t1 : decide ((s : Int) ≤ 16) = true := decide_eq_true (by omega)
    have hlk := H.out.map.look s (by omega)
    by_cases hlt : s ≤ k
    · obtain ⟨g, hg⟩ := Option.isSome_iff_exists.1 ((H.out.full s).2 ⟨hs1, hlt⟩)
      rw [hg] at hlk
      have hq := eql_none (some g) w
      simp only [Option.isNone_some] at hq
      go_wp2_with fail
      go_roundw
      case rel => exact ⟨s + 1, by first | rfl | go_num, by omega, by omega, rfl⟩
      case measure => simp [intOf]; omega
    · obtain rfl : s = k + 1 := by omega
      have hno : f (k + 1) = none := by
        cases hf : f (k + 1) with
        | none => rfl
        | some g => have := (H.out.full (k + 1)).1 (by rw [hf]; rfl); omega
      rw [hno, show ((k + 1 : Nat) : Int) = (k : Int) + 1 by omega] at hlk
      have t2 : decide ((k : Int) + 1 ≤ 16) = true := decide_eq_true (by omega)
      have hmk := run_mk 190 w
      have hq := eql_none none w
      simp only [Option.isNone_none] at hq
      have hx0 : Ext w (w.alloc (.map #[] 0)) := (Ext.refl w).alloc _
      obtain ⟨w2, hst, hm2, hg2⟩ := (H.out.map.ext hx0).store (by simp only [maxLen]; omega) (k + 1) (by omega) w.heap.size
      rw [show ((k + 1 : Nat) : Int) = (k : Int) + 1 by omega] at hst
      have hbl := H.out.map.lt
      have hin : w2.heap[w.heap.size]? = some (.map #[] 0) := (hg2.block _ (by simp) (fun e => by injection e with e; omega)).trans (heap_alloc_new w _)
      have HS := hide (show SpaceAt b w2 hm bm (k + 1) from by
        refine ⟨_, (H.out.box.ext hx0).grown hg2 (fun e => ?_), H.out.ge, H.out.gem, hm2, fun o g hg => ?_, fun o => ?_⟩
        · injection e with e
          have h1 := H.out.box
          obtain ⟨D, ⟨es, cl, hh, -⟩, -⟩ := H.out.map
          unfold Blk at h1
          rw [e, hh] at h1
          cases h1
        · by_cases ho : o = k + 1
          · subst ho
            rw [updN_same] at hg
            injection hg with hg
            subst hg
            exact ⟨hin, by omega⟩
          · rw [updN_other _ _ _ _ ho] at hg
            obtain ⟨h1, h2⟩ := H.out.inner o g hg
            exact ⟨(hg2.block g (Nat.lt_of_lt_of_le (lt_of_some h1) hx0.size) (fun e => by injection e with e; exact h2 e)).trans ((hx0.block g (lt_of_some h1)).trans h1), h2⟩
        · by_cases ho : o = k + 1
          · subst ho
            rw [updN_same]
            simp
          · rw [updN_other _ _ _ _ ho, H.out.full o]
            omega)
      have HK := hide (show KeepL b [] [] [bm] w w2 from (KeepL.of hx0 _ _ _ _).trans ⟨hg2.os, hg2.tape, hg2.output, hg2.size, fun i hi hs => hg2.block i hs (fun e => by injection e with e; have := H.out.gem; omega), fun i cs t fz hc _ _ => hg2.block i (lt_of_some hc) (fun e => by
        injection e with e
        subst e
        obtain ⟨D, ⟨es, cl, hh, -⟩, -⟩ := H.out.map.ext hx0
        rw [hh] at hc
        cases hc), fun i o hc hn hi => hg2.block i (lt_of_some hc) (fun e => by injection e with e; exact hi (by simp [e]))⟩)
      go_wp2_with fail
      go_ret2
      exact ⟨rfl, HS.out, HK.out⟩
def SfRel (v : Value) (w0 wr : World) : Prop := w0 = wr
set_option maxHeartbeats 8000000 in
set_option maxRecDepth 100000 in
theorem spacefork_ok {b : Nat} {w : World} {hm bm k : Nat} (h : SpaceAt b w hm bm k) (hk : k < 16) (s : Nat) (h1 : 1 ≤ s) (h2 : s ≤ k) :
    Calls Tryz.prog 184 #[.pointer (some ⟨hm, 0, none⟩), .int .i64 (s : Int)] w fun e w' => e = .returned (.tuple #[.int .i64 ((k : Int) + 1), .int .i64 0]) ∧ SpaceAt b w' hm bm (k + 1) ∧ KeepL b [] [] [bm] w w' := by
  have HMK := hide (spacemake_ok h hk)
  obtain ⟨f, h⟩ := h
  have c4 : w.cell? ⟨hm, 4, none⟩ = some (.map (some bm)) := h.box.cell 4
  have hlk := h.map.look s (by omega)
  obtain ⟨g, hg⟩ := Option.isSome_iff_exists.1 ((h.full s).2 ⟨h1, h2⟩)
  have hq := eql_none (some g) w
  simp only [Option.isNone_some] at hq
  rw [hg] at hlk
  clear h
  go_enter Tryz.func184, Tryz.ntmps184
  go_wp2_with fail
  refine HMK.out.mono ?_
  rintro e w1 ⟨rfl, hs1, hk1⟩
  have HS1 := hide hs1
  have HK1 := hide hk1
  obtain ⟨f1, h⟩ := hs1
  have c4b : w1.cell? ⟨hm, 4, none⟩ = some (.map (some bm)) := h.box.cell 4
  have hlk1 := h.map.look s (by omega)
  obtain ⟨g1, hg1⟩ := Option.isSome_iff_exists.1 ((h.full s).2 ⟨h1, by omega⟩)
  rw [hg1] at hlk1
  obtain ⟨hin, -⟩ := h.inner s g1 hg1
  have hrg : (Instr.range 190 (.map (some g1))).run Tryz.prog w1 = .ok (.pointer (some ⟨w1.heap.size, 0, none⟩)) (w1.alloc (.mapIter (some g1) 0 #[] 0)) := by
    have hu : (underlying 190).run Tryz.prog w1 = .ok _ w1 := run_underlying Tryz.underlying190 w1
    simp only [Instr.range, Sem.run_bind, hu, getObj, Sem.run, hin, Result.andThen]
    rfl
  have hin2 : (w1.alloc (.mapIter (some g1) 0 #[] 0)).heap[g1]? = some (.map #[] 0) := (((Ext.refl w1).alloc _).block g1 (lt_of_some hin)).trans hin
  have hnx : ∀ ty, (Instr.next (.pointer (some ⟨w1.heap.size, 0, none⟩)) false ty).run Tryz.prog (w1.alloc (.mapIter (some g1) 0 #[] 0)) = .ok (.tuple #[.bool false]) (w1.alloc (.mapIter (some g1) 0 #[] 0)) := fun ty => by
    rcases run_next_at (P := Tryz.prog) (w1.alloc (.mapIter (some g1) 0 #[] 0)) ty w1.heap.size g1 0 0 #[] #[] 0 (heap_alloc_new w1 _) hin2 (by simp) (Nat.le_refl _) with ⟨_, h⟩ | ⟨e, he, -⟩
    · exact h
    · simp [leftOf] at he
  have HS2 := hide (HS1.out.ext ((Ext.refl w1).alloc (.mapIter (some g1) 0 #[] 0)))
  have HK2 := hide (HK1.out.trans (KeepL.of ((Ext.refl w1).alloc (.mapIter (some g1) 0 #[] 0)) _ _ _ _))
  clear h hk1 hlk hq hg
  go_upto_region 6 with fail
  go_upto_region 7 with fail
  generalize w1.alloc _ = W at *
  generalize w1.heap.size = it at *
  clear hrg hlk1 c4b hin hin2
  go_loopw [9] (SfRel · W) (fun _ _ => 0)
  case atStart => exact rfl
  case round =>
    obtain rfl := hrel
    go_wp2_with fail
    go_ret2
    exact ⟨rfl, HS2.out, HK2.out⟩
end Go.Proofs.YthmojneobkaolaaGreatDoor
