/- The run of processors, weakly: its calls end, and its block and its row stay of their shape. One processor; all tasks are of fair shares. -/
import Derived.Test.YthmojneobkaolaaGreatDoorTpProc
import Derived.Test.YthmojneobkaolaaGreatDoorFlat
namespace Go.Proofs.YthmojneobkaolaaGreatDoor
open Go.RowKit
set_option linter.unusedVariables false

/-- What a field of a task may have. -/
def kindT (f : Nat) (u : Value) : Prop := if f = 1 then u = .int .i64 1 else if f = 3 then u = .int .i64 0 else if f = 13 then u = .bool false else if f = 12 then ∃ b : Bool, u = .bool b else ∃ z : Int, u = .int .i64 z
def KindT (xs : List Value) (n : Nat) : Prop := xs.length = n * 15 ∧ ∀ i f, i < n → f < 15 → ∃ u, xs[i * 15 + f]? = some u ∧ kindT f u
theorem KindT.set {xs : List Value} {n : Nat} (h : KindT xs n) (i f : Nat) (hi : i < n) (hf : f < 15) (u : Value) (hu : kindT f u) : KindT (xs.set (i * 15 + f) u) n := by
  refine ⟨by rw [List.length_set]; exact h.1, fun j k hj hk => ?_⟩
  by_cases e : i * 15 + f = j * 15 + k
  · obtain ⟨v, hv, _⟩ := h.2 j k hj hk
    have hlt := (List.getElem?_eq_some_iff.1 hv).1
    obtain rfl : i = j := by omega
    obtain rfl : f = k := by omega
    exact ⟨u, by rw [List.getElem?_set_self hlt], hu⟩
  · rw [List.getElem?_set_ne e]
    exact h.2 j k hj hk
theorem KindT.snoc {xs : List Value} {n : Nat} (h : KindT xs n) (ys : List Value) (hy : ys.length = 15) (hk : ∀ f, f < 15 → ∃ u, ys[f]? = some u ∧ kindT f u) : KindT (xs ++ ys) (n + 1) := by
  refine ⟨by rw [List.length_append, h.1, hy]; omega, fun i f hi hf => ?_⟩
  by_cases e : i < n
  · obtain ⟨u, hu, hk⟩ := h.2 i f e hf
    exact ⟨u, by rw [List.getElem?_append_left (by rw [h.1]; omega)]; exact hu, hk⟩
  · obtain rfl : i = n := by omega
    obtain ⟨u, hu, hk⟩ := hk f hf
    exact ⟨u, by rw [List.getElem?_append_right (by rw [h.1]; omega), h.1, show i * 15 + f - i * 15 = f by omega]; exact hu, hk⟩
/-- The cells of one task. -/
def TaskK (w : World) (g o : Nat) : Prop := (∀ f, f < 15 → ∃ u, w.cell? ⟨g, o + f, none⟩ = some u ∧ kindT f u) ∧ ∀ f, w.frozen? ⟨g, o + f, none⟩ = false
/-- The run: its block, and its row. -/
structure RunM (b : Nat) (w : World) (hr g n cp : Nat) (tick stamp : Int) (xs : List Value) : Prop where
  box : Blk w hr 114 #[.int .i64 1, .int .i64 tick, .int .i64 stamp, .slice (some ⟨g, 0, none⟩) n cp]
  ge : b ≤ hr
  row : w.ownsRow b 118 15 (.slice (some ⟨g, 0, none⟩) n cp) n xs
  kind : KindT xs n
theorem RunM.task {b : Nat} {w : World} {hr g n cp : Nat} {tick stamp : Int} {xs : List Value} (h : RunM b w hr g n cp tick stamp xs) (i : Nat) (hi : i < n) : TaskK w g (i * 15) := by
  refine ⟨fun f hf => ?_, fun f => ?_⟩
  · obtain ⟨u, hu, hk⟩ := h.kind.2 i f hi hf
    exact ⟨u, (own_cell h.row _ hu).1, hk⟩
  · obtain ⟨u, hu, hk⟩ := h.kind.2 i 0 hi (by omega)
    have h1 := (own_cell h.row _ hu).2
    unfold World.frozen? at h1 ⊢
    rcases h.row.2 with ⟨hv, _⟩ | ⟨g', cap, cur, hv, _, hh, _⟩
    · cases hv
    · injection hv with hv _ _
      injection hv with hv
      injection hv with hv
      subst hv
      simp [hh]
theorem RunM.ext {b : Nat} {w w' : World} {hr g n cp : Nat} {tick stamp : Int} {xs : List Value} (h : RunM b w hr g n cp tick stamp xs) (hx : Ext w w') : RunM b w' hr g n cp tick stamp xs := ⟨h.box.ext hx, h.ge, hx.own h.row, h.kind⟩
theorem TaskK.ext {w w' : World} {g o : Nat} (h : TaskK w g o) (hx : Ext w w') : TaskK w' g o := ⟨fun f hf => by
  obtain ⟨u, hu, hk⟩ := h.1 f hf
  exact ⟨u, hx.cell hu, hk⟩, fun f => by
  obtain ⟨u, hu, hk⟩ := h.1 0 (by omega)
  have hlt := World.block_lt_of_cell? w _ hu
  have hb := hx.block g hlt
  have := h.2 f
  unfold World.frozen? at this ⊢
  simp only [hb]
  exact this⟩
theorem TaskK.int {w : World} {g o : Nat} (h : TaskK w g o) (f : Nat) (hf : f < 12 ∨ f = 14) : ∃ z : Int, w.cell? ⟨g, o + f, none⟩ = some (.int .i64 z) ∧ (f = 1 → z = 1) ∧ (f = 3 → z = 0) := by
  obtain ⟨u, hu, hk⟩ := h.1 f (by omega)
  unfold kindT at hk
  split at hk
  · exact ⟨1, by rw [hu, hk], fun _ => rfl, fun e => by omega⟩
  split at hk
  · exact ⟨0, by rw [hu, hk], fun e => by omega, fun _ => rfl⟩
  rw [if_neg (by omega), if_neg (by omega)] at hk
  obtain ⟨z, rfl⟩ := hk
  exact ⟨z, hu, fun e => by omega, fun e => by omega⟩
theorem TaskK.ready {w : World} {g o : Nat} (h : TaskK w g o) : ∃ r : Bool, w.cell? ⟨g, o + 12, none⟩ = some (.bool r) := by
  obtain ⟨u, hu, hk⟩ := h.1 12 (by omega)
  obtain ⟨r, rfl⟩ := hk
  exact ⟨r, hu⟩
theorem TaskK.out {w : World} {g o : Nat} (h : TaskK w g o) : w.cell? ⟨g, o + 13, none⟩ = some (.bool false) := by
  obtain ⟨u, hu, hk⟩ := h.1 13 (by omega)
  rw [hu]
  exact congrArg some hk
/-- A pointer to a task, or none. -/
def PtrT (g n : Nat) (v : Value) : Prop := v = .pointer none ∨ ∃ i, i < n ∧ v = .pointer (some ⟨g, i * 15, none⟩)
def FindRel (n : Nat) (v : Value) (w0 wr : World) : Prop := ∃ i : Nat, v = .int .i64 (i : Int) ∧ i ≤ n ∧ w0 = wr
set_option maxHeartbeats 8000000 in
set_option maxRecDepth 100000 in
theorem find_any {b : Nat} {w : World} {hr g n cp : Nat} {tick stamp : Int} {xs : List Value} (h : RunM b w hr g n cp tick stamp xs) (hn : n ≤ 100) (t : Int) :
    Calls Tryz.prog 77 #[.pointer (some ⟨hr, 0, none⟩), .int .i64 t] w fun e w' => (∃ v, e = .returned v ∧ PtrT g n v) ∧ w = w' := by
  have H := hide h
  have c3 : w.cell? ⟨hr, 3, none⟩ = some (.slice (some ⟨g, 0, none⟩) n cp) := h.box.cell 3
  clear h
  go_enter Tryz.func77, Tryz.ntmps77
  go_upto_region 2 with fail
  go_loopw [11] (FindRel n · w) (fun v _ => n - (intOf v).toNat)
  case atStart => exact ⟨0, rfl, Nat.zero_le _, rfl⟩
  case round =>
    obtain ⟨i, rfl, hi, rfl⟩ := hrel
    by_cases hlt : i < n
    · have hlt' : (i : Int) < (n : Int) := by omega
      obtain ⟨z, k0, -, -⟩ := (H.out.task i hlt).int 0 (by omega)
      have hgo : i * 15 + 0 = i * 15 := rfl
      rw [hgo] at k0
      by_cases hz : z = t
      · subst hz
        go_wp2_with fail
        go_ret
        exact ⟨⟨_, rfl, .inr ⟨i, hlt, rfl⟩⟩, rfl⟩
      · have t1 : (z == t) = false := beq_eq_false_iff_ne.2 hz
        go_wp2_with fail
        go_roundw
        case rel => exact ⟨i + 1, by first | rfl | go_num, by omega, rfl⟩
        case measure => simp [intOf]; omega
    · obtain rfl : i = n := by omega
      go_wp2_with fail
      go_ret
      exact ⟨⟨_, rfl, .inl rfl⟩, rfl⟩
end Go.Proofs.YthmojneobkaolaaGreatDoor
