/- The concatenation of all bytes read is a beginning of the bytes that Write accepted, and all of them once no writer is left: the law PipeFlows returns true for every input. No condition. -/
import Derived.Test.YtoicpnpahjmegaaPipeFlowsW
import Derived.Test.YtoicpnpahjmegaaOpenS
namespace Go.Proofs.Ytoicpnpahjmegaa
open Go.RowKit Go.ChangeShapes Go.WideShapes Go.Joins Go.Deep
section
variable {H : Type} {enc : TypeId × Value → H} {w : World} {base : Nat} {held : Bool}
theorem open_pieces {fuel : Nat} {v : Value} {x : DataW H × List MemPlace} (h : DataW.trod enc Try.prog w base (fun _ => true) held fuel 43 [v] = some x) :
    ∃ A n c, v = .slice A n c ∧ n ≤ c ∧ c ≤ maxLen ∧ (0 < n → ∃ b off, A = some ⟨b, off, none⟩ ∧ ∀ i, i < n → ∃ rd z D m c ds, PieceAt w b (off + i * 3) rd z D m c ds) := by
  rcases open_slice_fields Try.underlying43 Try.underlying45 (by kernel_rfl) (by kernel_rfl) h with rfl | ⟨a, len, cap, rfl, hl, hm, hi⟩
  · exact ⟨none, 0, 0, rfl, Nat.le_refl _, Nat.zero_le _, fun h => absurd h (by omega)⟩
  · refine ⟨some a, len, cap, rfl, hl, hm, fun hn => ?_⟩
    obtain ⟨b, off, spot⟩ := a
    have hs : spot = none := by
      obtain ⟨n, hf⟩ := hi 0 hn
      obtain ⟨u0, y0, c0, t0⟩ := hf 0 _ rfl
      simpa [Addr.add] using World.cell?_spot c0
    subst hs
    refine ⟨b, off, rfl, fun i hil => ?_⟩
    obtain ⟨n, hf⟩ := hi i hil
    obtain ⟨u0, y0, c0, t0⟩ := hf 0 _ rfl
    obtain ⟨u1, y1, c1, t1⟩ := hf 1 _ rfl
    obtain ⟨u2, y2, c2, t2⟩ := hf 2 _ rfl
    obtain ⟨rd, e0, -⟩ := DataW.trod_bool Try.underlying4 t0
    obtain ⟨z, rfl, wz⟩ := open_num Try.underlying3 t1
    obtain ⟨D, m, c, ds, rfl, hm, hc, hr, -⟩ := open_bytes Try.underlying22 Try.underlying5 (by kernel_rfl) t2
    simp at e0
    subst e0
    rw [add_lit] at c0 c1 c2
    exact ⟨rd, z, D, m, c, ds, ⟨c0, by rw [Nat.add_assoc]; exact c1, by rw [Nat.add_assoc]; exact c2, (bounds_i64 wz).1, (bounds_i64 wz).2, hm, hc, hr, by have := hr.1; rw [bytesV_length] at this; omega⟩⟩
end
end Go.Proofs.Ytoicpnpahjmegaa
namespace Go.Proofs.Ytoicpnpahjmegaa.pipeFlows
open Go.ChangeShapes Go.WideShapes Go.ChangeAt Go.RowKit Go.Joins
set_option linter.unusedVariables false

theorem own : ownKnob Try.prog.godebug = none := by kernel_rfl
theorem laidOut : laidOutB Try.prog = true := by kernel_rfl

set_option maxRecDepth 100000 in
theorem lifted (os : Os) (started : os.Started) (H : Type) (enc : TypeId × Value → H) :
    ReturnsInHanded {} Try.checked os 7 .any (Rows.pipeFlowsSpec.pre6 enc Try.prog Try.f7 Rows.pipeFlowsRow.domain false) (Rows.pipeFlowsSpec.post enc Try.prog Try.f7 false true false false) := by
  refine returnsInHanded_of_change (C := Try.checked) own started (by kernel_rfl) Try.func7
    (ChangeSpec.witness6 (enc := enc) (C := Try.checked) false ⟨#[], #[.slice none 0 0], []⟩ 8 (by kernel_rfl) (by kernel_rfl) (by kernel_rfl) (by kernel_rfl)) ?_
  intro W base args ds gs before hval0 hW hcnd _
  have hval : ∀ (j : Nat) t v, Try.f7.params[j]? = some t → args[j]? = some v → Value.okWide Try.prog W .any base t v := hval0
  have hW' := hW
  obtain ⟨p, q, hA0, hV, rfl, hfz, hnd⟩ := hW
  have hA : DataW.TrodAll enc Try.prog W 0 (fun _ => true) true Try.f7.params.toList args.toList ds p := hA0
  rw [Try.params7] at hA hval
  obtain ⟨v0, vs0, d0, ds0, p0, q0, hargs, rfl, rfl, h0, r0⟩ := trodAll_cons hA
  obtain ⟨rfl, rfl, rfl⟩ := trodAll_nil r0
  obtain rfl : args = #[v0] := by cases args; simp_all
  obtain ⟨rfl, rfl⟩ := trodVars_none hV
  have k0 := h0
  have lt0 : ∀ x ∈ p0, x.block < W.heap.size := by obtain ⟨m, hm⟩ := k0; exact DataW.trod_lt m _ _ _ hm
  obtain ⟨a0, len0, cap0, rfl⟩ := okWide_slice Try.underlying43 (hval 0 43 v0 rfl rfl)
  obtain ⟨fuel0, hf0⟩ := h0
  obtain ⟨A0, n0, c0, e0, hn0, hc0, hp0⟩ := open_pieces hf0
  rw [e0]
  clear hA0 hval0
  refine (flows_walk A0 n0 c0 W hn0 hc0 hp0).mono fun e W' ⟨he, hx⟩ => ?_
  subst he
  have bel := hx.below
  rw [← e0]
  exact ⟨_, rfl, _, _, _, [], _, [], hW', trodAll_mk1 (shut_bool Try.underlying4 _), (trodAll_cons_mk (Below.trod laidOut (by kernel_rfl) (of_decide_eq_true (by kernel_rfl)) k0 bel lt0) trodAll_mk0), rfl, bel.frame _, fun h => by cases h⟩

theorem over : Rows.pipeFlowsRow.holds Try.pinned (OpenSpec.ofChange Rows.pipeFlowsSpec) :=
  OpenClaim.holds_of_wide 7 Try.f7 rfl rfl rfl rfl rfl rfl rfl ⟨rfl, rfl, rfl, rfl, rfl⟩ rfl rfl rfl rfl rfl (by kernel_rfl) Try.func7 (by kernel_rfl)
    (of_decide_eq_true (by kernel_rfl)) (by unfold Func.isWrapper; first | (rw [if_pos (by decide +kernel)]; kernel_rfl) | (rw [if_neg (by decide +kernel)]; exact ⟨rfl, rfl⟩))
    (fun os started H enc _ => lifted os started H enc)

theorem proved : Rows.PipeFlowsSaid :=
  over
#print axioms proved
end Go.Proofs.Ytoicpnpahjmegaa.pipeFlows
