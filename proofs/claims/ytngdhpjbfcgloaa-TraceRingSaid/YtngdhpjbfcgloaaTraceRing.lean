/- A ring of locks that is told is one: the law TraceRing returns true for every input. No condition. -/
import Derived.Test.YtngdhpjbfcgloaaRingW
import Derived.Test.YtngdhpjbfcgloaaOpenS
namespace Go.Proofs.Ytngdhpjbfcgloaa.traceRing
open Go.ChangeShapes Go.WideShapes Go.ChangeAt Go.RowKit Go.Joins Go.Deep
set_option linter.unusedVariables false

section
variable {H : Type} {enc : TypeId × Value → H} {w : World} {base : Nat} {spare : Nat → Bool} {held : Bool}
theorem open_edges {fuel : Nat} {v : Value} {x : DataW H × List MemPlace} (h : DataW.trod enc Try.prog w base spare held fuel 22 [v] = some x) :
    ∃ A n c l, v = .slice A n c ∧ n ≤ c ∧ c ≤ maxLen ∧ (∀ e ∈ l, I64 e.1 ∧ I64 e.2) ∧ Reads w w.heap.size 2 A n (edgesIV l) := by
  rcases open_slice_fields Try.underlying22 Try.underlying24 (by kernel_rfl) (by kernel_rfl) h with rfl | ⟨a, len, cap, rfl, hl, hm, hi⟩
  · exact ⟨none, 0, 0, [], rfl, Nat.le_refl _, Nat.zero_le _, by simp, Reads.none_⟩
  · have each : ∀ i, i < len → ∃ r : EdgeI, (I64 r.1 ∧ I64 r.2) ∧ ∀ j (hj : j < 2), w.cell? (a.add (i * 2 + j)) = (edgeIC r)[j]? := by
      intro i hil
      obtain ⟨n, hf⟩ := hi i hil
      obtain ⟨u0, y0, c0, t0⟩ := hf 0 _ rfl
      obtain ⟨u1, y1, c1, t1⟩ := hf 1 _ rfl
      obtain ⟨k, rfl, wk⟩ := open_num Try.underlying3 t0
      obtain ⟨c, rfl, wc⟩ := open_num Try.underlying3 t1
      refine ⟨⟨k, c⟩, ⟨bounds_i64 wk, bounds_i64 wc⟩, fun j hj => ?_⟩
      match j, hj with
      | 0, _ => exact c0
      | 1, _ => exact c1
    obtain ⟨l, hll, hp⟩ := list_of each
    refine ⟨some a, len, cap, l, rfl, hl, hm, fun r hr => ?_, ⟨by rw [edgesIV, flat_length edgeIC_len, hll], fun hn => ⟨a, rfl, ?_, fun j u hu => ?_⟩⟩⟩
    · obtain ⟨i, hi', rfl⟩ := List.getElem_of_mem hr
      exact (hp i hi').1
    · have := (hp 0 (by omega)).2 0 (by omega)
      have h2 := World.block_lt_of_cell? w _ (this.trans (show (edgeIC l[0])[0]? = some (.int .i64 l[0].1) from rfl))
      rwa [add_block] at h2
    · have hj : j < l.length * 2 := by rw [← flat_length edgeIC_len]; exact (List.getElem?_eq_some_iff.1 hu).1
      have e : j = j / 2 * 2 + j % 2 := by omega
      rw [e] at hu ⊢
      rw [edgesIV, flat_get edgeIC_len l (j / 2) (j % 2) (by omega) (by omega)] at hu
      rw [(hp (j / 2) (by omega)).2 (j % 2) (by omega)]
      exact hu
end

theorem own : ownKnob Try.prog.godebug = none := by kernel_rfl
theorem laidOut : laidOutB Try.prog = true := by kernel_rfl

set_option maxRecDepth 100000 in
theorem lifted (os : Os) (started : os.Started) (H : Type) (enc : TypeId × Value → H) :
    ReturnsInHanded {} Try.checked os 3 .any (Rows.traceRingSpec.pre6 enc Try.prog Try.f3 Rows.traceRingRow.domain false) (Rows.traceRingSpec.post enc Try.prog Try.f3 false true false false) := by
  refine returnsInHanded_of_change (C := Try.checked) own started (by kernel_rfl) Try.func3
    (ChangeSpec.witness6 (enc := enc) (C := Try.checked) false ⟨#[], #[.slice none 0 0], []⟩ 8 (by kernel_rfl) (by kernel_rfl) (by kernel_rfl) (by kernel_rfl)) ?_
  intro W base args ds gs before hval0 hW hcnd _
  have hval : ∀ (j : Nat) t v, Try.f3.params[j]? = some t → args[j]? = some v → Value.okWide Try.prog W .any base t v := hval0
  have hW' := hW
  obtain ⟨p, q, hA0, hV, rfl, hfz, hnd⟩ := hW
  have hA : DataW.TrodAll enc Try.prog W 0 (fun _ => true) true Try.f3.params.toList args.toList ds p := hA0
  rw [Try.params3] at hA hval
  obtain ⟨v0, vs0, d0, ds0, p0, q0, hargs, rfl, rfl, h0, r0⟩ := trodAll_cons hA
  obtain ⟨rfl, rfl, rfl⟩ := trodAll_nil r0
  obtain rfl : args = #[v0] := by cases args; simp_all
  obtain ⟨rfl, rfl⟩ := trodVars_none hV
  have k0 := h0
  have lt0 : ∀ x ∈ p0, x.block < W.heap.size := by obtain ⟨m, hm⟩ := k0; exact DataW.trod_lt m _ _ _ hm
  obtain ⟨a0, len0, cap0, rfl⟩ := okWide_slice Try.underlying22 (hval 0 22 v0 rfl rfl)
  obtain ⟨fuel0, hf0⟩ := h0
  obtain ⟨A0, n0, c0, l0, e0, hn0, hc0, hfit0, hr0⟩ := open_edges hf0
  rw [e0]
  clear hA0 hval0
  refine (tracering_walk l0 hfit0 A0 n0 c0 W hr0 hn0 hc0).mono fun e W' ⟨he, hx⟩ => ?_
  subst he
  have bel := hx.below
  rw [← e0]
  exact ⟨_, rfl, _, _, _, [], _, [], hW', trodAll_mk1 (shut_bool Try.underlying4 _), (trodAll_cons_mk (Below.trod laidOut (by kernel_rfl) (of_decide_eq_true (by kernel_rfl)) k0 bel lt0) trodAll_mk0), rfl, bel.frame _, fun h => by cases h⟩

theorem over : Rows.traceRingRow.holds Try.pinned (OpenSpec.ofChange Rows.traceRingSpec) :=
  OpenClaim.holds_of_wide 3 Try.f3 rfl rfl rfl rfl rfl rfl rfl ⟨rfl, rfl, rfl, rfl, rfl⟩ rfl rfl rfl rfl rfl (by kernel_rfl) Try.func3 (by kernel_rfl)
    (of_decide_eq_true (by kernel_rfl)) (by unfold Func.isWrapper; first | (rw [if_pos (by decide +kernel)]; kernel_rfl) | (rw [if_neg (by decide +kernel)]; exact ⟨rfl, rfl⟩))
    (fun os started H enc _ => lifted os started H enc)

theorem proved : Rows.TraceRingSaid :=
  over
#print axioms proved
end Go.Proofs.Ytngdhpjbfcgloaa.traceRing
