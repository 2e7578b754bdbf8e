/- What can be reached is closed under edges, and grows with the starting nodes: the law RefsClosed returns true for every input. No condition. -/
import Derived.Test.YtlmcahgffakoiaaRefsClosedW
import Derived.Test.YtlmcahgffakoiaaOpenI
namespace Go.Proofs.Ytlmcahgffakoiaa.refsClosed
open Go.ChangeShapes Go.WideShapes Go.ChangeAt Go.RowKit Go.Joins
set_option linter.unusedVariables false

section
variable {H : Type} {enc : TypeId × Value → H} {w : World} {base : Nat} {spare : Nat → Bool} {held : Bool}
theorem open_edges {fuel : Nat} {v : Value} {x : DataW H × List MemPlace} (h : DataW.trod enc Try.prog w base spare held fuel 32 [v] = some x) :
    ∃ A n c l, v = .slice A n c ∧ n ≤ c ∧ c ≤ maxLen ∧ (∀ e ∈ l, I64 e.1 ∧ I64 e.2) ∧ Reads w w.heap.size 2 A n (edgesIV l) := by
  rcases open_slice_fields Try.underlying32 Try.underlying34 (by kernel_rfl) (by kernel_rfl) h with rfl | ⟨a, len, cap, rfl, hl, hm, hi⟩
  · exact ⟨none, 0, 0, [], rfl, Nat.le_refl _, Nat.zero_le _, by simp, Reads.none_⟩
  · have each : ∀ i, i < len → ∃ r : EdgeI, (I64 r.1 ∧ I64 r.2) ∧ ∀ j (hj : j < 2), w.cell? (a.add (i * 2 + j)) = (edgeIC r)[j]? := by
      intro i hil
      obtain ⟨n, hf⟩ := hi i hil
      obtain ⟨u0, y0, c0, t0⟩ := hf 0 _ rfl
      obtain ⟨u1, y1, c1, t1⟩ := hf 1 _ rfl
      obtain ⟨k, rfl, wk⟩ := open_num Try.underlying3 t0
      obtain ⟨c, rfl, wc⟩ := open_num Try.underlying3 t1
      refine ⟨⟨k, c⟩, ⟨bounds_i64 wk, bounds_i64 wc⟩, fun j hj => ?_⟩
      match j, hj with
      | 0, _ => exact c0
      | 1, _ => exact c1
    obtain ⟨l, hll, hp⟩ := list_of each
    refine ⟨some a, len, cap, l, rfl, hl, hm, fun r hr => ?_, ⟨by rw [edgesIV, flat_length edgeIC_len, hll], fun hn => ⟨a, rfl, ?_, fun j u hu => ?_⟩⟩⟩
    · obtain ⟨i, hi', rfl⟩ := List.getElem_of_mem hr
      exact (hp i hi').1
    · have := (hp 0 (by omega)).2 0 (by omega)
      have h2 := World.block_lt_of_cell? w _ (this.trans (show (edgeIC l[0])[0]? = some (.int .i64 l[0].1) from rfl))
      rwa [add_block] at h2
    · have hj : j < l.length * 2 := by rw [← flat_length edgeIC_len]; exact (List.getElem?_eq_some_iff.1 hu).1
      have e : j = j / 2 * 2 + j % 2 := by omega
      rw [e] at hu ⊢
      rw [edgesIV, flat_get edgeIC_len l (j / 2) (j % 2) (by omega) (by omega)] at hu
      rw [(hp (j / 2) (by omega)).2 (j % 2) (by omega)]
      exact hu
end

theorem own : ownKnob Try.prog.godebug = none := by kernel_rfl
theorem laidOut : laidOutB Try.prog = true := by kernel_rfl

set_option maxRecDepth 100000 in
theorem lifted (os : Os) (started : os.Started) (H : Type) (enc : TypeId × Value → H) :
    ReturnsInHanded {} Try.checked os 4 .any (Rows.refsClosedSpec.pre6 enc Try.prog Try.f4 Rows.refsClosedRow.domain false) (Rows.refsClosedSpec.post enc Try.prog Try.f4 false true false false) := by
  refine returnsInHanded_of_change (C := Try.checked) own started (by kernel_rfl) Try.func4
    (ChangeSpec.witness6 (enc := enc) (C := Try.checked) false ⟨#[], #[.slice none 0 0, .slice none 0 0, .int .i64 0], []⟩ 8 (by kernel_rfl) (by kernel_rfl) (by kernel_rfl) (by kernel_rfl)) ?_
  intro W base args ds gs before hval0 hW hcnd _
  have hval : ∀ (j : Nat) t v, Try.f4.params[j]? = some t → args[j]? = some v → Value.okWide Try.prog W .any base t v := hval0
  have hW' := hW
  obtain ⟨p, q, hA0, hV, rfl, hfz, hnd⟩ := hW
  have hA : DataW.TrodAll enc Try.prog W 0 (fun _ => true) true Try.f4.params.toList args.toList ds p := hA0
  rw [Try.params4] at hA hval
  obtain ⟨v0, vs0, d0, ds0, p0, q0, hargs, rfl, rfl, h0, r0⟩ := trodAll_cons hA
  obtain ⟨v1, vs1, d1, ds1, p1, q1, rfl, rfl, rfl, h1, r1⟩ := trodAll_cons r0
  obtain ⟨v2, vs2, d2, ds2, p2, q2, rfl, rfl, rfl, h2, r2⟩ := trodAll_cons r1
  obtain ⟨rfl, rfl, rfl⟩ := trodAll_nil r2
  obtain rfl : args = #[v0, v1, v2] := by cases args; simp_all
  obtain ⟨rfl, rfl⟩ := trodVars_none hV
  have k0 := h0
  have lt0 : ∀ x ∈ p0, x.block < W.heap.size := by obtain ⟨m, hm⟩ := k0; exact DataW.trod_lt m _ _ _ hm
  have k1 := h1
  have lt1 : ∀ x ∈ p1, x.block < W.heap.size := by obtain ⟨m, hm⟩ := k1; exact DataW.trod_lt m _ _ _ hm
  have k2 := h2
  have lt2 : ∀ x ∈ p2, x.block < W.heap.size := by obtain ⟨m, hm⟩ := k2; exact DataW.trod_lt m _ _ _ hm
  obtain ⟨z2, rfl, rfl, rfl, w2⟩ := open_int Try.underlying3 (hval 2 3 v2 rfl rfl) h2
  have b2 := bounds_i64 w2
  obtain ⟨a0, len0, cap0, rfl⟩ := okWide_slice Try.underlying32 (hval 0 32 v0 rfl rfl)
  obtain ⟨fuel0, hf0⟩ := h0
  obtain ⟨A0, n0, c0, l0, e0, hn0, hc0, hfit0, hr0⟩ := open_edges hf0
  rw [e0]
  obtain ⟨a1, len1, cap1, rfl⟩ := okWide_slice Try.underlying22 (hval 1 22 v1 rfl rfl)
  obtain ⟨fuel1, hf1⟩ := h1
  obtain ⟨A1, n1, c1, zs1, e1, hn1, hc1, hr1, hz1⟩ := open_intsV Try.underlying22 Try.underlying3 (by kernel_rfl) hf1
  rw [e1]
  clear hA0 hval0
  refine (closed_walk l0 hfit0 zs1 hz1 z2 b2 A0 n0 c0 A1 n1 c1 W hr0 hn0 hc0 hr1 hn1 hc1).mono fun e W' ⟨he, hx⟩ => ?_
  subst he
  have bel := hx.below
  rw [← e0, ← e1]
  exact ⟨_, rfl, _, _, _, [], _, [], hW', trodAll_mk1 (shut_bool Try.underlying4 _), (trodAll_cons_mk (Below.trod laidOut (by kernel_rfl) (of_decide_eq_true (by kernel_rfl)) k0 bel lt0) (trodAll_cons_mk (Below.trod laidOut (by kernel_rfl) (of_decide_eq_true (by kernel_rfl)) k1 bel lt1) (trodAll_cons_mk (Below.trod laidOut (by kernel_rfl) (of_decide_eq_true (by kernel_rfl)) k2 bel lt2) trodAll_mk0))), rfl, bel.frame _, fun h => by cases h⟩

theorem over : Rows.refsClosedRow.holds Try.pinned (OpenSpec.ofChange Rows.refsClosedSpec) :=
  OpenClaim.holds_of_wide 4 Try.f4 rfl rfl rfl rfl rfl rfl rfl ⟨rfl, rfl, rfl, rfl, rfl⟩ rfl rfl rfl rfl rfl (by kernel_rfl) Try.func4 (by kernel_rfl)
    (of_decide_eq_true (by kernel_rfl)) (by unfold Func.isWrapper; first | (rw [if_pos (by decide +kernel)]; kernel_rfl) | (rw [if_neg (by decide +kernel)]; exact ⟨rfl, rfl⟩))
    (fun os started H enc _ => lifted os started H enc)

theorem proved : Rows.RefsClosedSaid :=
  over
#print axioms proved
end Go.Proofs.Ytlmcahgffakoiaa.refsClosed
