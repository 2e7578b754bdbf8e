/- When a plan has been executed, each child has exactly the ends of its neighbouring pipes, its files and the descriptors that the shell had before, and the shell has the descriptors that it had before: the law ShellPlan returns true for every input. No condition. -/
import Derived.Test.YtikpdhkjkmbomaaPlW
import Derived.Test.YtikpdhkjkmbomaaOpenB
namespace Go.Proofs.Ytikpdhkjkmbomaa.shellPlan
open Go.ChangeShapes Go.WideShapes Go.ChangeAt Go.RowKit Go.Joins Go.Deep
set_option linter.unusedVariables false

section
variable {H : Type} {enc : TypeId × Value → H} {w : World} {base : Nat} {held : Bool}
theorem open_flag {P : Program} {t : TypeId} {spare : Nat → Bool} {fuel : Nat} {v : Value} {x : DataW H × List MemPlace} (ht : P.underlying t = some .bool) (h : DataW.trod enc P w base spare held fuel t [v] = some x) : ∃ b, v = .bool b := by
  obtain ⟨b, e0, -⟩ := DataW.trod_bool ht h
  simp at e0
  exact ⟨b, e0⟩
theorem open_sims {fuel : Nat} {v : Value} {x : DataW H × List MemPlace} (h : DataW.trod enc Try.prog w base (fun _ => true) held fuel 40 [v] = some x) :
    ∃ A n c l, v = .slice A n c ∧ n ≤ c ∧ c ≤ maxLen ∧ Reads w w.heap.size 3 A n (List.flatMap rawC l) := by
  rcases open_slice_fields Try.underlying40 Try.underlying42 (by kernel_rfl) (by kernel_rfl) h with rfl | ⟨a, len, cap, rfl, hl, hm, hi⟩
  · exact ⟨none, 0, 0, [], rfl, Nat.le_refl _, Nat.zero_le _, Reads.none_⟩
  · have each : ∀ i, i < len → ∃ r : RawS, ∀ j (hj : j < 3), w.cell? (a.add (i * 3 + j)) = (rawC r)[j]? := by
      intro i hil
      obtain ⟨n, hf⟩ := hi i hil
      obtain ⟨u0, y0, c0, t0⟩ := hf 0 _ rfl
      obtain ⟨u1, y1, c1, t1⟩ := hf 1 _ rfl
      obtain ⟨u2, y2, c2, t2⟩ := hf 2 _ rfl
      obtain ⟨p, rfl⟩ := open_flag Try.underlying4 t0
      obtain ⟨q, rfl⟩ := open_flag Try.underlying4 t1
      obtain ⟨s, rfl⟩ := open_flag Try.underlying4 t2
      refine ⟨(p, q, s), fun j hj => ?_⟩
      match j, hj with
      | 0, _ => exact c0
      | 1, _ => exact c1
      | 2, _ => exact c2
    obtain ⟨l, hll, hp⟩ := list_of each
    refine ⟨some a, len, cap, l, rfl, hl, hm, ⟨by rw [flat_length rawC_len, hll], fun hn => ⟨a, rfl, ?_, fun j u hu => ?_⟩⟩⟩
    · have := hp 0 (by omega) 0 (by omega)
      have h2 := World.block_lt_of_cell? w _ (this.trans (show (rawC l[0])[0]? = some (.bool l[0].1) from rfl))
      rwa [add_block] at h2
    · have hj : j < l.length * 3 := by rw [← flat_length rawC_len]; exact (List.getElem?_eq_some_iff.1 hu).1
      have e : j = j / 3 * 3 + j % 3 := by omega
      rw [e] at hu ⊢
      rw [flat_get rawC_len l (j / 3) (j % 3) (by omega) (by omega)] at hu
      rw [hp (j / 3) (by omega) (j % 3) (by omega)]
      exact hu
end

theorem own : ownKnob Try.prog.godebug = none := by kernel_rfl
theorem laidOut : laidOutB Try.prog = true := by kernel_rfl

set_option maxRecDepth 100000 in
theorem lifted (os : Os) (started : os.Started) (H : Type) (enc : TypeId × Value → H) :
    ReturnsInHanded {} Try.checked os 4 .any (Rows.shellPlanSpec.pre6 enc Try.prog Try.f4 Rows.shellPlanRow.domain false) (Rows.shellPlanSpec.post enc Try.prog Try.f4 false true false false) := by
  refine returnsInHanded_of_change (C := Try.checked) own started (by kernel_rfl) Try.func4
    (ChangeSpec.witness6 (enc := enc) (C := Try.checked) false ⟨#[], #[.slice none 0 0, .slice none 0 0], []⟩ 8 (by kernel_rfl) (by kernel_rfl) (by kernel_rfl) (by kernel_rfl)) ?_
  intro W base args ds gs before hval0 hW hcnd _
  have hval : ∀ (j : Nat) t v, Try.f4.params[j]? = some t → args[j]? = some v → Value.okWide Try.prog W .any base t v := hval0
  have hW' := hW
  obtain ⟨p, q, hA0, hV, rfl, hfz, hnd⟩ := hW
  have hA : DataW.TrodAll enc Try.prog W 0 (fun _ => true) true Try.f4.params.toList args.toList ds p := hA0
  rw [Try.params4] at hA hval
  obtain ⟨v0, vs0, d0, ds0, p0, q0, hargs, rfl, rfl, h0, r0⟩ := trodAll_cons hA
  obtain ⟨v1, vs1, d1, ds1, p1, q1, rfl, rfl, rfl, h1, r1⟩ := trodAll_cons r0
  obtain ⟨rfl, rfl, rfl⟩ := trodAll_nil r1
  obtain rfl : args = #[v0, v1] := by cases args; simp_all
  obtain ⟨rfl, rfl⟩ := trodVars_none hV
  have k0 := h0
  have lt0 : ∀ x ∈ p0, x.block < W.heap.size := by obtain ⟨m, hm⟩ := k0; exact DataW.trod_lt m _ _ _ hm
  have k1 := h1
  have lt1 : ∀ x ∈ p1, x.block < W.heap.size := by obtain ⟨m, hm⟩ := k1; exact DataW.trod_lt m _ _ _ hm
  obtain ⟨a0, len0, cap0, rfl⟩ := okWide_slice Try.underlying40 (hval 0 40 v0 rfl rfl)
  obtain ⟨fuel0, hf0⟩ := h0
  obtain ⟨A0, n0, c0, l0, e0, hn0, hc0, hr0⟩ := open_sims hf0
  rw [e0]
  obtain ⟨a1, len1, cap1, rfl⟩ := okWide_slice Try.underlying22 (hval 1 22 v1 rfl rfl)
  obtain ⟨fuel1, hf1⟩ := h1
  obtain ⟨A1, n1, c1, bs1, e1, hn1, hc1, hr1⟩ := open_boolsV Try.underlying22 Try.underlying4 (by kernel_rfl) hf1
  rw [e1]
  clear hA0 hval0
  refine (plan_walk A0 n0 c0 l0 A1 n1 c1 bs1 W hr0 (Nat.le_trans hn0 hc0) hr1 (Nat.le_trans hn1 hc1)).mono fun e W' ⟨he, hx⟩ => ?_
  subst he
  have bel := hx.below
  rw [← e0, ← e1]
  exact ⟨_, rfl, _, _, _, [], _, [], hW', trodAll_mk1 (shut_bool Try.underlying4 _), (trodAll_cons_mk (Below.trod laidOut (by kernel_rfl) (of_decide_eq_true (by kernel_rfl)) k0 bel lt0) (trodAll_cons_mk (Below.trod laidOut (by kernel_rfl) (of_decide_eq_true (by kernel_rfl)) k1 bel lt1) trodAll_mk0)), rfl, bel.frame _, fun h => by cases h⟩

theorem over : Rows.shellPlanRow.holds Try.pinned (OpenSpec.ofChange Rows.shellPlanSpec) :=
  OpenClaim.holds_of_wide 4 Try.f4 rfl rfl rfl rfl rfl rfl rfl ⟨rfl, rfl, rfl, rfl, rfl⟩ rfl rfl rfl rfl rfl (by kernel_rfl) Try.func4 (by kernel_rfl)
    (of_decide_eq_true (by kernel_rfl)) (by unfold Func.isWrapper; first | (rw [if_pos (by decide +kernel)]; kernel_rfl) | (rw [if_neg (by decide +kernel)]; exact ⟨rfl, rfl⟩))
    (fun os started H enc _ => lifted os started H enc)

theorem proved : Rows.ShellPlanSaid :=
  over
#print axioms proved
end Go.Proofs.Ytikpdhkjkmbomaa.shellPlan
