/- A segment is read as it was written: the law SegBack returns true for every input. No condition. -/
import Derived.Test.YtpohoaehaejphaaSegLaws
import Derived.Test.YtpohoaehaejphaaOpen
namespace Go.Proofs.Ytpohoaehaejphaa.segBack
open Go.ChangeShapes Go.WideShapes Go.ChangeAt Go.RowKit Go.Joins
set_option linter.unusedVariables false

theorem own : ownKnob Try.prog.godebug = none := by kernel_rfl
theorem laidOut : laidOutB Try.prog = true := by kernel_rfl

set_option maxRecDepth 100000 in
theorem lifted (os : Os) (started : os.Started) (H : Type) (enc : TypeId × Value → H) :
    ReturnsInHanded {} Try.checked os 4 .any (Rows.segBackSpec.pre6 enc Try.prog Try.f4 Rows.segBackRow.domain false) (Rows.segBackSpec.post enc Try.prog Try.f4 false true false false) := by
  refine returnsInHanded_of_change (C := Try.checked) own started (by kernel_rfl) Try.func4
    (ChangeSpec.witness6 (enc := enc) (C := Try.checked) false ⟨#[], #[.agg #[.int .u32 0, .int .u32 0, .int .i64 0, .int .i64 0, .slice none 0 0]], []⟩ 8 (by kernel_rfl) (by kernel_rfl) (by kernel_rfl) (by kernel_rfl)) ?_
  intro W base args ds gs before hval0 hW hcnd _
  have hval : ∀ (j : Nat) t v, Try.f4.params[j]? = some t → args[j]? = some v → Value.okWide Try.prog W .any base t v := hval0
  have hW' := hW
  obtain ⟨p, q, hA0, hV, rfl, hfz, hnd⟩ := hW
  have hA : DataW.TrodAll enc Try.prog W 0 (fun _ => true) true Try.f4.params.toList args.toList ds p := hA0
  rw [Try.params4] at hA hval
  obtain ⟨v0, vs0, d0, ds0, p0, q0, hargs, rfl, rfl, h0, r0⟩ := trodAll_cons hA
  obtain ⟨rfl, rfl, rfl⟩ := trodAll_nil r0
  obtain rfl : args = #[v0] := by cases args; simp_all
  obtain ⟨rfl, rfl⟩ := trodVars_none hV
  have k0 := h0
  have lt0 : ∀ x ∈ p0, x.block < W.heap.size := by obtain ⟨m, hm⟩ := k0; exact DataW.trod_lt m _ _ _ hm
  obtain ⟨c0, c1, c2, c3, c4, y0, y1, y2, y3, y4, m, rfl, t0, t1, t2, t3, t4⟩ := open_agg5 Try.underlying27 (by kernel_rfl) (by kernel_rfl) (hval 0 27 v0 rfl rfl) h0
  obtain ⟨q, rfl, wq⟩ := open_num Try.underlying22 t0
  obtain ⟨a, rfl, wa⟩ := open_num Try.underlying22 t1
  obtain ⟨f, rfl, wf⟩ := open_num Try.underlying3 t2
  obtain ⟨v, rfl, wv⟩ := open_num Try.underlying3 t3
  obtain ⟨A, n, c, bs, rfl, hn, hc, hr, _⟩ := open_bytes Try.underlying25 Try.underlying5 (by kernel_rfl) t4
  have bq := bounds_u32 wq
  have ba := bounds_u32 wa
  have bf := bounds_i64 wf
  have bv := bounds_i64 wv
  obtain ⟨q, rfl⟩ := Int.eq_ofNat_of_zero_le bq.1
  obtain ⟨a, rfl⟩ := Int.eq_ofNat_of_zero_le ba.1
  clear hA0 hval0
  refine (back_walk q a f v A n c bs W hr hn hc (by omega) (by omega) bf.1 bf.2 bv.1 bv.2).mono fun e W' ⟨he, hx⟩ => ?_
  subst he
  have bel := hx.below
  exact ⟨_, rfl, _, _, _, [], _, [], hW', trodAll_mk1 (shut_bool Try.underlying4 _), (trodAll_cons_mk (Below.trod laidOut (by kernel_rfl) (of_decide_eq_true (by kernel_rfl)) k0 bel lt0) trodAll_mk0), rfl, bel.frame _, fun h => by cases h⟩

theorem over : Rows.segBackRow.holds Try.pinned (OpenSpec.ofChange Rows.segBackSpec) :=
  OpenClaim.holds_of_wide 4 Try.f4 rfl rfl rfl rfl rfl rfl rfl ⟨rfl, rfl, rfl, rfl, rfl⟩ rfl rfl rfl rfl rfl (by kernel_rfl) Try.func4 (by kernel_rfl)
    (of_decide_eq_true (by kernel_rfl)) (by unfold Func.isWrapper; first | (rw [if_pos (by decide +kernel)]; kernel_rfl) | (rw [if_neg (by decide +kernel)]; exact ⟨rfl, rfl⟩))
    (fun os started H enc _ => lifted os started H enc)

theorem proved : Rows.SegBackSaid :=
  over
#print axioms proved
end Go.Proofs.Ytpohoaehaejphaa.segBack
