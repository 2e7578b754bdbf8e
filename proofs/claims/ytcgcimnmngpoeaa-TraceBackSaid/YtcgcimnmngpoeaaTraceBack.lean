/- Records are read as they were written: the law TraceBack returns true for every input. No condition. -/
import Derived.Test.YtcgcimnmngpoeaaTraceDec
import Derived.Test.YtcgcimnmngpoeaaTraceOpen
namespace Go.Proofs.Ytcgcimnmngpoeaa.traceBack
open Go.ChangeShapes Go.WideShapes Go.ChangeAt Go.RowKit Go.Joins
set_option linter.unusedVariables false

set_option maxHeartbeats 2000000 in
set_option maxRecDepth 100000 in
theorem walk (A : Option Addr) (n c : Nat) (l : List RecD) (w : World) (hr : Reads w w.heap.size 4 A n (recsV l)) (hl : l.length = n) (fits : ∀ r ∈ l, r.Fits) (hn : n ≤ c) (hc : c ≤ maxLen) :
    Calls Try.prog 4 #[.slice A n c] w fun e w' => e = .returned (.bool true) ∧ Ext w w' := by
  have HREC := hide (records_any l fits A n c w.heap.size w hr (Nat.le_refl _) hl hn hc)
  have HL := hide hl
  clear hr hl fits
  go_enter Try.func4, Try.ntmps4
  go_wp2_with fail
  refine HREC.out.mono ?_
  rintro e w1 ⟨m, A1, c1, hm, rfl, ho1, hx1⟩
  have hm60 : m ≤ 60 := by omega
  have hxl : (normT l).length = m := by simp [normT, HL.out, hm]; omega
  have HXL := hide hxl
  have HOK := hide (normT_ok l)
  clear hm hxl
  generalize normT l = x at *
  have hc1'' := (own_le ho1).1
  go_wp2_with fail
  refine (encode_ok x HOK.out A1 m c1 w1.heap.size w1 (Reads.of_own ho1) (Nat.le_refl _) HXL.out (by omega) hc1'').mono ?_
  rintro e w2 ⟨A2, c2, rfl, ho2, hx2⟩
  have hc2'' := (own_le ho2).1
  go_wp2_with fail
  refine (decode_any (encT x) A2 (3 * m) c2 w2.heap.size w2 (Reads.of_own ho2) (Nat.le_refl _) (by rw [encT_length, HXL.out]) (by omega) hc2'').mono ?_
  rintro e w3 h
  have e3 : 3 * m / 3 = m := by omega
  rcases h with ⟨_, hbad, _⟩ | ⟨_, _, A3, c3, rfl, ho3, hx3⟩
  · obtain ⟨j, hj, hno⟩ := hbad (by omega)
    have hjx : j < x.length := by rw [HXL.out]; omega
    rw [recAt_enc x j hjx (HOK.out _ (List.getElem_mem hjx))] at hno
    exact absurd (HOK.out _ (List.getElem_mem hjx)) hno
  rw [e3] at ho3 ⊢
  have e4 : recsAt (encT x) m = x := by rw [← HXL.out]; exact recsAt_enc x HOK.out
  rw [e4] at ho3
  clear e3 e4
  have HO1 := hide ((hx2.trans hx3).own ho1)
  have hw3 : Ext w w3 := hx1.trans (hx2.trans hx3)
  clear ho1 ho2
  go_wp2_with fail
  refine (equal_same x A1 A3 m c1 c3 w3.heap.size w3 (Reads.of_own HO1.out) (Reads.of_own ho3) (Nat.le_refl _) HXL.out (by omega)).mono ?_
  rintro e w4 ⟨rfl, hx4⟩
  go_wp2_with fail
  go_ret
  exact ⟨rfl, by ((repeat (first | with_reducible exact Ext.refl _ | with_reducible assumption | with_reducible refine Ext.alloc ?_ _ | with_reducible refine Ext.drew ?_ | with_reducible refine Ext.drewN ?_ _ | with_reducible refine Ext.setCell ?_ (by first | exact Nat.le_refl _ | assumption | (simp; done) | omega) _ | with_reducible refine Ext.trans ?_ (by with_reducible assumption))); done)⟩

theorem own : ownKnob Try.prog.godebug = none := by kernel_rfl
theorem laidOut : laidOutB Try.prog = true := by kernel_rfl

set_option maxRecDepth 100000 in
theorem lifted (os : Os) (started : os.Started) (H : Type) (enc : TypeId × Value → H) :
    ReturnsInHanded {} Try.checked os 4 .any (Rows.traceBackSpec.pre6 enc Try.prog Try.f4 Rows.traceBackRow.domain false) (Rows.traceBackSpec.post enc Try.prog Try.f4 false true false false) := by
  refine returnsInHanded_of_change (C := Try.checked) own started (by kernel_rfl) Try.func4
    (ChangeSpec.witness6 (enc := enc) (C := Try.checked) false ⟨#[], #[.slice none 0 0], []⟩ 8 (by kernel_rfl) (by kernel_rfl) (by kernel_rfl) (by kernel_rfl)) ?_
  intro W base args ds gs before hval0 hW hcnd _
  have hval : ∀ (j : Nat) t v, Try.f4.params[j]? = some t → args[j]? = some v → Value.okWide Try.prog W .any base t v := hval0
  have hW' := hW
  obtain ⟨p, q, hA0, hV, rfl, hfz, hnd⟩ := hW
  have hA : DataW.TrodAll enc Try.prog W 0 (fun _ => true) true Try.f4.params.toList args.toList ds p := hA0
  rw [Try.params4] at hA hval
  obtain ⟨v0, vs0, d0, ds0, p0, q0, hargs, rfl, rfl, h0, r0⟩ := trodAll_cons hA
  obtain ⟨rfl, rfl, rfl⟩ := trodAll_nil r0
  obtain rfl : args = #[v0] := by cases args; simp_all
  obtain ⟨rfl, rfl⟩ := trodVars_none hV
  have k0 := h0
  have lt0 : ∀ x ∈ p0, x.block < W.heap.size := by obtain ⟨m, hm⟩ := k0; exact DataW.trod_lt m _ _ _ hm
  obtain ⟨a0, len0, cap0, rfl⟩ := okWide_slice Try.underlying23 (hval 0 23 v0 rfl rfl)
  obtain ⟨fuel, hf⟩ := h0
  obtain ⟨A, n, c, l, e0, hn, hc, hl, fits, hr⟩ := open_recs hf
  rw [e0]
  clear hA0 hval0
  refine (walk A n c l W hr hl fits hn hc).mono fun e W' ⟨he, hx⟩ => ?_
  subst he
  have bel := hx.below
  rw [← e0]
  exact ⟨_, rfl, _, _, _, [], _, [], hW', trodAll_mk1 (shut_bool Try.underlying4 _), (trodAll_cons_mk (Below.trod laidOut (by kernel_rfl) (of_decide_eq_true (by kernel_rfl)) k0 bel lt0) trodAll_mk0), rfl, bel.frame _, fun h => by cases h⟩

theorem over : Rows.traceBackRow.holds Try.pinned (OpenSpec.ofChange Rows.traceBackSpec) :=
  OpenClaim.holds_of_wide 4 Try.f4 rfl rfl rfl rfl rfl rfl rfl ⟨rfl, rfl, rfl, rfl, rfl⟩ rfl rfl rfl rfl rfl (by kernel_rfl) Try.func4 (by kernel_rfl)
    (of_decide_eq_true (by kernel_rfl)) (by unfold Func.isWrapper; first | (rw [if_pos (by decide +kernel)]; kernel_rfl) | (rw [if_neg (by decide +kernel)]; exact ⟨rfl, rfl⟩))
    (fun os started H enc _ => lifted os started H enc)

theorem proved : Rows.TraceBackSaid :=
  over
#print axioms proved
end Go.Proofs.Ytcgcimnmngpoeaa.traceBack
