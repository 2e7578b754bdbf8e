/- Bytes that Decode accepts are the encoding of the records that it returns: the law TraceTurned returns true for every input. No condition. -/
import Derived.Test.YtcgcimnmngpoeaaTraceDec
import Derived.Test.YtcgcimnmngpoeaaOpen
import Derived.Test.YtcgcimnmngpoeaaCut
namespace Go.Proofs.Ytcgcimnmngpoeaa.traceTurned
open Go.ChangeShapes Go.WideShapes Go.ChangeAt Go.RowKit Go.Joins
set_option linter.unusedVariables false

theorem quiet_left {P : Program} {f : FuncId} {args : Array Value} {w : World} {n : Nat} {v : Value}
    (h : Calls P f args (w.drewN n) fun e w' => e = .returned v ∧ w.drewN n = w') : Calls P f args (w.drewN n) fun e w'' => e = .returned v ∧ ∃ m, w'' = w.drewN m :=
  h.mono fun _ _ ⟨he, hm⟩ => ⟨he, n, hm.symm⟩

theorem three_ok : ∀ j, j < 3 / 3 → (recAt [4, 1, 0] (3 * j)).Ok := by
  intro j hj
  obtain rfl : j = 0 := by omega
  exact ⟨by decide, by decide, by decide, by decide, by decide, by decide, by decide, by decide⟩

set_option maxHeartbeats 2000000 in
set_option maxRecDepth 100000 in
theorem walk (A : Option Addr) (n c : Nat) (bs : List UInt8) (w : World) (hr : Reads w w.heap.size 1 A n (bytesV bs)) (hn : n ≤ c) (hc : c ≤ maxLen) :
    Calls Try.prog 3 #[.slice A n c] w fun e w' => e = .returned (.bool true) ∧ Ext w w' := by
  have hlen := hr.1
  rw [bytesV_length, Nat.mul_one] at hlen
  have hm : min n 90 ≤ n := Nat.min_le_left _ _
  have hm' : min n 90 ≤ 90 := Nat.min_le_right _ _
  have HR1 := hide (show Reads w w.heap.size 1 A (min n 90) (bytesV (bs.take (min n 90))) by rw [← bytesV_take]; exact hr.take hm)
  have HL := hide (show (bs.take (min n 90)).length = min n 90 by rw [List.length_take]; omega)
  have HCUT := hide (fun W : World => cut_any A n c 90 W hn hc (by omega))
  clear hr hlen
  generalize bs.take (min n 90) = d at *
  generalize hmm : min n 90 = m at *
  clear hmm
  go_enter Try.func3, Try.ntmps3
  go_wp2_with fail
  refine (HCUT.out _).mono ?_
  rintro e w' ⟨rfl, rfl⟩
  go_wp2_with fail
  refine (decode_any d A m c w.heap.size w HR1.out (Nat.le_refl _) HL.out (by omega) (by omega)).mono ?_
  rintro e w1 h
  rcases h with ⟨⟨er, hne, rfl⟩, _, hx1⟩ | ⟨h3, hok, A1, c1, rfl, ho1, hx1⟩
  · have tne : (er != 0) = true := by rw [bne_iff_ne]; exact hne
    clear hne
    have hbn : Blk (w1.alloc (.cells #[.int .u8 4, .int .u8 1, .int .u8 0] 5)) w1.heap.size 5 #[.int .u8 4, .int .u8 1, .int .u8 0] := Blk.new _ _ _
    go_wp2_with fail
    refine (decode_any [4, 1, 0] _ 3 3 _ _ hbn.reads (Nat.le_refl _) rfl (by omega) (by omega)).mono ?_
    rintro e w2 h
    rcases h with ⟨_, hbad, _⟩ | ⟨_, _, A2, c2, rfl, ho2, hx2⟩
    · obtain ⟨j, hj, hno⟩ := hbad rfl
      exact absurd (three_ok j hj) hno
    clear hbn
    have hw2 : Ext w w2 := (hx1.alloc _).trans hx2
    go_wp2_with fail
    go_ret
    exact ⟨rfl, by ((repeat (first | with_reducible exact Ext.refl _ | with_reducible assumption | with_reducible refine Ext.alloc ?_ _ | with_reducible refine Ext.drew ?_ | with_reducible refine Ext.drewN ?_ _ | with_reducible refine Ext.setCell ?_ (by first | exact Nat.le_refl _ | assumption | (simp; done) | omega) _ | with_reducible refine Ext.trans ?_ (by with_reducible assumption))); done)⟩
  · have HOK := hide (show ∀ r ∈ recsAt d (m / 3), r.Ok by
      intro r hr
      obtain ⟨j, hj, rfl⟩ := List.mem_map.1 hr
      exact hok j (List.mem_range.1 hj))
    have HEN := hide (show encT (recsAt d (m / 3)) = d by
      rw [enc_recsAt d (m / 3) (by rw [HL.out]; omega), List.take_of_length_le (by rw [HL.out]; omega)])
    have HRL := hide (recsAt_length d (m / 3))
    have HM3 := hide (show 3 * (m / 3) = m by omega)
    clear hok h3
    have hm30 : m / 3 ≤ 400 := by omega
    generalize recsAt d (m / 3) = l at *
    generalize m / 3 = t at *
    have hbn : Blk (w1.alloc (.cells #[.int .u8 4, .int .u8 1, .int .u8 0] 5)) w1.heap.size 5 #[.int .u8 4, .int .u8 1, .int .u8 0] := Blk.new _ _ _
    go_wp2_with fail
    refine (decode_any [4, 1, 0] _ 3 3 _ _ hbn.reads (Nat.le_refl _) rfl (by omega) (by omega)).mono ?_
    rintro e w2 h
    rcases h with ⟨_, hbad, _⟩ | ⟨_, _, A2, c2, rfl, ho2, hx2⟩
    · obtain ⟨j, hj, hno⟩ := hbad rfl
      exact absurd (three_ok j hj) hno
    clear hbn
    have hw2 : Ext w w2 := (hx1.alloc _).trans hx2
    have HO := hide ((((Ext.refl w1).alloc _).trans hx2).own ho1)
    go_wp2_with fail
    obtain ⟨A', c', hv, hc3, _⟩ := own_form HO.out
    injection hv with _ _ hcc
    refine (encode_ok l HOK.out A1 t c1 w2.heap.size w2 (Reads.of_own HO.out) (Nat.le_refl _) HRL.out hm30 (by omega)).mono ?_
    rintro e w3 ⟨A3, c3, rfl, ho3, hx3⟩
    rw [HEN.out] at ho3
    have hw3 : Ext w w3 := hw2.trans hx3
    have S1 : ∀ nq, (convert 22 9 (.slice A3 (3 * t) c3)).run Try.prog (w3.drewN nq) = .ok (.string ⟨d.toArray⟩) (w3.drewN nq) := fun nq => conv_str Try.underlying22 Try.underlying5 Try.underlying9 (Reads.drewN (Reads.of_own ho3) nq) c3
    have S2 : ∀ nq, (convert 22 9 (.slice A m c)).run Try.prog (w3.drewN nq) = .ok (.string ⟨d.toArray⟩) (w3.drewN nq) := fun nq => conv_str Try.underlying22 Try.underlying5 Try.underlying9 (Reads.drewN (hw3.reads HR1.out (Nat.le_refl _)) nq) c
    clear hcc
    go_wp2_with fail
    go_quiet ((go_at_call 8; exact quiet_left (HCUT.out _)))
    go_wp2_with fail
    go_ret
    exact ⟨rfl, by ((repeat (first | with_reducible exact Ext.refl _ | with_reducible assumption | with_reducible refine Ext.alloc ?_ _ | with_reducible refine Ext.drew ?_ | with_reducible refine Ext.drewN ?_ _ | with_reducible refine Ext.setCell ?_ (by first | exact Nat.le_refl _ | assumption | (simp; done) | omega) _ | with_reducible refine Ext.trans ?_ (by with_reducible assumption))); done)⟩

theorem own : ownKnob Try.prog.godebug = none := by kernel_rfl
theorem laidOut : laidOutB Try.prog = true := by kernel_rfl

set_option maxRecDepth 100000 in
theorem lifted (os : Os) (started : os.Started) (H : Type) (enc : TypeId × Value → H) :
    ReturnsInHanded {} Try.checked os 3 .any (Rows.traceTurnedSpec.pre6 enc Try.prog Try.f3 Rows.traceTurnedRow.domain false) (Rows.traceTurnedSpec.post enc Try.prog Try.f3 false true false false) := by
  refine returnsInHanded_of_change (C := Try.checked) own started (by kernel_rfl) Try.func3
    (ChangeSpec.witness6 (enc := enc) (C := Try.checked) false ⟨#[], #[.slice none 0 0], []⟩ 8 (by kernel_rfl) (by kernel_rfl) (by kernel_rfl) (by kernel_rfl)) ?_
  intro W base args ds gs before hval0 hW hcnd _
  have hval : ∀ (j : Nat) t v, Try.f3.params[j]? = some t → args[j]? = some v → Value.okWide Try.prog W .any base t v := hval0
  have hW' := hW
  obtain ⟨p, q, hA0, hV, rfl, hfz, hnd⟩ := hW
  have hA : DataW.TrodAll enc Try.prog W 0 (fun _ => true) true Try.f3.params.toList args.toList ds p := hA0
  rw [Try.params3] at hA hval
  obtain ⟨v0, vs0, d0, ds0, p0, q0, hargs, rfl, rfl, h0, r0⟩ := trodAll_cons hA
  obtain ⟨rfl, rfl, rfl⟩ := trodAll_nil r0
  obtain rfl : args = #[v0] := by cases args; simp_all
  obtain ⟨rfl, rfl⟩ := trodVars_none hV
  have k0 := h0
  have lt0 : ∀ x ∈ p0, x.block < W.heap.size := by obtain ⟨m, hm⟩ := k0; exact DataW.trod_lt m _ _ _ hm
  obtain ⟨a0, len0, cap0, rfl⟩ := okWide_slice Try.underlying22 (hval 0 22 v0 rfl rfl)
  obtain ⟨fuel, hf⟩ := h0
  obtain ⟨A, n, c, bs, e0, hn, hc, hr, _⟩ := open_bytes Try.underlying22 Try.underlying5 (by kernel_rfl) hf
  rw [e0]
  clear hA0 hval0
  refine (walk A n c bs W hr hn hc).mono fun e W' ⟨he, hx⟩ => ?_
  subst he
  have bel := hx.below
  rw [← e0]
  exact ⟨_, rfl, _, _, _, [], _, [], hW', trodAll_mk1 (shut_bool Try.underlying4 _), (trodAll_cons_mk (Below.trod laidOut (by kernel_rfl) (of_decide_eq_true (by kernel_rfl)) k0 bel lt0) trodAll_mk0), rfl, bel.frame _, fun h => by cases h⟩

theorem over : Rows.traceTurnedRow.holds Try.pinned (OpenSpec.ofChange Rows.traceTurnedSpec) :=
  OpenClaim.holds_of_wide 3 Try.f3 rfl rfl rfl rfl rfl rfl rfl ⟨rfl, rfl, rfl, rfl, rfl⟩ rfl rfl rfl rfl rfl (by kernel_rfl) Try.func3 (by kernel_rfl)
    (of_decide_eq_true (by kernel_rfl)) (by unfold Func.isWrapper; first | (rw [if_pos (by decide +kernel)]; kernel_rfl) | (rw [if_neg (by decide +kernel)]; exact ⟨rfl, rfl⟩))
    (fun os started H enc _ => lifted os started H enc)

theorem proved : Rows.TraceTurnedSaid :=
  over
#print axioms proved
end Go.Proofs.Ytcgcimnmngpoeaa.traceTurned
