/- seg.Before is the order on the ring modulo 2^32: the law SegRing returns true for every input. No condition. -/
import Derived.Test.YtpohoaehaejphaaRows
import Derived.WalkKit
import Derived.ProofKit
import Derived.OpenShut
namespace Go.Proofs.Ytpohoaehaejphaa.segRing
open Go.ChangeShapes Go.WideShapes Go.ChangeAt Go.RowKit
set_option linter.unusedVariables false

theorem own : ownKnob Try.prog.godebug = none := by kernel_rfl

def bef (a b : Int) : Bool := decide (wrap32 ((a - b) % 4294967296) < 0)

theorem before_any (a b : Int) (c : Bool) (w : World) (hc : bef a b = c) :
    Calls Try.prog 7 #[.int .u32 a, .int .u32 b] w fun e w' => e = .returned (.bool c) ∧ w = w' := by
  subst hc
  unfold bef
  go_enter Try.func7, Try.ntmps7
  go_wp2
  go_ret
  exact ⟨rfl, rfl⟩

theorem and31 (n : Int) (h : 0 ≤ n) (h' : n ≤ 4294967295) : bits .and .u32 n 2147483647 = n % 2147483648 :=
  bits_mask .u32 32 (by decide) (fun n h₀ h₁ => by rw [IntKind.wrap_u32]; omega) 31 (by decide) n h (by omega)

theorem bef_56 : bef 5 6 = true := by unfold bef wrap32; decide
theorem bef_fwd (a d : Int) (hd : 0 ≤ d) (hd' : d < 2147483648) : bef a ((a + d) % 4294967296) = decide (0 < d) := by
  unfold bef wrap32
  simp only [decide_eq_decide]
  omega
theorem bef_bwd (a d : Int) (hd : 0 ≤ d) (hd' : d < 2147483648) : bef ((a + d) % 4294967296) a = false := by
  unfold bef wrap32
  simp only [decide_eq_false_iff_not]
  omega
theorem bef_shift (a d t : Int) (hd : 0 ≤ d) (hd' : d < 2147483648) : bef ((a + t) % 4294967296) ((a + d + t) % 4294967296) = decide (0 < d) := by
  unfold bef wrap32
  simp only [decide_eq_decide]
  omega

set_option maxHeartbeats 400000 in
theorem walk (a0 : Int) (a1 : Int) (a2 : Int) (w0 : (Lit.int .u32 a0).wf = true) (w1 : (Lit.int .u32 a1).wf = true) (w2 : (Lit.int .u32 a2).wf = true) (w : World) :
    Calls Try.prog 3 #[.int .u32 a0, .int .u32 a1, .int .u32 a2] w fun e w' => e = .returned (.bool true) ∧ Grown w w' := by
  have ha0 := bounds_u32 w0
  have ha1 := bounds_u32 w1
  have hm := and31 a1 ha1.1 ha1.2
  have h1 : 0 ≤ a1 % 2147483648 := by omega
  have h2 : a1 % 2147483648 < 2147483648 := by omega
  go_enter Try.func3, Try.ntmps3
  go_wp2_with fail
  generalize a1 % 2147483648 = d at *
  refine (before_any _ _ true _ bef_56).mono ?_
  rintro e w' ⟨rfl, rfl⟩
  by_cases hd : 0 < d
  · have hdd : decide (0 < d) = true := by simpa using hd
    go_wp2_with fail
    refine (before_any _ _ true _ (by rw [bef_fwd _ _ h1 h2]; simpa using hd)).mono ?_
    rintro e w' ⟨rfl, rfl⟩
    go_wp2_with fail
    refine (before_any _ _ true _ (by rw [bef_shift _ _ _ h1 h2]; simpa using hd)).mono ?_
    rintro e w' ⟨rfl, rfl⟩
    go_wp2_with fail
    refine (before_any _ _ true _ (by rw [bef_fwd _ _ h1 h2]; simpa using hd)).mono ?_
    rintro e w' ⟨rfl, rfl⟩
    go_wp2_with fail
    refine (before_any _ _ false _ (by rw [bef_bwd _ _ h1 h2])).mono ?_
    rintro e w' ⟨rfl, rfl⟩
    go_wp2_with fail
    go_ret
    exact ⟨rfl, Grown.refl _⟩
  · have hdd : decide (0 < d) = false := by simpa using hd
    go_wp2_with fail
    refine (before_any _ _ false _ (by rw [bef_fwd _ _ h1 h2]; simpa using hd)).mono ?_
    rintro e w' ⟨rfl, rfl⟩
    go_wp2_with fail
    refine (before_any _ _ false _ (by rw [bef_shift _ _ _ h1 h2]; simpa using hd)).mono ?_
    rintro e w' ⟨rfl, rfl⟩
    go_wp2_with fail
    refine (before_any _ _ false _ (by rw [bef_fwd _ _ h1 h2]; simpa using hd)).mono ?_
    rintro e w' ⟨rfl, rfl⟩
    go_wp2_with fail
    refine (before_any _ _ false _ (by rw [bef_bwd _ _ h1 h2])).mono ?_
    rintro e w' ⟨rfl, rfl⟩
    go_wp2_with fail
    go_ret
    exact ⟨rfl, Grown.refl _⟩

set_option maxRecDepth 100000 in
theorem lifted (os : Os) (started : os.Started) (H : Type) (enc : TypeId × Value → H) :
    ReturnsInHanded {} Try.checked os 3 .any (Rows.segRingSpec.pre6 enc Try.prog Try.f3 Rows.segRingRow.domain false) (Rows.segRingSpec.post enc Try.prog Try.f3 false true false false) := by
  refine returnsInHanded_of_change (C := Try.checked) own started (by kernel_rfl) Try.func3
    (ChangeSpec.witness6 (enc := enc) (C := Try.checked) false ⟨#[], #[.int .u32 0, .int .u32 0, .int .u32 0], []⟩ 8 (by kernel_rfl) (by kernel_rfl) (by kernel_rfl) (by kernel_rfl)) ?_
  intro W base args ds gs before hval0 hW hcnd _
  have hval : ∀ (j : Nat) t v, Try.f3.params[j]? = some t → args[j]? = some v → Value.okWide Try.prog W .any base t v := hval0
  have hW' := hW
  obtain ⟨p, q, hA0, hV, rfl, hfz, hnd⟩ := hW
  have hA : DataW.TrodAll enc Try.prog W 0 (fun _ => true) true Try.f3.params.toList args.toList ds p := hA0
  rw [Try.params3] at hA hval
  obtain ⟨v0, vs0, d0, ds0, p0, q0, hargs, rfl, rfl, h0, r0⟩ := trodAll_cons hA
  obtain ⟨v1, vs1, d1, ds1, p1, q1, rfl, rfl, rfl, h1, r1⟩ := trodAll_cons r0
  obtain ⟨v2, vs2, d2, ds2, p2, q2, rfl, rfl, rfl, h2, r2⟩ := trodAll_cons r1
  obtain ⟨rfl, rfl, rfl⟩ := trodAll_nil r2
  obtain rfl : args = #[v0, v1, v2] := by cases args; simp_all
  obtain ⟨rfl, rfl⟩ := trodVars_none hV
  obtain ⟨a0, rfl, rfl, rfl, w0⟩ := open_int Try.underlying22 (hval 0 22 v0 rfl rfl) h0
  obtain ⟨a1, rfl, rfl, rfl, w1⟩ := open_int Try.underlying22 (hval 1 22 v1 rfl rfl) h1
  obtain ⟨a2, rfl, rfl, rfl, w2⟩ := open_int Try.underlying22 (hval 2 22 v2 rfl rfl) h2
  clear hA0 hval0
  simp only [List.append_nil] at hW'
  refine (walk a0 a1 a2 w0 w1 w2 W).mono fun e W' ⟨he, hg⟩ => ?_
  subst he
  exact ⟨_, rfl, post_of_same (pa := []) (pv := []) hW' (fun _ _ _ => (trodAll_cons_mk (shut_bool Try.underlying4 _) trodAll_mk0)) (fun sp _ => (trodAll_cons_mk (shut_int Try.underlying22 w0) (trodAll_cons_mk (shut_int Try.underlying22 w1) (trodAll_cons_mk (shut_int Try.underlying22 w2) trodAll_mk0)))) (fun _ _ => rfl) rfl
    (hg.frame _) hg.2.1 (ok_one (by kernel_rfl) rfl (okWide_bool_mk Try.underlying4 _))⟩

theorem over : Rows.segRingRow.holds Try.pinned (OpenSpec.ofChange Rows.segRingSpec) :=
  OpenClaim.holds_of_wide 3 Try.f3 rfl rfl rfl rfl rfl rfl rfl ⟨rfl, rfl, rfl, rfl, rfl⟩ rfl rfl rfl rfl rfl (by kernel_rfl) Try.func3 (by kernel_rfl)
    (of_decide_eq_true (by kernel_rfl)) (by unfold Func.isWrapper; first | (rw [if_pos (by decide +kernel)]; kernel_rfl) | (rw [if_neg (by decide +kernel)]; exact ⟨rfl, rfl⟩))
    (fun os started H enc _ => lifted os started H enc)

theorem proved : Rows.SegRingSaid :=
  over
#print axioms proved
end Go.Proofs.Ytpohoaehaejphaa.segRing
