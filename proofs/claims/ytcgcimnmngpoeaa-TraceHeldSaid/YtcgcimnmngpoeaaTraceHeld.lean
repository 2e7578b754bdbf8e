/- A lock that is taken and freed is not held any more, and all other locks are held as before: the law TraceHeld returns true for every input. No condition. -/
import Derived.Test.YtcgcimnmngpoeaaTraceHeldW
import Derived.Test.YtcgcimnmngpoeaaTraceOpen
namespace Go.Proofs.Ytcgcimnmngpoeaa
open Go.RowKit
set_option linter.unusedVariables false

theorem Blk.reads8 {w : World} {g : Nat} {t : TypeId} {a b c d a' b' c' d' : Value} (h : Blk w g t #[a, b, c, d, a', b', c', d']) : Reads w w.heap.size 4 (some ⟨g, 0, none⟩) 2 [a, b, c, d, a', b', c', d'] := by
  refine ⟨by simp, fun _ => ⟨_, rfl, h.lt, fun j u hu => ?_⟩⟩
  rw [add_lit, Nat.zero_add, h.cell]
  simpa using hu
theorem own_nil {w : World} {base size n c : Nat} {e : TypeId} {A : Option Addr} {xs : List Value} (h : w.ownsRow base e size (.slice A n c) n xs) (hA : A = none) : n = 0 := by
  obtain ⟨A', c', hv, _, _, h3⟩ := own_form h
  injection hv with e1 e2 e3
  exact (h3 (e1.symm.trans hA)).1

set_option maxHeartbeats 8000000 in
set_option maxRecDepth 100000 in
theorem heldLaw_walk (l : List RecD) (fits : ∀ r ∈ l, r.Fits) (A : Option Addr) (n c : Nat) (z y : Int) (w : World) (hr : Reads w w.heap.size 4 A n (recsV l)) (hn : l.length = n) (hnc : n ≤ c) (hc : c ≤ maxLen) (z1 : -9223372036854775808 ≤ z) (z2 : z ≤ 9223372036854775807) (y1 : -9223372036854775808 ≤ y) (y2 : y ≤ 9223372036854775807) :
    Calls Try.prog 6 #[.slice A n c, .int .i64 z, .int .i64 y] w fun e w' => e = .returned (.bool true) ∧ Ext w w' := by
  obtain ⟨i0, hi0, hz0, hz1, hz2⟩ := info_parts rec_info
  obtain ⟨j0, hj0, jz0, jz1, jz2⟩ := info_parts int_info
  have HREC := hide (records_any l fits A n c w.heap.size w hr (Nat.le_refl _) hn hnc hc)
  clear hr fits hn
  go_enter Try.func6, Try.ntmps6
  go_wp2_with fail
  refine HREC.out.mono ?_
  rintro e w1 ⟨N, A0, c0, hN, rfl, ho1, hx1⟩
  have hN60 : N ≤ 60 := by omega
  have HO1 := hide ho1
  have HX1 := hide hx1
  have HIN := hide (normT_at l)
  have HLN := hide (show (normT l).length = N by have := ho1.1; rw [recsV_length] at this; omega)
  clear ho1 hx1 hN HREC
  generalize normT l = X at *
  go_wp2_with fail
  refine (rest_any z 4 _ z1 z2 (by omega) (by omega)).mono ?_
  rintro e w2 ⟨rfl, rfl⟩
  obtain ⟨t, ht, ht4⟩ : ∃ k : Nat, restZ z 4 = (k : Int) ∧ k < 4 := ⟨(restZ z 4).toNat, by have := restZ_lo z 4 (by omega); omega, by have := restZ_lo z 4 (by omega); have := restZ_hi z 4 (by omega); omega⟩
  rw [ht]
  clear ht z1 z2
  go_wp2_with fail
  refine (rest_any y 20 _ y1 y2 (by omega) (by omega)).mono ?_
  rintro e w2 ⟨rfl, rfl⟩
  obtain ⟨o, ho, ho20⟩ : ∃ k : Nat, restZ y 20 = (k : Int) ∧ k < 20 := ⟨(restZ y 20).toNat, by have := restZ_lo y 20 (by omega); omega, by have := restZ_lo y 20 (by omega); have := restZ_hi y 20 (by omega); omega⟩
  rw [ho]
  clear ho y1 y2
  have hc0 : N ≤ c0 := (own_le HO1.out).1
  have HOKX := hide (show ∀ r ∈ X, r.Ok from fun r hr => (HIN.out r hr).1)
  go_wp2_with fail
  refine (held_any X HOKX.out (1 + (t : Int)) A0 N c0 w1.heap.size w1 (Reads.of_own HO1.out) (Nat.le_refl _) HLN.out (by omega) hc0).mono ?_
  rintro e w2 ⟨ma, Aa, ca, rfl, hma, hoa, hxa⟩
  have HOA := hide hoa
  have HXA := hide hxa
  have HXw2 := hide (HX1.out.trans hxa)
  have HO2 := hide (hxa.own HO1.out)
  clear hoa hxa
  go_wp2_with fail
  refine (rclone_any A0 N c0 w2.heap.size (recsV X) w2 (Reads.of_own HO2.out) (recsV_one _) (Nat.le_refl _) (by omega) (own_nil HO2.out)).mono ?_
  rintro e w3 ⟨A3, c3, rfl, ho3, hx3⟩
  have HO3 := hide ho3
  have HX3 := hide hx3
  clear ho3 hx3
  have HB3 := hide (Blk.new w3 34 #[.int .i64 1, .int .i64 0, .int .i64 (1 + (t : Int)), .int .i64 (30 + (o : Int))])
  go_wp2_with (at_builtin; refine wpList_append_any _ rfl (.tmp 30) (.tmp 34) 23 rfl w2.heap.size 34 i0 _ 4 32 Try.underlying23 hi0 hz0 hz1 hz2 rfl (by omega) _ N (recsV X) rfl (HO3.out.alloc _) _ _ 1 1 [.int .i64 1, .int .i64 0, .int .i64 (1 + (t : Int)), .int .i64 (30 + (o : Int))] rfl HB3.out.reads4 (by simp [Value.oneCell']) (by simp only [maxLen]; omega) (by omega) (by have := HX3.out.size; simp; omega) ?_; intro A4 c4 w4 ho4 hg4 ha4)
  have HX4 := hide (show Ext w2 w4 from (HX3.out.alloc (recBox 1 0 (1 + (t : Int)) (30 + (o : Int)))).grown hg4 (fun j hj => (HO3.out.lt j hj).1))
  have HY4 := hide (show Reads w4 w4.heap.size 4 A4 (N + 1) (recsV (X ++ [(⟨1, 0, 1 + (t : Int), 30 + (o : Int)⟩ : RecD)])) by rw [recsV_append]; exact Reads.of_own ho4)
  have hc4 : N + 1 ≤ c4 := (own_le ho4).1
  have HL4 := hide (show (X ++ [(⟨1, 0, 1 + (t : Int), 30 + (o : Int)⟩ : RecD)]).length = N + 1 by simp [HLN.out])
  clear ho4 hg4 ha4 HB3
  have HOK4 := hide (show ∀ r ∈ X ++ [(⟨1, 0, 1 + (t : Int), 30 + (o : Int)⟩ : RecD)], r.Ok from fun r hr => by
    rcases List.mem_append.1 hr with hr | hr
    · exact HOKX.out r hr
    · rw [List.mem_singleton.1 hr]; constructor <;> simp <;> omega)
  refine (held_any _ HOK4.out (1 + (t : Int)) A4 (N + 1) c4 w4.heap.size w4 HY4.out (Nat.le_refl _) HL4.out (by omega) hc4).mono ?_
  rintro e w5 ⟨mb, Ab, cb, rfl, hmb, hob, hxb⟩
  have HOB := hide hob
  have HX5 := hide (HX4.out.trans hxb)
  clear hob hxb HX3 HO3 HY4
  go_wp2_with fail
  have HO5 := hide (HX5.out.own HO2.out)
  refine (rclone_any A0 N c0 w5.heap.size (recsV X) w5 (Reads.of_own HO5.out) (recsV_one _) (Nat.le_refl _) (by omega) (own_nil HO5.out)).mono ?_
  rintro e w6 ⟨A6, c6, rfl, ho6, hx6⟩
  have HO6 := hide ho6
  have HX6 := hide hx6
  clear ho6 hx6
  have HB6 := hide (Blk.new w6 34 #[.int .i64 1, .int .i64 0, .int .i64 (1 + (t : Int)), .int .i64 (30 + (o : Int)), .int .i64 2, .int .i64 0, .int .i64 (1 + (t : Int)), .int .i64 (30 + (o : Int))])
  go_wp2_with (at_builtin; refine wpList_append_any _ rfl (.tmp 42) (.tmp 49) 23 rfl w5.heap.size 34 i0 _ 4 32 Try.underlying23 hi0 hz0 hz1 hz2 rfl (by omega) _ N (recsV X) rfl (HO6.out.alloc _) _ _ 2 2 [.int .i64 1, .int .i64 0, .int .i64 (1 + (t : Int)), .int .i64 (30 + (o : Int)), .int .i64 2, .int .i64 0, .int .i64 (1 + (t : Int)), .int .i64 (30 + (o : Int))] rfl HB6.out.reads8 (by simp [Value.oneCell']) (by simp only [maxLen]; omega) (by omega) (by have := HX6.out.size; simp; omega) ?_; intro A7 c7 w7 ho7 hg7 ha7)
  have HX7 := hide (show Ext w5 w7 from (HX6.out.alloc _).grown hg7 (fun j hj => (HO6.out.lt j hj).1))
  have HY7 := hide (show Reads w7 w7.heap.size 4 A7 (N + 2) (recsV (X ++ [(⟨1, 0, 1 + (t : Int), 30 + (o : Int)⟩ : RecD), ⟨2, 0, 1 + (t : Int), 30 + (o : Int)⟩])) by rw [recsV_append]; exact Reads.of_own ho7)
  have hc7 : N + 2 ≤ c7 := (own_le ho7).1
  have HL7 := hide (show (X ++ [(⟨1, 0, 1 + (t : Int), 30 + (o : Int)⟩ : RecD), ⟨2, 0, 1 + (t : Int), 30 + (o : Int)⟩]).length = N + 2 by simp [HLN.out])
  clear ho7 hg7 ha7 HB6
  have HOK7 := hide (show ∀ r ∈ X ++ [(⟨1, 0, 1 + (t : Int), 30 + (o : Int)⟩ : RecD), ⟨2, 0, 1 + (t : Int), 30 + (o : Int)⟩], r.Ok from fun r hr => by
    rcases List.mem_append.1 hr with hr | hr
    · exact HOKX.out r hr
    · simp only [List.mem_cons, List.not_mem_nil, or_false] at hr
      rcases hr with rfl | rfl <;> (constructor <;> simp <;> omega))
  refine (held_any _ HOK7.out (1 + (t : Int)) A7 (N + 2) c7 w7.heap.size w7 HY7.out (Nat.le_refl _) HL7.out (by omega) hc7).mono ?_
  rintro e w8 ⟨mc, Ac, cc, rfl, hmc, hoc, hxc⟩
  have hx58 : Ext w5 w8 := HX7.out.trans hxc
  have hx28 : Ext w2 w8 := HX5.out.trans hx58
  have HOC := hide hoc
  have HOA8 := hide (hx28.own HOA.out)
  have HOB8 := hide (hx58.own HOB.out)
  have HX8 := hide (HXw2.out.trans hx28)
  have HEB := hide (show heldF (X ++ [(⟨1, 0, 1 + (t : Int), 30 + (o : Int)⟩ : RecD)]) (1 + (t : Int)) = heldF X (1 + (t : Int)) ++ [30 + (o : Int)] by rw [heldF_snoc]; simp [heldS])
  have HEC := hide (show heldF (X ++ [(⟨1, 0, 1 + (t : Int), 30 + (o : Int)⟩ : RecD), ⟨2, 0, 1 + (t : Int), 30 + (o : Int)⟩]) (1 + (t : Int)) = heldF X (1 + (t : Int)) by
    have hnot : (30 + (o : Int)) ∉ heldF X (1 + (t : Int)) := fun h => by have := heldF_obj X (1 + (t : Int)) (fun r hr => (HIN.out r hr).2) _ h; omega
    rw [show X ++ [(⟨1, 0, 1 + (t : Int), 30 + (o : Int)⟩ : RecD), ⟨2, 0, 1 + (t : Int), 30 + (o : Int)⟩] = (X ++ [(⟨1, 0, 1 + (t : Int), 30 + (o : Int)⟩ : RecD)]) ++ [⟨2, 0, 1 + (t : Int), 30 + (o : Int)⟩] by simp, heldF_snoc, HEB.out]
    simp only [heldS]
    rw [if_pos trivial, if_neg (by decide), if_pos trivial, List.erase_append_right _ hnot]
    simp)
  rw [HEB.out] at HOB8
  rw [HEC.out] at HOC
  clear hoc hxc hx58 hx28 HOA HOB HO1 HO2 HO5 HO6 HX7 HX5 HX4 HXA HX6 HEB HEC HOK4 HOK7 HY7 HOKX HIN HL4 HL7
  generalize heldF X (1 + (t : Int)) = f at *
  go_wp2_with fail
  refine (iclone_any Aa ma ca w8.heap.size (intsV f) w8 (Reads.of_own HOA8.out) (intsV_one _) (Nat.le_refl _) (by omega) (own_nil HOA8.out)).mono ?_
  rintro e w9 ⟨A9, c9, rfl, ho9, hx9⟩
  have HO9 := hide ho9
  have HX9 := hide hx9
  clear ho9 hx9
  have HB9 := hide (Blk.new w9 3 #[.int .i64 (30 + (o : Int))])
  go_wp2_with (at_builtin; refine wpList_append_any_g _ (by rfl) (.tmp 68) (.tmp 70) 40 rfl w8.heap.size 3 j0 _ 1 8 Try.underlying40 hj0 jz0 jz1 jz2 rfl (by omega) _ ma (intsV f) rfl (HO9.out.alloc _) _ _ 1 1 [.int .i64 (30 + (o : Int))] rfl HB9.out.reads (by simp [Value.oneCell']) (by simp only [maxLen]; omega) (by omega) (by have := HX9.out.size; simp; omega) ?_; intro A10 c10 w10 ho10 hg10 ha10)
  have hx10 : Ext w8 w10 := (HX9.out.alloc _).grown hg10 (fun j hj => (HO9.out.lt j hj).1)
  have HO10 := hide (show w10.ownsRow w8.heap.size 3 1 (.slice A10 (ma + 1) c10) (ma + 1) (intsV (f ++ [30 + (o : Int)])) by rw [intsV_append]; exact ho10)
  have HX10 := hide hx10
  clear ho10 hg10 ha10 hx10
  refine (equal_ints Ab mb cb _ (f ++ [30 + (o : Int)]) A10 (ma + 1) c10 _ (f ++ [30 + (o : Int)]) w10 (Reads.of_own (HX10.out.own HOB8.out)) (Reads.of_own HO10.out) (by simp only [maxLen]; omega) (by simp only [maxLen]; omega)).mono ?_
  rintro e w11 ⟨rfl, d, rfl⟩
  rw [show decide (f ++ [30 + (o : Int)] = f ++ [30 + (o : Int)]) = true by simp]
  go_wp2_with fail
  have hxd : Ext w10 (w10.drewN d) := (Ext.refl w10).drewN d
  refine (equal_ints Aa ma ca _ f Ac mc cc _ f _ (Reads.of_own (hxd.own (HX10.out.own HOA8.out))) (Reads.of_own (hxd.own (HX10.out.own HOC.out))) (by simp only [maxLen]; omega) (by simp only [maxLen]; omega)).mono ?_
  rintro e w12 ⟨rfl, d2, rfl⟩
  rw [show decide (f = f) = true by simp]
  go_wp2_with fail
  go_ret
  exact ⟨rfl, (HX8.out.trans HX10.out).drewN _⟩
end Go.Proofs.Ytcgcimnmngpoeaa
namespace Go.Proofs.Ytcgcimnmngpoeaa.traceHeld
open Go.ChangeShapes Go.WideShapes Go.ChangeAt Go.RowKit Go.Joins
set_option linter.unusedVariables false

theorem own : ownKnob Try.prog.godebug = none := by kernel_rfl
theorem laidOut : laidOutB Try.prog = true := by kernel_rfl

set_option maxRecDepth 100000 in
theorem lifted (os : Os) (started : os.Started) (H : Type) (enc : TypeId × Value → H) :
    ReturnsInHanded {} Try.checked os 6 .any (Rows.traceHeldSpec.pre6 enc Try.prog Try.f6 Rows.traceHeldRow.domain false) (Rows.traceHeldSpec.post enc Try.prog Try.f6 false true false false) := by
  refine returnsInHanded_of_change (C := Try.checked) own started (by kernel_rfl) Try.func6
    (ChangeSpec.witness6 (enc := enc) (C := Try.checked) false ⟨#[], #[.slice none 0 0, .int .i64 0, .int .i64 0], []⟩ 8 (by kernel_rfl) (by kernel_rfl) (by kernel_rfl) (by kernel_rfl)) ?_
  intro W base args ds gs before hval0 hW hcnd _
  have hval : ∀ (j : Nat) t v, Try.f6.params[j]? = some t → args[j]? = some v → Value.okWide Try.prog W .any base t v := hval0
  have hW' := hW
  obtain ⟨p, q, hA0, hV, rfl, hfz, hnd⟩ := hW
  have hA : DataW.TrodAll enc Try.prog W 0 (fun _ => true) true Try.f6.params.toList args.toList ds p := hA0
  rw [Try.params6] at hA hval
  obtain ⟨v0, vs0, d0, ds0, p0, q0, hargs, rfl, rfl, h0, r0⟩ := trodAll_cons hA
  obtain ⟨v1, vs1, d1, ds1, p1, q1, rfl, rfl, rfl, h1, r1⟩ := trodAll_cons r0
  obtain ⟨v2, vs2, d2, ds2, p2, q2, rfl, rfl, rfl, h2, r2⟩ := trodAll_cons r1
  obtain ⟨rfl, rfl, rfl⟩ := trodAll_nil r2
  obtain rfl : args = #[v0, v1, v2] := by cases args; simp_all
  obtain ⟨rfl, rfl⟩ := trodVars_none hV
  have k0 := h0
  have lt0 : ∀ x ∈ p0, x.block < W.heap.size := by obtain ⟨m, hm⟩ := k0; exact DataW.trod_lt m _ _ _ hm
  have k1 := h1
  have lt1 : ∀ x ∈ p1, x.block < W.heap.size := by obtain ⟨m, hm⟩ := k1; exact DataW.trod_lt m _ _ _ hm
  have k2 := h2
  have lt2 : ∀ x ∈ p2, x.block < W.heap.size := by obtain ⟨m, hm⟩ := k2; exact DataW.trod_lt m _ _ _ hm
  obtain ⟨z1, rfl, rfl, rfl, w1⟩ := open_int Try.underlying3 (hval 1 3 v1 rfl rfl) h1
  have b1 := bounds_i64 w1
  obtain ⟨z2, rfl, rfl, rfl, w2⟩ := open_int Try.underlying3 (hval 2 3 v2 rfl rfl) h2
  have b2 := bounds_i64 w2
  obtain ⟨a0, len0, cap0, rfl⟩ := okWide_slice Try.underlying23 (hval 0 23 v0 rfl rfl)
  obtain ⟨fuel0, hf0⟩ := h0
  obtain ⟨A0, n0, c0, l0, e0, hn0, hc0, hl0, hfit, hr0⟩ := open_recs hf0
  rw [e0]
  clear hA0 hval0
  refine (heldLaw_walk l0 hfit A0 n0 c0 z1 z2 W hr0 hl0 hn0 hc0 b1.1 b1.2 b2.1 b2.2).mono fun e W' ⟨he, hx⟩ => ?_
  subst he
  have bel := hx.below
  rw [← e0]
  exact ⟨_, rfl, _, _, _, [], _, [], hW', trodAll_mk1 (shut_bool Try.underlying4 _), (trodAll_cons_mk (Below.trod laidOut (by kernel_rfl) (of_decide_eq_true (by kernel_rfl)) k0 bel lt0) (trodAll_cons_mk (Below.trod laidOut (by kernel_rfl) (of_decide_eq_true (by kernel_rfl)) k1 bel lt1) (trodAll_cons_mk (Below.trod laidOut (by kernel_rfl) (of_decide_eq_true (by kernel_rfl)) k2 bel lt2) trodAll_mk0))), rfl, bel.frame _, fun h => by cases h⟩

theorem over : Rows.traceHeldRow.holds Try.pinned (OpenSpec.ofChange Rows.traceHeldSpec) :=
  OpenClaim.holds_of_wide 6 Try.f6 rfl rfl rfl rfl rfl rfl rfl ⟨rfl, rfl, rfl, rfl, rfl⟩ rfl rfl rfl rfl rfl (by kernel_rfl) Try.func6 (by kernel_rfl)
    (of_decide_eq_true (by kernel_rfl)) (by unfold Func.isWrapper; first | (rw [if_pos (by decide +kernel)]; kernel_rfl) | (rw [if_neg (by decide +kernel)]; exact ⟨rfl, rfl⟩))
    (fun os started H enc _ => lifted os started H enc)

theorem proved : Rows.TraceHeldSaid :=
  over
#print axioms proved
end Go.Proofs.Ytcgcimnmngpoeaa.traceHeld
