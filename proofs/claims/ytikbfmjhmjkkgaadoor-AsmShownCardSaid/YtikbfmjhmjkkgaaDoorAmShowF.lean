/- The contract of asm.Show (printed by gen_show.py). -/
import Derived.Test.YtikbfmjhmjkkgaaDoorAmDec
import Derived.Test.YtikbfmjhmjkkgaaDoorAmCode2
namespace Go.Proofs.YtikbfmjhmjkkgaaDoor
open Go.RowKit
set_option linter.unusedVariables false

theorem addS (a b : Bs) (h : a.length + b.length ≤ 1000000) (W : World) : (Op.stringOp .add (str a) (str b)).run Tryd.prog W = .ok (.string (str (a ++ b))) W := by
  rw [← str_append]
  exact run_string_add_sum W _ _ (by rw [str_size, str_size]; omega)
theorem show_no {v : Nat} (h : ¬ okW v) : showL v = [119, 111, 114, 100, 32] ++ Lib.itoa v := by
  unfold showL headW tailW
  rw [if_neg h, if_neg h]
  simp [sp, wordB]
theorem show_yes {v : Nat} (h : okW v) : showL v = (rowN (opN v)).1 ++ (sp (tokA v) ++ (sp (tokB v) ++ sp (tokC v))) := by
  unfold showL headW tailW
  rw [if_pos h, if_pos h]
  simp [sp]
theorem sp_A (v : Nat) : (fN v % 2 = 1 → sp (tokA v) = [32, 114] ++ Lib.itoa (aN v)) ∧ (¬ fN v % 2 = 1 → sp (tokA v) = []) := by
  unfold tokA
  exact ⟨fun h => by rw [if_pos h]; simp [sp], fun h => by rw [if_neg h]; rfl⟩
theorem sp_B (v : Nat) : (fN v / 2 % 2 = 1 → sp (tokB v) = [32, 114] ++ Lib.itoa (bN v)) ∧ (¬ fN v / 2 % 2 = 1 → sp (tokB v) = []) := by
  unfold tokB
  exact ⟨fun h => by rw [if_pos h]; simp [sp], fun h => by rw [if_neg h]; rfl⟩
theorem sp_C (v : Nat) : (fN v / 4 % 2 = 1 → sp (tokC v) = [32] ++ Lib.itoa (cI v)) ∧ (¬ fN v / 4 % 2 = 1 → sp (tokC v) = []) := by
  unfold tokC
  exact ⟨fun h => by rw [if_pos h]; simp [sp], fun h => by rw [if_neg h]; rfl⟩
set_option maxHeartbeats 16000000 in
set_option maxRecDepth 100000 in
theorem show_any (v : Nat) (hv : v ≤ 4294967295) (w : World) (hL : LibOk w) :
    Calls Tryd.prog 12 #[.int .u32 (v : Int)] w fun e w' => e = .returned (.string (str (showL v))) ∧ Ext w w' := by
  have HL := hide hL
  clear hL
  go_enter Tryd.func12, Tryd.ntmps12
  go_wp2_with fail
  refine (decode_any v hv w).mono ?_
  rintro e w1 ⟨ho, hx1⟩
  unfold DecOut at ho
  by_cases hok : okW v
  · rw [if_pos hok] at ho
    unfold decV at ho
    subst ho
    have HX1 := hide hx1
    have hop := op_in hok
    have HSH := hide (show_yes hok)
    have HSA := hide (sp_A v)
    have HSB := hide (sp_B v)
    have HSC := hide (sp_C v)
    have HNM := hide (fun W => name_op (opN v) hop.1 hop.2 W)
    have HFI := hide (fun W => fields_op (opN v) hop.1 hop.2 W)
    have HF := hide (show (rowN (opN v)).2 = fN v from rfl)
    rw [HF.out] at HFI
    have hF7 : fN v ≤ 7 := rowN_le (opN v)
    have hn6 := (name_show ⟨opN v, by omega⟩ (by show opN v ≠ 0; omega)).2.2.2
    dsimp only at hn6
    have hc := cI_range v
    have la := itoa_len (aN v : Int) (by unfold aN; omega)
    have lb := itoa_len (bN v : Int) (by unfold bN; omega)
    have lc := itoa_len (cI v) (by omega)
    have HIA := hide (fun W h => itoa_lib (aN v : Int) (by unfold aN; omega) (by unfold aN; omega) W h)
    have HIB := hide (fun W h => itoa_lib (bN v : Int) (by unfold bN; omega) (by unfold bN; omega) W h)
    have HIC := hide (fun W h => itoa_lib (cI v) (by omega) (by omega) W h)
    have b1 := bits_1 (fN v) hF7
    have b2 := bits_2 (fN v) hF7
    have b4 := bits_4 (fN v) hF7
    clear hx1 hop hc hok
    generalize sp (tokA v) = tA at *
    generalize sp (tokB v) = tB at *
    generalize sp (tokC v) = tC at *
    generalize (rowN (opN v)).1 = nm at *
    generalize Lib.itoa (aN v : Int) = ia at *
    generalize Lib.itoa (bN v : Int) = ib at *
    generalize Lib.itoa (cI v) = ic at *
    generalize fN v = F at *
    generalize opN v = o at *
    generalize aN v = a at *
    generalize bN v = b at *
    generalize cI v = c at *
    have HB0 := hide (Blk.new w1 62 #[.int .i64 (o : Int), .int .i64 (a : Int), .int .i64 (b : Int), .int .i64 c])
    have HX0 := hide (HX1.out.alloc (.cells #[.int .i64 (o : Int), .int .i64 (a : Int), .int .i64 (b : Int), .int .i64 c] 62))
    go_upto_region 2 with fail
    generalize w1.alloc (.cells #[.int .i64 (o : Int), .int .i64 (a : Int), .int .i64 (b : Int), .int .i64 c] 62) = U0 at *
    obtain ⟨g, hg⟩ : ∃ x, w1.heap.size = x := ⟨_, rfl⟩
    rw [hg] at HB0
    rw [hg]
    clear hg
    have y00 := HB0.out.cell 0
    have y01 := HB0.out.cell 1
    have y02 := HB0.out.cell 2
    have y03 := HB0.out.cell 3
    go_wp2_with fail
    refine (HNM.out _).mono ?_
    rintro e w2 ⟨rfl, hw2⟩
    subst hw2
    go_wp2_with fail
    refine (HFI.out _).mono ?_
    rintro e w2 ⟨rfl, hw2⟩
    subst hw2
    by_cases hA : F % 2 = 1
    · by_cases hB : F / 2 % 2 = 1
      · by_cases hC : F / 4 % 2 = 1
        · have c1 : bits BinOp.and IntKind.i64 (F : Int) 1 = 1 := by rw [b1]; omega
          have c2 : bits BinOp.and IntKind.i64 (F : Int) 2 = 2 := by rw [b2]; omega
          have c4 : bits BinOp.and IntKind.i64 (F : Int) 4 = 4 := by rw [b4]; omega
          have q1 := HSA.out.1 hA
          have q2 := HSB.out.1 hB
          have q4 := HSC.out.1 hC
          have HEQ := hide (show showL v = (nm ++ 32 :: 114 :: (ia ++ 32 :: 114 :: (ib ++ 32 :: ic))) from by rw [HSH.out, q1, q2, q4]; simp)
          have p1 : ∀ W : World, (Op.stringOp .add (⟨#[32, 114]⟩ : ByteArray) (str ia)).run Tryd.prog W = .ok (.string (str (32 :: 114 :: ia))) W := fun W => addS [32, 114] ia (by simp; omega) W
          have r1 : ∀ W : World, (Op.stringOp .add (str nm) (str (32 :: 114 :: ia))).run Tryd.prog W = .ok (.string (str (nm ++ 32 :: 114 :: ia))) W := fun W => by rw [addS nm (32 :: 114 :: ia) (by simp; omega) W] <;> (try simp)
          have p2 : ∀ W : World, (Op.stringOp .add (⟨#[32, 114]⟩ : ByteArray) (str ib)).run Tryd.prog W = .ok (.string (str (32 :: 114 :: ib))) W := fun W => addS [32, 114] ib (by simp; omega) W
          have r2 : ∀ W : World, (Op.stringOp .add (str (nm ++ 32 :: 114 :: ia)) (str (32 :: 114 :: ib))).run Tryd.prog W = .ok (.string (str (nm ++ 32 :: 114 :: (ia ++ 32 :: 114 :: ib)))) W := fun W => by rw [addS (nm ++ 32 :: 114 :: ia) (32 :: 114 :: ib) (by simp; omega) W] <;> (try simp)
          have p3 : ∀ W : World, (Op.stringOp .add (⟨#[32]⟩ : ByteArray) (str ic)).run Tryd.prog W = .ok (.string (str (32 :: ic))) W := fun W => addS [32] ic (by simp; omega) W
          have r3 : ∀ W : World, (Op.stringOp .add (str (nm ++ 32 :: 114 :: (ia ++ 32 :: 114 :: ib))) (str (32 :: ic))).run Tryd.prog W = .ok (.string (str (nm ++ 32 :: 114 :: (ia ++ 32 :: 114 :: (ib ++ 32 :: ic))))) W := fun W => by rw [addS (nm ++ 32 :: 114 :: (ia ++ 32 :: 114 :: ib)) (32 :: ic) (by simp; omega) W] <;> (try simp)
          clear b1 b2 b4 q1 q2 q4 hA hB hC
          go_wp2_with fail
          refine (HIA.out _ (HL.out.ext HX0.out)).mono ?_
          rintro e U1 ⟨rfl, hu1⟩
          have HX1 := hide (HX0.out.trans hu1)
          have HB1 := hide (HB0.out.ext hu1)
          have y10 := HB1.out.cell 0
          have y11 := HB1.out.cell 1
          have y12 := HB1.out.cell 2
          have y13 := HB1.out.cell 3
          clear hu1
          go_wp2_with fail
          refine (HIB.out _ (HL.out.ext HX1.out)).mono ?_
          rintro e U2 ⟨rfl, hu2⟩
          have HX2 := hide (HX1.out.trans hu2)
          have HB2 := hide (HB1.out.ext hu2)
          have y20 := HB2.out.cell 0
          have y21 := HB2.out.cell 1
          have y22 := HB2.out.cell 2
          have y23 := HB2.out.cell 3
          clear hu2
          go_wp2_with fail
          refine (HIC.out _ (HL.out.ext HX2.out)).mono ?_
          rintro e U3 ⟨rfl, hu3⟩
          have HX3 := hide (HX2.out.trans hu3)
          have HB3 := hide (HB2.out.ext hu3)
          have y30 := HB3.out.cell 0
          have y31 := HB3.out.cell 1
          have y32 := HB3.out.cell 2
          have y33 := HB3.out.cell 3
          clear hu3
          go_wp2_with fail
          go_ret
          exact ⟨by rw [HEQ.out] <;> (first | done | rfl | simp), HX3.out⟩
        · have c1 : bits BinOp.and IntKind.i64 (F : Int) 1 = 1 := by rw [b1]; omega
          have c2 : bits BinOp.and IntKind.i64 (F : Int) 2 = 2 := by rw [b2]; omega
          have c4 : bits BinOp.and IntKind.i64 (F : Int) 4 = 0 := by rw [b4]; omega
          have q1 := HSA.out.1 hA
          have q2 := HSB.out.1 hB
          have q4 := HSC.out.2 hC
          have HEQ := hide (show showL v = (nm ++ 32 :: 114 :: (ia ++ 32 :: 114 :: ib)) from by rw [HSH.out, q1, q2, q4]; simp)
          have p1 : ∀ W : World, (Op.stringOp .add (⟨#[32, 114]⟩ : ByteArray) (str ia)).run Tryd.prog W = .ok (.string (str (32 :: 114 :: ia))) W := fun W => addS [32, 114] ia (by simp; omega) W
          have r1 : ∀ W : World, (Op.stringOp .add (str nm) (str (32 :: 114 :: ia))).run Tryd.prog W = .ok (.string (str (nm ++ 32 :: 114 :: ia))) W := fun W => by rw [addS nm (32 :: 114 :: ia) (by simp; omega) W] <;> (try simp)
          have p2 : ∀ W : World, (Op.stringOp .add (⟨#[32, 114]⟩ : ByteArray) (str ib)).run Tryd.prog W = .ok (.string (str (32 :: 114 :: ib))) W := fun W => addS [32, 114] ib (by simp; omega) W
          have r2 : ∀ W : World, (Op.stringOp .add (str (nm ++ 32 :: 114 :: ia)) (str (32 :: 114 :: ib))).run Tryd.prog W = .ok (.string (str (nm ++ 32 :: 114 :: (ia ++ 32 :: 114 :: ib)))) W := fun W => by rw [addS (nm ++ 32 :: 114 :: ia) (32 :: 114 :: ib) (by simp; omega) W] <;> (try simp)
          clear b1 b2 b4 q1 q2 q4 hA hB hC
          go_wp2_with fail
          refine (HIA.out _ (HL.out.ext HX0.out)).mono ?_
          rintro e U1 ⟨rfl, hu1⟩
          have HX1 := hide (HX0.out.trans hu1)
          have HB1 := hide (HB0.out.ext hu1)
          have y10 := HB1.out.cell 0
          have y11 := HB1.out.cell 1
          have y12 := HB1.out.cell 2
          have y13 := HB1.out.cell 3
          clear hu1
          go_wp2_with fail
          refine (HIB.out _ (HL.out.ext HX1.out)).mono ?_
          rintro e U2 ⟨rfl, hu2⟩
          have HX2 := hide (HX1.out.trans hu2)
          have HB2 := hide (HB1.out.ext hu2)
          have y20 := HB2.out.cell 0
          have y21 := HB2.out.cell 1
          have y22 := HB2.out.cell 2
          have y23 := HB2.out.cell 3
          clear hu2
          go_wp2_with fail
          go_ret
          exact ⟨by rw [HEQ.out] <;> (first | done | rfl | simp), HX2.out⟩
      · by_cases hC : F / 4 % 2 = 1
        · have c1 : bits BinOp.and IntKind.i64 (F : Int) 1 = 1 := by rw [b1]; omega
          have c2 : bits BinOp.and IntKind.i64 (F : Int) 2 = 0 := by rw [b2]; omega
          have c4 : bits BinOp.and IntKind.i64 (F : Int) 4 = 4 := by rw [b4]; omega
          have q1 := HSA.out.1 hA
          have q2 := HSB.out.2 hB
          have q4 := HSC.out.1 hC
          have HEQ := hide (show showL v = (nm ++ 32 :: 114 :: (ia ++ 32 :: ic)) from by rw [HSH.out, q1, q2, q4]; simp)
          have p1 : ∀ W : World, (Op.stringOp .add (⟨#[32, 114]⟩ : ByteArray) (str ia)).run Tryd.prog W = .ok (.string (str (32 :: 114 :: ia))) W := fun W => addS [32, 114] ia (by simp; omega) W
          have r1 : ∀ W : World, (Op.stringOp .add (str nm) (str (32 :: 114 :: ia))).run Tryd.prog W = .ok (.string (str (nm ++ 32 :: 114 :: ia))) W := fun W => by rw [addS nm (32 :: 114 :: ia) (by simp; omega) W] <;> (try simp)
          have p2 : ∀ W : World, (Op.stringOp .add (⟨#[32]⟩ : ByteArray) (str ic)).run Tryd.prog W = .ok (.string (str (32 :: ic))) W := fun W => addS [32] ic (by simp; omega) W
          have r2 : ∀ W : World, (Op.stringOp .add (str (nm ++ 32 :: 114 :: ia)) (str (32 :: ic))).run Tryd.prog W = .ok (.string (str (nm ++ 32 :: 114 :: (ia ++ 32 :: ic)))) W := fun W => by rw [addS (nm ++ 32 :: 114 :: ia) (32 :: ic) (by simp; omega) W] <;> (try simp)
          clear b1 b2 b4 q1 q2 q4 hA hB hC
          go_wp2_with fail
          refine (HIA.out _ (HL.out.ext HX0.out)).mono ?_
          rintro e U1 ⟨rfl, hu1⟩
          have HX1 := hide (HX0.out.trans hu1)
          have HB1 := hide (HB0.out.ext hu1)
          have y10 := HB1.out.cell 0
          have y11 := HB1.out.cell 1
          have y12 := HB1.out.cell 2
          have y13 := HB1.out.cell 3
          clear hu1
          go_wp2_with fail
          refine (HIC.out _ (HL.out.ext HX1.out)).mono ?_
          rintro e U2 ⟨rfl, hu2⟩
          have HX2 := hide (HX1.out.trans hu2)
          have HB2 := hide (HB1.out.ext hu2)
          have y20 := HB2.out.cell 0
          have y21 := HB2.out.cell 1
          have y22 := HB2.out.cell 2
          have y23 := HB2.out.cell 3
          clear hu2
          go_wp2_with fail
          go_ret
          exact ⟨by rw [HEQ.out] <;> (first | done | rfl | simp), HX2.out⟩
        · have c1 : bits BinOp.and IntKind.i64 (F : Int) 1 = 1 := by rw [b1]; omega
          have c2 : bits BinOp.and IntKind.i64 (F : Int) 2 = 0 := by rw [b2]; omega
          have c4 : bits BinOp.and IntKind.i64 (F : Int) 4 = 0 := by rw [b4]; omega
          have q1 := HSA.out.1 hA
          have q2 := HSB.out.2 hB
          have q4 := HSC.out.2 hC
          have HEQ := hide (show showL v = (nm ++ 32 :: 114 :: ia) from by rw [HSH.out, q1, q2, q4]; simp)
          have p1 : ∀ W : World, (Op.stringOp .add (⟨#[32, 114]⟩ : ByteArray) (str ia)).run Tryd.prog W = .ok (.string (str (32 :: 114 :: ia))) W := fun W => addS [32, 114] ia (by simp; omega) W
          have r1 : ∀ W : World, (Op.stringOp .add (str nm) (str (32 :: 114 :: ia))).run Tryd.prog W = .ok (.string (str (nm ++ 32 :: 114 :: ia))) W := fun W => by rw [addS nm (32 :: 114 :: ia) (by simp; omega) W] <;> (try simp)
          clear b1 b2 b4 q1 q2 q4 hA hB hC
          go_wp2_with fail
          refine (HIA.out _ (HL.out.ext HX0.out)).mono ?_
          rintro e U1 ⟨rfl, hu1⟩
          have HX1 := hide (HX0.out.trans hu1)
          have HB1 := hide (HB0.out.ext hu1)
          have y10 := HB1.out.cell 0
          have y11 := HB1.out.cell 1
          have y12 := HB1.out.cell 2
          have y13 := HB1.out.cell 3
          clear hu1
          go_wp2_with fail
          go_ret
          exact ⟨by rw [HEQ.out] <;> (first | done | rfl | simp), HX1.out⟩
    · by_cases hB : F / 2 % 2 = 1
      · by_cases hC : F / 4 % 2 = 1
        · have c1 : bits BinOp.and IntKind.i64 (F : Int) 1 = 0 := by rw [b1]; omega
          have c2 : bits BinOp.and IntKind.i64 (F : Int) 2 = 2 := by rw [b2]; omega
          have c4 : bits BinOp.and IntKind.i64 (F : Int) 4 = 4 := by rw [b4]; omega
          have q1 := HSA.out.2 hA
          have q2 := HSB.out.1 hB
          have q4 := HSC.out.1 hC
          have HEQ := hide (show showL v = (nm ++ 32 :: 114 :: (ib ++ 32 :: ic)) from by rw [HSH.out, q1, q2, q4]; simp)
          have p1 : ∀ W : World, (Op.stringOp .add (⟨#[32, 114]⟩ : ByteArray) (str ib)).run Tryd.prog W = .ok (.string (str (32 :: 114 :: ib))) W := fun W => addS [32, 114] ib (by simp; omega) W
          have r1 : ∀ W : World, (Op.stringOp .add (str nm) (str (32 :: 114 :: ib))).run Tryd.prog W = .ok (.string (str (nm ++ 32 :: 114 :: ib))) W := fun W => by rw [addS nm (32 :: 114 :: ib) (by simp; omega) W] <;> (try simp)
          have p2 : ∀ W : World, (Op.stringOp .add (⟨#[32]⟩ : ByteArray) (str ic)).run Tryd.prog W = .ok (.string (str (32 :: ic))) W := fun W => addS [32] ic (by simp; omega) W
          have r2 : ∀ W : World, (Op.stringOp .add (str (nm ++ 32 :: 114 :: ib)) (str (32 :: ic))).run Tryd.prog W = .ok (.string (str (nm ++ 32 :: 114 :: (ib ++ 32 :: ic)))) W := fun W => by rw [addS (nm ++ 32 :: 114 :: ib) (32 :: ic) (by simp; omega) W] <;> (try simp)
          clear b1 b2 b4 q1 q2 q4 hA hB hC
          go_wp2_with fail
          refine (HIB.out _ (HL.out.ext HX0.out)).mono ?_
          rintro e U1 ⟨rfl, hu1⟩
          have HX1 := hide (HX0.out.trans hu1)
          have HB1 := hide (HB0.out.ext hu1)
          have y10 := HB1.out.cell 0
          have y11 := HB1.out.cell 1
          have y12 := HB1.out.cell 2
          have y13 := HB1.out.cell 3
          clear hu1
          go_wp2_with fail
          refine (HIC.out _ (HL.out.ext HX1.out)).mono ?_
          rintro e U2 ⟨rfl, hu2⟩
          have HX2 := hide (HX1.out.trans hu2)
          have HB2 := hide (HB1.out.ext hu2)
          have y20 := HB2.out.cell 0
          have y21 := HB2.out.cell 1
          have y22 := HB2.out.cell 2
          have y23 := HB2.out.cell 3
          clear hu2
          go_wp2_with fail
          go_ret
          exact ⟨by rw [HEQ.out] <;> (first | done | rfl | simp), HX2.out⟩
        · have c1 : bits BinOp.and IntKind.i64 (F : Int) 1 = 0 := by rw [b1]; omega
          have c2 : bits BinOp.and IntKind.i64 (F : Int) 2 = 2 := by rw [b2]; omega
          have c4 : bits BinOp.and IntKind.i64 (F : Int) 4 = 0 := by rw [b4]; omega
          have q1 := HSA.out.2 hA
          have q2 := HSB.out.1 hB
          have q4 := HSC.out.2 hC
          have HEQ := hide (show showL v = (nm ++ 32 :: 114 :: ib) from by rw [HSH.out, q1, q2, q4]; simp)
          have p1 : ∀ W : World, (Op.stringOp .add (⟨#[32, 114]⟩ : ByteArray) (str ib)).run Tryd.prog W = .ok (.string (str (32 :: 114 :: ib))) W := fun W => addS [32, 114] ib (by simp; omega) W
          have r1 : ∀ W : World, (Op.stringOp .add (str nm) (str (32 :: 114 :: ib))).run Tryd.prog W = .ok (.string (str (nm ++ 32 :: 114 :: ib))) W := fun W => by rw [addS nm (32 :: 114 :: ib) (by simp; omega) W] <;> (try simp)
          clear b1 b2 b4 q1 q2 q4 hA hB hC
          go_wp2_with fail
          refine (HIB.out _ (HL.out.ext HX0.out)).mono ?_
          rintro e U1 ⟨rfl, hu1⟩
          have HX1 := hide (HX0.out.trans hu1)
          have HB1 := hide (HB0.out.ext hu1)
          have y10 := HB1.out.cell 0
          have y11 := HB1.out.cell 1
          have y12 := HB1.out.cell 2
          have y13 := HB1.out.cell 3
          clear hu1
          go_wp2_with fail
          go_ret
          exact ⟨by rw [HEQ.out] <;> (first | done | rfl | simp), HX1.out⟩
      · by_cases hC : F / 4 % 2 = 1
        · have c1 : bits BinOp.and IntKind.i64 (F : Int) 1 = 0 := by rw [b1]; omega
          have c2 : bits BinOp.and IntKind.i64 (F : Int) 2 = 0 := by rw [b2]; omega
          have c4 : bits BinOp.and IntKind.i64 (F : Int) 4 = 4 := by rw [b4]; omega
          have q1 := HSA.out.2 hA
          have q2 := HSB.out.2 hB
          have q4 := HSC.out.1 hC
          have HEQ := hide (show showL v = (nm ++ 32 :: ic) from by rw [HSH.out, q1, q2, q4]; simp)
          have p1 : ∀ W : World, (Op.stringOp .add (⟨#[32]⟩ : ByteArray) (str ic)).run Tryd.prog W = .ok (.string (str (32 :: ic))) W := fun W => addS [32] ic (by simp; omega) W
          have r1 : ∀ W : World, (Op.stringOp .add (str nm) (str (32 :: ic))).run Tryd.prog W = .ok (.string (str (nm ++ 32 :: ic))) W := fun W => by rw [addS nm (32 :: ic) (by simp; omega) W] <;> (try simp)
          clear b1 b2 b4 q1 q2 q4 hA hB hC
          go_wp2_with fail
          refine (HIC.out _ (HL.out.ext HX0.out)).mono ?_
          rintro e U1 ⟨rfl, hu1⟩
          have HX1 := hide (HX0.out.trans hu1)
          have HB1 := hide (HB0.out.ext hu1)
          have y10 := HB1.out.cell 0
          have y11 := HB1.out.cell 1
          have y12 := HB1.out.cell 2
          have y13 := HB1.out.cell 3
          clear hu1
          go_wp2_with fail
          go_ret
          exact ⟨by rw [HEQ.out] <;> (first | done | rfl | simp), HX1.out⟩
        · have c1 : bits BinOp.and IntKind.i64 (F : Int) 1 = 0 := by rw [b1]; omega
          have c2 : bits BinOp.and IntKind.i64 (F : Int) 2 = 0 := by rw [b2]; omega
          have c4 : bits BinOp.and IntKind.i64 (F : Int) 4 = 0 := by rw [b4]; omega
          have q1 := HSA.out.2 hA
          have q2 := HSB.out.2 hB
          have q4 := HSC.out.2 hC
          have HEQ := hide (show showL v = nm from by rw [HSH.out, q1, q2, q4]; simp)
          clear b1 b2 b4 q1 q2 q4 hA hB hC
          go_wp2_with fail
          go_ret
          exact ⟨by rw [HEQ.out] <;> (first | done | rfl | simp), HX0.out⟩
  · rw [if_neg hok] at ho
    obtain ⟨d, rfl, rfl⟩ := ho
    have HX1 := hide hx1
    have HEQ := hide (show_no hok)
    have lc := itoa_len (v : Int) (by omega)
    have HIC := hide (fun W h => itoa_lib (v : Int) (by omega) (by omega) W h)
    clear hx1 hok
    generalize Lib.itoa (v : Int) = ic at *
    have p1 : ∀ W : World, (Op.stringOp .add (⟨#[119, 111, 114, 100, 32]⟩ : ByteArray) (str ic)).run Tryd.prog W = .ok (.string (str ([119, 111, 114, 100, 32] ++ ic))) W := fun W => addS [119, 111, 114, 100, 32] ic (by simp; omega) W
    have HX0 := hide (HX1.out.alloc (.cells #[.int .i64 0, .int .i64 0, .int .i64 0, .int .i64 0] 62))
    go_wp2_with fail
    refine (HIC.out _ (HL.out.ext HX0.out)).mono ?_
    rintro e U1 ⟨rfl, hu1⟩
    have HX2 := hide (HX0.out.trans hu1)
    clear hu1
    go_wp2_with fail
    go_ret
    exact ⟨by rw [HEQ.out] <;> (first | done | rfl | simp), HX2.out⟩
end Go.Proofs.YtikbfmjhmjkkgaaDoor

