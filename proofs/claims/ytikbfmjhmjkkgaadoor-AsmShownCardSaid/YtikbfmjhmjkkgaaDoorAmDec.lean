/- The contract of code.Decode. -/
import Derived.Test.YtikbfmjhmjkkgaaDoorAmShowP
import Derived.Test.YtikbfmjhmjkkgaaDoorAmNum
namespace Go.Proofs.YtikbfmjhmjkkgaaDoor
open Go.RowKit
set_option linter.unusedVariables false

def decV (w : Nat) : Value := .agg #[.int .i64 (opN w : Int), .int .i64 (aN w : Int), .int .i64 (bN w : Int), .int .i64 (cI w)]
def DecOut (v : Nat) (e : Ending) : Prop := if okW v then e = .returned (.tuple #[decV v, .int .i64 0]) else ∃ d, e = .returned (.tuple #[d, .int .i64 3]) ∧ d = .agg #[.int .i64 0, .int .i64 0, .int .i64 0, .int .i64 0]
theorem and15 (n : Int) (h : 0 ≤ n) (h' : n ≤ 4294967295) : bits .and .u32 n 15 = n % 16 :=
  bits_mask .u32 32 (by decide) (fun n h₀ h₁ => by rw [IntKind.wrap_u32]; omega) 4 (by decide) n h (by omega)
theorem i16w (n : Int) : IntKind.i16.wrap n = (n + 32768) % 65536 - 32768 := by
  simp [IntKind.wrap, IntKind.bits, IntKind.signed]
  split <;> omega
set_option maxHeartbeats 8000000 in
set_option maxRecDepth 100000 in
theorem decode_any (v : Nat) (hv : v ≤ 4294967295) (w : World) :
    Calls Tryd.prog 21 #[.int .u32 (v : Int)] w fun e w' => DecOut v e ∧ Ext w w' := by
  have hop : opN v ≤ 255 := by unfold opN; omega
  have HC := hide (cI_range v)
  go_enter Tryd.func21, Tryd.ntmps21
  have e1 : (v : Int) / 16777216 = (opN v : Int) := by unfold opN; omega
  have e2 : wrap64 (bits BinOp.and IntKind.u32 ((v : Int) / 1048576) 15) = (aN v : Int) := by rw [and15 _ (by omega) (by omega)]; unfold wrap64 aN; omega
  have e3 : wrap64 (bits BinOp.and IntKind.u32 ((v : Int) / 65536) 15) = (bN v : Int) := by rw [and15 _ (by omega) (by omega)]; unfold wrap64 bN; omega
  have e4 : wrap64 (IntKind.i16.wrap (v : Int)) = cI v := by rw [i16w]; unfold wrap64 cI; split <;> omega
  have hback := opW_back v
  have HDO := hide (show ∀ e, DecOut v e = if okW v then e = .returned (.tuple #[decV v, .int .i64 0]) else ∃ d, e = .returned (.tuple #[d, .int .i64 3]) ∧ d = .agg #[.int .i64 0, .int .i64 0, .int .i64 0, .int .i64 0] from fun e => rfl)
  have HDV := hide (show decV v = .agg #[.int .i64 (opN v : Int), .int .i64 (aN v : Int), .int .i64 (bN v : Int), .int .i64 (cI v)] from rfl)
  have HOW := hide (show okW v = encOk (opN v) (aN v) (bN v) (cI v) from rfl)
  go_upto_region 2 with fail
  clear e1 e2 e3 e4
  generalize opN v = o at *
  generalize aN v = a at *
  generalize bN v = b at *
  generalize cI v = c at *
  go_wp2_with fail
  have HB2 := hide ((Blk.new w 62 #[.int .i64 0, .int .i64 0, .int .i64 0, .int .i64 0]).alloc (.cells #[.int .i64 (o : Int), .int .i64 (a : Int), .int .i64 (b : Int), .int .i64 c] 62))
  have HB4 := hide (Blk.new (w.alloc (.cells #[.int .i64 0, .int .i64 0, .int .i64 0, .int .i64 0] 62)) 62 #[.int .i64 (o : Int), .int .i64 (a : Int), .int .i64 (b : Int), .int .i64 c])
  have HX := hide (((Ext.refl w).alloc (.cells #[.int .i64 0, .int .i64 0, .int .i64 0, .int .i64 0] 62)).alloc (.cells #[.int .i64 (o : Int), .int .i64 (a : Int), .int .i64 (b : Int), .int .i64 c] 62))
  have hsz : (w.alloc (.cells #[.int .i64 0, .int .i64 0, .int .i64 0, .int .i64 0] 62)).heap.size = w.heap.size + 1 := by simp
  rw [hsz] at HB4
  have HG2 := hide (Nat.le_refl w.heap.size)
  generalize (w.alloc (.cells #[.int .i64 0, .int .i64 0, .int .i64 0, .int .i64 0] 62)).alloc (.cells #[.int .i64 (o : Int), .int .i64 (a : Int), .int .i64 (b : Int), .int .i64 c] 62) = W at *
  clear hsz
  obtain ⟨g2, hg2⟩ : ∃ x, w.heap.size = x := ⟨_, rfl⟩
  obtain ⟨g4, hg4⟩ : ∃ x, w.heap.size + 1 = x := ⟨_, rfl⟩
  have HGG := hide (show w.heap.size ≤ g2 by omega)
  have HNE := hide (show g2 ≠ g4 by omega)
  rw [hg2] at HB2
  rw [hg4] at HB4
  rw [hg4, hg2]
  clear hg2 hg4 HG2
  by_cases hok : encOk o a b c
  · refine (enc_ok o a b c hop HC.out hok W).mono ?_
    rintro e W5 ⟨rfl, hx5⟩
    rw [hback]
    have HX5 := hide (HX.out.trans hx5)
    have HB25 := hide (HB2.out.ext hx5)
    have HB45 := hide (HB4.out.ext hx5)
    have HOK := hide hok
    have d0 := HB45.out.cell 0
    have d1 := HB45.out.cell 1
    have d2 := HB45.out.cell 2
    have d3 := HB45.out.cell 3
    have e0 := HB25.out.cell 0
    have e1 := HB25.out.cell 1
    have e2 := HB25.out.cell 2
    have e3 := HB25.out.cell 3
    have f0 := HB25.out.frozen 0
    have f1 := HB25.out.frozen 1
    have f2 := HB25.out.frozen 2
    have f3 := HB25.out.frozen 3
    clear hok hx5 hop
    go_wp2_with fail
    have hb6 := ((((HB25.out.set_ 0 (.int .i64 (o : Int))).set_ 1 (.int .i64 (a : Int))).set_ 2 (.int .i64 (b : Int))).set_ 3 (.int .i64 c))
    have z0 := hb6.cell 0
    have z1 := hb6.cell 1
    have z2 := hb6.cell 2
    have z3 := hb6.cell 3
    simp only [List.setIfInBounds_toArray, List.set_cons_zero, List.set_cons_succ] at z0 z1 z2 z3
    refine bodyPost_ret (v := .tuple #[.agg #[(.int .i64 (o : Int)), (.int .i64 (a : Int)), (.int .i64 (b : Int)), (.int .i64 c)], .int .i64 0]) (by simp [results, Tryd.results21, go_sem, z0, z1, z2, z3]) rfl ?_
    refine ⟨?_, ((((HX5.out.setCell (p := ⟨g2, 0, none⟩) HGG.out (.int .i64 (o : Int))).setCell (p := ⟨g2, 1, none⟩) HGG.out (.int .i64 (a : Int))).setCell (p := ⟨g2, 2, none⟩) HGG.out (.int .i64 (b : Int))).setCell (p := ⟨g2, 3, none⟩) HGG.out (.int .i64 c))⟩
    rw [HDO.out]
    rw [if_pos (by rw [HOW.out]; exact HOK.out), HDV.out]
  · refine (enc_no o a b c HC.out hok W).mono ?_
    rintro e W5 ⟨⟨k, hk, rfl⟩, hx5⟩
    have HX5 := hide (HX.out.trans hx5)
    have HB25 := hide (HB2.out.ext hx5)
    have HOK := hide hok
    have tk : decide (k = 0) = false := decide_eq_false hk
    have e0 := HB25.out.cell 0
    have e1 := HB25.out.cell 1
    have e2 := HB25.out.cell 2
    have e3 := HB25.out.cell 3
    have f0 := HB25.out.frozen 0
    have f1 := HB25.out.frozen 1
    have f2 := HB25.out.frozen 2
    have f3 := HB25.out.frozen 3
    clear hok hx5 hop hback
    go_wp2_with fail
    have hb6 := ((((HB25.out.set_ 0 (.int .i64 0)).set_ 1 (.int .i64 0)).set_ 2 (.int .i64 0)).set_ 3 (.int .i64 0))
    have z0 := hb6.cell 0
    have z1 := hb6.cell 1
    have z2 := hb6.cell 2
    have z3 := hb6.cell 3
    simp only [List.setIfInBounds_toArray, List.set_cons_zero, List.set_cons_succ] at z0 z1 z2 z3
    refine bodyPost_ret (v := .tuple #[.agg #[(.int .i64 0), (.int .i64 0), (.int .i64 0), (.int .i64 0)], .int .i64 3]) (by simp [results, Tryd.results21, go_sem, z0, z1, z2, z3]) rfl ?_
    refine ⟨?_, ((((HX5.out.setCell (p := ⟨g2, 0, none⟩) HGG.out (.int .i64 0)).setCell (p := ⟨g2, 1, none⟩) HGG.out (.int .i64 0)).setCell (p := ⟨g2, 2, none⟩) HGG.out (.int .i64 0)).setCell (p := ⟨g2, 3, none⟩) HGG.out (.int .i64 0))⟩
    rw [HDO.out]
    rw [if_neg (by rw [HOW.out]; exact HOK.out)]
    exact ⟨_, rfl, rfl⟩
end Go.Proofs.YtikbfmjhmjkkgaaDoor
