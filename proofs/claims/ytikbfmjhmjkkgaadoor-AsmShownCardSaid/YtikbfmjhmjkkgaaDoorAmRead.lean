/- The contract of asm.Read. -/
import Derived.Test.YtikbfmjhmjkkgaaDoorAmInv
namespace Go.Proofs.YtikbfmjhmjkkgaaDoor
open Go.RowKit Go.Maps
set_option linter.unusedVariables false

/-- The lines of a text. -/
def linesOf (s : Bs) : List Bs := (Lib.splitB (str [10]) 0 (Lib.countB (str s) (str [10])) (str s)).map fun x => x.data.toList
theorem splitB_sm : ∀ (k : Nat) (s : ByteArray), ∀ x ∈ Lib.splitB (str [10]) 0 k s, x.size ≤ s.size := by
  intro k
  induction k with
  | zero => intro s x hx; rw [Lib.splitB_zero, List.mem_singleton] at hx; rw [hx]; exact Nat.le_refl _
  | succ k ih =>
    intro s x hx
    unfold Lib.splitB at hx
    split at hx
    · rw [List.mem_singleton] at hx; rw [hx]; exact Nat.le_refl _
    · rcases List.mem_cons.1 hx with rfl | hx
      · simp only [ByteArray.size_extract]; omega
      · have := ih _ x hx
        simp only [ByteArray.size_extract] at this
        omega
theorem linesOf_sm (s : Bs) : (∀ x ∈ linesOf s, x.length ≤ s.length) ∧ (linesOf s).length ≤ s.length + 1 := by
  refine ⟨fun x hx => ?_, ?_⟩
  · obtain ⟨y, hy, rfl⟩ := List.mem_map.1 hx
    have := splitB_sm _ _ y hy
    rw [str_size] at this
    simpa using this
  · have h1 := Lib.splitB_all (str [10]) (by decide) 0 _ (str s) rfl
    have h2 := Lib.countB_le (str [10]) (by decide) (str s).size (str s) (Nat.le_refl _)
    rw [str_size] at h2
    unfold linesOf
    rw [List.length_map, h1]
    omega
theorem linesOf_cells (s : Bs) : ((Lib.splitB (str [10]) 0 (Lib.countB (str s) (str [10])) (str s)).map Value.string).toArray = ((linesOf s).map fun l => Value.string ⟨l.toArray⟩).toArray := by
  unfold linesOf
  rw [List.map_map]
  rfl
theorem linesOf_len (s : Bs) : Lib.countB (str s) (str [10]) + 1 = (linesOf s).length := by
  unfold linesOf
  rw [List.length_map, Lib.splitB_all (str [10]) (by decide) 0 _ (str s) rfl]
/-- A result of Read in memory. -/
def ReadOut (w : World) (r : Out) (e : Ending) (w' : World) : Prop :=
  match r with
  | .ok u => ∃ A1 c1 A2 c2 A3 c3, e = .returned (.tuple #[.agg #[.slice A1 (settleL u).code.length c1, .slice A2 (settleL u).marks.length c2, .slice A3 (settleL u).needs.length c3], .int .i64 0, .int .i64 0]) ∧
      w'.ownsRow w.heap.size wdT 1 (.slice A1 (settleL u).code.length c1) (settleL u).code.length (u32V (settleL u).code) ∧
      w'.ownsRow w.heap.size mkT 2 (.slice A2 (settleL u).marks.length c2) (settleL u).marks.length ((settleL u).marks.flatMap markC) ∧
      w'.ownsRow w.heap.size ndT 3 (.slice A3 (settleL u).needs.length c3) (settleL u).needs.length ((settleL u).needs.flatMap needC) ∧ Ext w w'
  | .err l k => e = .returned (.tuple #[.agg #[.slice none 0 0, .slice none 0 0, .slice none 0 0], .int .i64 (l : Int), .int .i64 (k : Int)]) ∧ Ext w w'
def RdRel (W1 W2 : World) (gu : Nat) (L : List Bs) (v : Value) (wr : World) : Prop :=
  ∃ (k : Nat) (u : UnD), k ≤ L.length ∧ v = .int .i64 (k : Int) ∧ linesL 0 unit0 L = linesL k u (L.drop k) ∧ Inv u k ∧ UnOk W1 W2 gu u wr
set_option maxHeartbeats 16000000 in
set_option maxRecDepth 100000 in
theorem read_any (s : Bs) (w : World) (hs : s.length ≤ 2000) (hL : LibOk w) :
    Calls Tryd.prog 8 #[.string (str s)] w fun e w' => ReadOut w (linesL 0 unit0 (linesOf s)) e w' := by
  have hls := str_size s
  have hlen : ∀ W : World, (Builtin.len_ #[9] 3 #[.string (str s)]).run Tryd.prog W = .ok (.int .i64 (s.length : Int)) W := fun W => by
    rw [run_len_string W _ _ _ Tryd.underlying9, hls]; rfl
  have t1 : decide ((2000 : Int) < (s.length : Int)) = false := decide_eq_false (by omega)
  have t1' : decide (2000 < s.length) = false := decide_eq_false (by omega)
  have HL := hide hL
  have HS := hide hs
  clear hls hL hs
  go_enter Tryd.func8, Tryd.ntmps8
  go_upto_region 4 with fail
  have HX1 := hide ((Ext.refl w).alloc (.cells #[.slice none 0 0, .slice none 0 0, .slice none 0 0] unT))
  have HBR := hide (Blk.new w unT #[.slice none 0 0, .slice none 0 0, .slice none 0 0])
  have hs1 : (w.alloc (.cells #[.slice none 0 0, .slice none 0 0, .slice none 0 0] unT)).heap.size = w.heap.size + 1 := by simp
  generalize w.alloc (.cells #[.slice none 0 0, .slice none 0 0, .slice none 0 0] unT) = W1 at *
  obtain ⟨gr, hgr⟩ : ∃ x, w.heap.size = x := ⟨_, rfl⟩
  have HGR := hide (show w.heap.size ≤ gr by omega)
  rw [hgr] at HBR hs1 ⊢
  have HX2 := hide ((Ext.refl W1).alloc (.cells #[.slice none 0 0, .slice none 0 0, .slice none 0 0] unT))
  have HBU := hide (Blk.new W1 unT #[.slice none 0 0, .slice none 0 0, .slice none 0 0])
  generalize W1.alloc (.cells #[.slice none 0 0, .slice none 0 0, .slice none 0 0] unT) = W3 at *
  obtain ⟨gu, hgu⟩ : ∃ x, gr + 1 = x := ⟨_, rfl⟩
  have HGU := hide (show W1.heap.size ≤ gu by omega)
  rw [hs1, hgu] at HBU
  rw [hgu]
  clear hgu hgr hs1 hlen t1 t1'
  have HL1 := hide (HL.out.ext HX1.out)
  obtain ⟨m, hmax⟩ := (HL1.out.ext HX2.out).max
  have HSP := hide (Tryd.strings_Split (str s) (str [10]) m W3 (by rw [str_size]; have := HS.out; omega) hmax (by decide))
  rw [linesOf_cells, linesOf_len] at HSP
  have HSM := hide (linesOf_sm s)
  have HFM := hide (show (∀ x ∈ linesOf s, x.length ≤ 2000) ∧ (linesOf s).length ≤ 2001 from ⟨fun x hx => Nat.le_trans (HSM.out.1 x hx) HS.out, Nat.le_trans HSM.out.2 (by have := HS.out; omega)⟩)
  obtain ⟨L, hLs⟩ : ∃ L, linesOf s = L := ⟨_, rfl⟩
  have HLE := hide hLs
  rw [hLs] at HSP HFM HSM
  clear hmax hLs
  go_wp2_with fail
  refine HSP.out.mono ?_
  rintro e w2 ⟨rfl, rfl⟩
  have HBS := hide (Blk.new W3 9 ((L.map fun l => Value.string ⟨l.toArray⟩).toArray))
  have HX4 := hide ((Ext.refl W3).alloc (.cells ((L.map fun l => Value.string ⟨l.toArray⟩).toArray) 9))
  generalize W3.alloc (.cells ((L.map fun l => Value.string ⟨l.toArray⟩).toArray) 9) = W2 at *
  obtain ⟨gs, hgs⟩ : ∃ x, W3.heap.size = x := ⟨_, rfl⟩
  rw [hgs] at HBS ⊢
  obtain ⟨n, hn⟩ : ∃ x, L.length = x := ⟨_, rfl⟩
  have HN := hide hn
  have hn21 : n ≤ 2001 := by rw [← hn]; exact HFM.out.2
  rw [hn]
  clear hn hgs HSP HSM
  go_wp2_with fail
  go_loopw [18] (RdRel W1 W2 gu L) (fun v _ => n - (intOf v).toNat)
  case atStart =>
    refine ⟨0, unit0, Nat.zero_le _, rfl, rfl, Inv.zero, 0, 0, 0, none, none, none, 0, 0, 0, ?_⟩
    exact ⟨HBU.out.ext HX4.out, World.ownsRow_nil _ _ _ _, World.ownsRow_nil _ _ _ _, World.ownsRow_nil _ _ _ _, rfl, rfl, rfl, HGU.out, HX2.out.trans HX4.out, KeepS.refl _⟩
  case round =>
    obtain ⟨k, u, hk, rfl, hli, hiv, hu⟩ := hrel
    have HLI := hide hli
    have HIV := hide hiv
    have HU := hide hu
    rw [HN.out] at hk
    clear hli hiv hu
    by_cases hlt : k < n
    · have hkl : k < L.length := by rw [HN.out]; exact hlt
      obtain ⟨l, hl⟩ : ∃ l, L[k] = l := ⟨_, rfl⟩
      have hbl : Blk wr gs 9 ((L.map fun l => Value.string ⟨l.toArray⟩).toArray) := by
        obtain ⟨_, _, _, _, _, _, _, _, _, h⟩ := HU.out
        exact h.ks gs _ HBS.out
      have hcl : wr.cell? ⟨gs, k, none⟩ = some (.string (str l)) := by
        rw [hbl.cell]
        simp [List.getElem?_eq_getElem hkl, hl, str]
      have hll : l.length ≤ 2000 := by rw [← hl]; exact HFM.out.1 _ (List.getElem_mem hkl)
      have HLA := hide (line_any W1 W2 gu u l wr HU.out HIV.out.c1 (Nat.le_trans HIV.out.c2 (Nat.le_trans HIV.out.c1 (by decide))) (Nat.le_trans HIV.out.c3 (by omega)) (by omega) HL1.out)
      have HST := hide (show linesL 0 unit0 L = match lineL u l with | .ok u' => linesL (k + 1) u' (L.drop (k + 1)) | .err e => .err (k + 1) e from by
        rw [HLI.out, List.drop_eq_getElem_cons hkl, hl]; rfl)
      clear hbl hl hkl hll
      go_wp2_with fail
      refine HLA.out.mono ?_
      rintro e w5 hres
      cases hlr : lineL u l with
      | ok u1 =>
        rw [hlr] at hres HST
        obtain ⟨rfl, hu1⟩ := hres
        have HU1 := hide hu1
        have HIV1 := hide (line_inv HIV.out hlr)
        clear hu1 hlr
        go_wp2_with fail
        go_roundw
        case rel => exact ⟨k + 1, u1, by rw [HN.out]; omega, by go_num, HST.out, HIV1.out, HU1.out⟩
        case measure => simp [intOf]; omega
      | err q =>
        rw [hlr] at hres HST
        obtain ⟨rfl, hq0, hx5⟩ := hres
        have t5 : ((q : Int) != 0) = true := by simp; omega
        have hb5 := HBR.out.ext hx5
        have HX5 := hide (HX1.out.trans hx5)
        have HB5 := hide hb5
        have d0 := hb5.cell 0
        have d1 := hb5.cell 1
        have d2 := hb5.cell 2
        have f0 := hb5.frozen 0
        have f1 := hb5.frozen 1
        have f2 := hb5.frozen 2
        clear hlr hq0 hx5 hb5
        go_wp2_with fail
        have hb6 := ((HB5.out.set_ 0 (.slice none 0 0)).set_ 1 (.slice none 0 0)).set_ 2 (.slice none 0 0)
        have z0 := hb6.cell 0
        have z1 := hb6.cell 1
        have z2 := hb6.cell 2
        simp only [List.setIfInBounds_toArray, List.set_cons_zero, List.set_cons_succ] at z0 z1 z2
        have HXF := hide (((HX5.out.setCell (p := ⟨gr, 0, none⟩) HGR.out (.slice none 0 0)).setCell (p := ⟨gr, 1, none⟩) HGR.out (.slice none 0 0)).setCell (p := ⟨gr, 2, none⟩) HGR.out (.slice none 0 0))
        refine bodyPost_ret (v := .tuple #[.agg #[.slice none 0 0, .slice none 0 0, .slice none 0 0], .int .i64 ((k : Int) + 1), .int .i64 (q : Int)]) (by simp [results, Tryd.results8, go_sem, z0, z1, z2]) rfl ?_
        rw [HLE.out, HST.out]
        exact ⟨rfl, HXF.out⟩
    · obtain rfl : k = n := by omega
      have hdr : L.drop k = [] := List.drop_eq_nil_of_le (by rw [HN.out]; exact Nat.le_refl _)
      rw [hdr] at HLI
      have HSE := hide (settle_any W1 W2 gu u wr HU.out (HIV.out.sane (by omega)))
      clear hdr hlt
      go_wp2_with fail
      refine HSE.out.mono ?_
      rintro e w5 ⟨rfl, hu⟩
      obtain ⟨n1, n2, n3, A1, A2, A3, c1, c2, c3, hu⟩ := hu
      have HU5 := hide hu
      have hb5 := HBR.out.ext hu.ext
      have d0 := hu.box.cell 0
      have d1 := hu.box.cell 1
      have d2 := hu.box.cell 2
      have e0 := hb5.cell 0
      have e1 := hb5.cell 1
      have e2 := hb5.cell 2
      have f0 := hb5.frozen 0
      have f1 := hb5.frozen 1
      have f2 := hb5.frozen 2
      have HB5 := hide hb5
      clear hu hb5
      go_wp2_with fail
      have hb6 := ((HB5.out.set_ 0 (.slice A1 n1 c1)).set_ 1 (.slice A2 n2 c2)).set_ 2 (.slice A3 n3 c3)
      have z0 := hb6.cell 0
      have z1 := hb6.cell 1
      have z2 := hb6.cell 2
      simp only [List.setIfInBounds_toArray, List.set_cons_zero, List.set_cons_succ] at z0 z1 z2
      refine bodyPost_ret (v := .tuple #[.agg #[.slice A1 n1 c1, .slice A2 n2 c2, .slice A3 n3 c3], .int .i64 0, .int .i64 0]) (by simp [results, Tryd.results8, go_sem, z0, z1, z2]) rfl ?_
      rw [HLE.out, HLI.out]
      have hw1 : w.heap.size ≤ W1.heap.size := HX1.out.size
      have k1 := own_far (own_far (own_far HU5.out.rc (p := ⟨gr, 0, none⟩) (own_blk_ne HU5.out.rc HB5.out (by decide)) (.slice A1 n1 c1)) (p := ⟨gr, 1, none⟩) (own_blk_ne HU5.out.rc HB5.out (by decide)) (.slice A2 n2 c2)) (p := ⟨gr, 2, none⟩) (own_blk_ne HU5.out.rc HB5.out (by decide)) (.slice A3 n3 c3)
      have k2 := own_far (own_far (own_far HU5.out.rm (p := ⟨gr, 0, none⟩) (own_blk_ne HU5.out.rm HB5.out (by decide)) (.slice A1 n1 c1)) (p := ⟨gr, 1, none⟩) (own_blk_ne HU5.out.rm HB5.out (by decide)) (.slice A2 n2 c2)) (p := ⟨gr, 2, none⟩) (own_blk_ne HU5.out.rm HB5.out (by decide)) (.slice A3 n3 c3)
      have k3 := own_far (own_far (own_far HU5.out.rn (p := ⟨gr, 0, none⟩) (own_blk_ne HU5.out.rn HB5.out (by decide)) (.slice A1 n1 c1)) (p := ⟨gr, 1, none⟩) (own_blk_ne HU5.out.rn HB5.out (by decide)) (.slice A2 n2 c2)) (p := ⟨gr, 2, none⟩) (own_blk_ne HU5.out.rn HB5.out (by decide)) (.slice A3 n3 c3)
      show ReadOut w (.ok u) _ _
      refine ⟨A1, c1, A2, c2, A3, c3, ?_, ?_, ?_, ?_, ?_⟩
      · rw [HU5.out.l1, HU5.out.l2, HU5.out.l3]
      · rw [HU5.out.l1]; exact own_lower k1 hw1
      · rw [HU5.out.l2]; exact own_lower k2 hw1
      · rw [HU5.out.l3]; exact own_lower k3 hw1
      · exact (((HX1.out.trans HU5.out.ext).setCell (p := ⟨gr, 0, none⟩) HGR.out _).setCell (p := ⟨gr, 1, none⟩) HGR.out _).setCell (p := ⟨gr, 2, none⟩) HGR.out _
end Go.Proofs.YtikbfmjhmjkkgaaDoor
