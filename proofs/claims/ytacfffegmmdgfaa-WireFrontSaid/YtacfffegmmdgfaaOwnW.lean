/- The contract of (*line).own. -/
import Derived.Test.YtacfffegmmdgfaaLineOps
import Derived.Outline
import Derived.Deep.CutBlock
namespace Go.Proofs.Ytacfffegmmdgfaa
open Go.RowKit
set_option linter.unusedVariables false

def opWr : Op := Op.load 24 (Operand.tmp 37)
theorem opWr_eq : opWr = Op.load 24 (Operand.tmp 37) := rfl
theorem LineM.chars {w0 w : World} {gl : Nat} {L : LineL} {d : LineD} (h : LineM w0 gl L d w) : w.cell? ⟨gl, 0, none⟩ = some (.pointer (some ⟨L.b 0, 0, none⟩)) ∧ w.cell? ⟨gl, 1, none⟩ = some (.pointer (some ⟨L.b 1, 0, none⟩)) ∧ w.cell? ⟨gl, 2, none⟩ = some (L.vp 0) ∧ w.cell? ⟨gl, 3, none⟩ = some (L.vg 0) ∧ w.cell? ⟨gl, 6, none⟩ = some (L.vp 1) ∧ w.cell? ⟨gl, 7, none⟩ = some (L.vg 1) ∧ w.cell? ⟨gl, 10, none⟩ = some L.vy :=
  ⟨h.box.cell 0, h.box.cell 1, h.box.cell 2, h.box.cell 3, h.box.cell 6, h.box.cell 7, h.box.cell 10⟩
set_option maxHeartbeats 4000000 in
set_option maxRecDepth 100000 in
theorem own_put0 (w0 : World) (gl : Nat) (b : Nat → Nat) (d : LineD) (w : World) (h : LineAt w0 gl b d w) (n : Int) (D : Option Addr) (m c : Nat) (ds : List UInt8) (hds : Reads w0 w0.heap.size 1 D m (bytesV ds)) (hmc : m ≤ c) (hm : m ≤ 256) (hpl : (d.p 0).length ≤ 100000) :
    Calls Try.prog 15 #[.pointer (some ⟨gl, 0, none⟩), .agg #[.int .i64 1, .int .i64 0, .int .i64 n, .slice D m c]] w fun r w' => r = .returned (.tuple #[]) ∧ LineAt w0 gl b (putI d 0 ds) w' := by
  obtain ⟨i0, hi0, hz0, hz1, hz2⟩ := info_parts byte_info
  obtain ⟨L, h, hLb⟩ := h
  have HM := hide h
  have HLB := hide hLb
  have HHY := hide (show True from trivial)
  have HDS := hide hds
  clear hds
  obtain ⟨p0, p1, p2, p3, p6, p7, p10⟩ := h.chars
  obtain ⟨gi, hgi⟩ : ∃ x, L.b 0 = x := ⟨_, rfl⟩
  have HEND := hide (show EndM w gi (d.e 0) (L.vo 0) (L.vi 0) by rw [← hgi]; exact h.end_ 0 (by omega))
  have HOK := hide (h.ok 0 (by omega))
  have HLV := hide (h.live 0 (by omega))
  have q0 : w.cell? ⟨gl, 0, none⟩ = some (.pointer (some ⟨gi, 0, none⟩)) := by rw [← hgi]; exact p0
  have HGI := hide hgi
  have HSZ := hide h.ext.size
  clear h hLb hgi p0 p1 p2 p3 p6 p7 p10
  go_enter Try.func15, Try.ntmps15
  go_upto_region 1 with fail
  have HXA := hide ((Ext.refl w).alloc (.cells #[.int .i64 1, .int .i64 0, .int .i64 n, .slice D m c] 35))
  have HBX := hide (Blk.new w 35 #[.int .i64 1, .int .i64 0, .int .i64 n, .slice D m c])
  generalize w.alloc (.cells #[.int .i64 1, .int .i64 0, .int .i64 n, .slice D m c] 35) = W at *
  obtain ⟨gt, hgt⟩ : ∃ x, w.heap.size = x := ⟨_, rfl⟩
  rw [hgt] at HBX ⊢
  have HGT := hide hgt
  clear hgt
  have b1 : W.cell? ⟨gt, 1, none⟩ = some (.int .i64 0) := HBX.out.cell 1
  have q1 : W.cell? ⟨gl, 0, none⟩ = some (.pointer (some ⟨gi, 0, none⟩)) := HXA.out.cell q0
  clear q0
  go_quiet (fail)
  have HX := hide (HXA.out.drewN nq)
  have HB := hide (HBX.out.drewN nq)
  have HE := hide (HEND.out.ext HX.out)
  clear b1 q1 HXA HBX HEND
  generalize W.drewN nq = V at *
  have b0 : V.cell? ⟨gt, 0, none⟩ = some (.int .i64 1) := HB.out.cell 0
  have b2 : V.cell? ⟨gt, 2, none⟩ = some (.int .i64 n) := HB.out.cell 2
  have b3 : V.cell? ⟨gt, 3, none⟩ = some (.slice D m c) := HB.out.cell 3
  have hne : gt ≠ gl := fun e => by
    have h1 := HM.out.box.lt
    rw [HGT.out] at h1
    omega
  go_wp2_with fail
  refine (write_any V gi (d.e 0) (L.vo 0) (L.vi 0) D m c w0.heap.size ds HE.out HOK.out (((HM.out.ext).trans HX.out).reads HDS.out (Nat.le_refl _)) hmc hm).mono ?_
  rintro r w3 ⟨rfl, hop⟩
  have hop' : EndOp V (L.b 0) (L.vo 0) (L.vi 0) (writeE (d.e 0) ds).1 w3 := by rw [HGI.out]; exact hop
  obtain ⟨L3, hm3, hb3, hp3, -⟩ := (HM.out.extend HX.out).endOp (i := 0) (by omega) (wrTo_ok HOK.out ds) (write_live HLV.out ds) hop'
  have hle := (write_says (d.e 0) ds).1
  have hml : ds.length = m := by have := HDS.out.1; rw [bytesV_length] at this; omega
  obtain ⟨kk, hkk⟩ : ∃ x, (writeE (d.e 0) ds).2.1 = x := ⟨_, rfl⟩
  rw [hkk] at hle ⊢
  have hkm : kk ≤ m := by omega
  have HKK := hide hkk
  have HML := hide hml
  have hrow := hm3.wrote 0 (by omega)
  have hrow : w3.ownsRow w0.heap.size 5 1 (L3.vp 0) (d.p 0).length (bytesV (d.p 0)) := hrow
  obtain ⟨Ay, cy, hvy, hny, hcy, -⟩ := own_form hrow
  obtain ⟨ny, hyn⟩ : ∃ x, (d.p 0).length = x := ⟨_, rfl⟩
  rw [hyn] at hny hvy hpl
  rw [hyn, hvy] at hrow
  have y0 : w3.cell? ⟨gl, 2, none⟩ = some (.slice Ay ny cy) := by rw [← hvy]; exact hm3.box.cell 2
  have yf : w3.frozen? ⟨gl, 2, none⟩ = false := hm3.box.frozen 2
  obtain ⟨_, _, hmE, hk3, hf3⟩ := hop'
  have hgtb : Blk w3 gt 35 _ := hk3.blk HB.out (fun hf => by
    have h1 := (HM.out.end_ 0 (by omega)).lt hf
    rw [HGT.out] at h1
    omega)
  have d3 : w3.cell? ⟨gt, 3, none⟩ = some (.slice D m c) := hgtb.cell 3
  have d0 : w3.cell? ⟨gt, 0, none⟩ = some (.int .i64 1) := hgtb.cell 0
  have HGTB := hide hgtb
  have HM3 := hide hm3
  have HB3 := hide hb3
  have HVY := hide hvy
  have HYN := hide hyn
  have HROW := hide hrow
  have HRT := hide (show Reads w3 w0.heap.size 1 D kk (bytesV (ds.take kk)) by rw [← bytesV_take]; exact (hm3.ext.reads HDS.out (Nat.le_refl _)).take hkm)
  clear hop hm3 hb3 hp3 hle hml hkk hvy hyn hrow hny hcy hmE hk3 hf3 hgtb b0 b2 b3
  go_upto_region 5 with fail
  rw [← opWr_eq]
  have hOp := opWr_eq
  have hkc : (kk : Int) ≤ (c : Int) := by omega
  have hk0 : (0 : Int) ≤ (kk : Int) := by omega
  have HOJ := hide HROW.out.drew
  have HBJ := hide HM3.out.box.drew
  have HGB := hide HGTB.out.drew
  have HRJ := hide (show Reads w3.drew w0.heap.size 1 D kk (bytesV (ds.take kk)) from HRT.out.drew)
  have hsz3 : w0.heap.size ≤ w3.drew.heap.size := HM3.out.ext.size
  go_region_held3 (fun w' => w'.cell? ⟨gt, 3, none⟩ = some (.slice D m c)) (first | with_reducible assumption | exact d3 | exact (World.cell?_setCell_other _ _ _ _ (fun e => hne (by injection e with e; exact e.symm))).trans (by assumption) | fail)
    (first | (refine step_append_any _ (by rfl) (.tmp 38) (.tmp 42) 24 (by rfl) w0.heap.size 5 i0 _ 1 1 Try.underlying24 hi0 hz0 hz1 hz2 rfl (by omega) (.slice Ay ny cy) ny (bytesV (d.p 0)) (by rfl) HOJ.out w0.heap.size D kk c (bytesV (ds.take kk)) (by rfl) HRJ.out (bytesV_one _) (by simp only [maxLen]; omega) (by omega) hsz3 ?_; intro A7 c7 w7 ho7 hg7 ha7; have n5 : w7.cell? ⟨gl, 2, none⟩ = some (.slice Ay ny cy) := hg7.cell y0 (fun e => own_blk_ne HOJ.out HBJ.out (by decide) e.symm); have nf : w7.frozen? ⟨gl, 2, none⟩ = false := (HBJ.out.grown hg7 (fun e => own_blk_ne HOJ.out HBJ.out (by decide) e.symm)).frozen 2; have k7 : w7.cell? ⟨gt, 3, none⟩ = some (.slice D m c) := hg7.cell d3 (fun e => own_blk_ne HOJ.out HGB.out (by decide) e.symm)) | fail)
  all_goals
    have HFIN := hide (show LineAt w0 gl b (putI d 0 ds) (w7.setCell ⟨gl, 2, none⟩ (.slice A7 (ny + kk) c7)) from by
      obtain ⟨L4, h1, h2⟩ := HM3.out.wroteMore (W := w3.drew) (i := 0) ((Ext.refl w3).drew) (by omega) (xs := ds.take kk) (m := kk) HVY.out HYN.out (by rw [List.length_take, HML.out]; omega) ho7 hg7 ha7
      refine ⟨L4, ?_, by rw [h2, HB3.out]; exact HLB.out⟩
      unfold putI
      rw [HKK.out]
      exact h1)
    clear ho7 hg7 ha7 n5 nf
    go_wp2_with fail
    (first | go_end0 | ((try simp only [Exit.inBlock, Exit.then]); refine bodyPost_ret (results_none rfl _ _ _) rfl ?_))
    exact ⟨rfl, HFIN.out⟩
set_option maxHeartbeats 4000000 in
set_option maxRecDepth 100000 in
theorem own_take0 (w0 : World) (gl : Nat) (b : Nat → Nat) (d : LineD) (w : World) (h : LineAt w0 gl b d w) (n : Nat) (D : Option Addr) (m c : Nat) (ds : List UInt8) (hn : n ≤ 256) (hgl : (d.g 0).length ≤ 100000) :
    Calls Try.prog 15 #[.pointer (some ⟨gl, 0, none⟩), .agg #[.int .i64 2, .int .i64 0, .int .i64 n, .slice D m c]] w fun r w' => r = .returned (.tuple #[]) ∧ LineAt w0 gl b (takeI d 0 n) w' := by
  obtain ⟨i0, hi0, hz0, hz1, hz2⟩ := info_parts byte_info
  obtain ⟨L, h, hLb⟩ := h
  have HM := hide h
  have HLB := hide hLb
  have HHY := hide (show True from trivial)
  obtain ⟨p0, p1, p2, p3, p6, p7, p10⟩ := h.chars
  obtain ⟨gi, hgi⟩ : ∃ x, L.b 0 = x := ⟨_, rfl⟩
  have HEND := hide (show EndM w gi (d.e 0) (L.vo 0) (L.vi 0) by rw [← hgi]; exact h.end_ 0 (by omega))
  have HOK := hide (h.ok 0 (by omega))
  have HLV := hide (h.live 0 (by omega))
  have q0 : w.cell? ⟨gl, 0, none⟩ = some (.pointer (some ⟨gi, 0, none⟩)) := by rw [← hgi]; exact p0
  have HGI := hide hgi
  have HSZ := hide h.ext.size
  clear h hLb hgi p0 p1 p2 p3 p6 p7 p10
  go_enter Try.func15, Try.ntmps15
  go_upto_region 1 with fail
  have HXA := hide ((Ext.refl w).alloc (.cells #[.int .i64 2, .int .i64 0, .int .i64 n, .slice D m c] 35))
  have HBX := hide (Blk.new w 35 #[.int .i64 2, .int .i64 0, .int .i64 n, .slice D m c])
  generalize w.alloc (.cells #[.int .i64 2, .int .i64 0, .int .i64 n, .slice D m c] 35) = W at *
  obtain ⟨gt, hgt⟩ : ∃ x, w.heap.size = x := ⟨_, rfl⟩
  rw [hgt] at HBX ⊢
  have HGT := hide hgt
  clear hgt
  have b1 : W.cell? ⟨gt, 1, none⟩ = some (.int .i64 0) := HBX.out.cell 1
  have q1 : W.cell? ⟨gl, 0, none⟩ = some (.pointer (some ⟨gi, 0, none⟩)) := HXA.out.cell q0
  clear q0
  go_quiet (fail)
  have HX := hide (HXA.out.drewN nq)
  have HB := hide (HBX.out.drewN nq)
  have HE := hide (HEND.out.ext HX.out)
  clear b1 q1 HXA HBX HEND
  generalize W.drewN nq = V at *
  have b0 : V.cell? ⟨gt, 0, none⟩ = some (.int .i64 2) := HB.out.cell 0
  have b2 : V.cell? ⟨gt, 2, none⟩ = some (.int .i64 n) := HB.out.cell 2
  have b3 : V.cell? ⟨gt, 3, none⟩ = some (.slice D m c) := HB.out.cell 3
  have hne : gt ≠ gl := fun e => by
    have h1 := HM.out.box.lt
    rw [HGT.out] at h1
    omega
  cases her : readErr (d.e 0) n with
  | some er =>
    have HPO := hide (show takeI d 0 n = d by unfold takeI; rw [her])
    have HRE := hide (read_fails V gi (d.e 0) (L.vo 0) (L.vi 0) n er HE.out hn her)
    clear her
    go_wp2_with fail
    refine HRE.out.mono ?_
    rintro r w3 ⟨rfl, rfl⟩
    have hrow : V.ownsRow w0.heap.size 5 1 (L.vg 0) (d.g 0).length (bytesV (d.g 0)) := (HM.out.extend HX.out).read 0 (by omega)
    obtain ⟨Ay, cy, hvy, hny, hcy, -⟩ := own_form hrow
    obtain ⟨ny, hyn⟩ : ∃ x, (d.g 0).length = x := ⟨_, rfl⟩
    rw [hyn] at hny hvy hgl
    rw [hyn, hvy] at hrow
    have y0 : V.cell? ⟨gl, 3, none⟩ = some (.slice Ay ny cy) := by rw [← hvy]; exact (HM.out.extend HX.out).box.cell 3
    have yf : V.frozen? ⟨gl, 3, none⟩ = false := (HM.out.extend HX.out).box.frozen 3
    have HVY := hide hvy
    have HYN := hide hyn
    have HROW := hide hrow
    have HBX := hide (HM.out.extend HX.out).box
    have hsz3 : w0.heap.size ≤ V.heap.size := ((HM.out.extend HX.out).ext).size
    clear hvy hyn hrow hny hcy
    go_wp2_with (at_builtin; refine wpList_append_any _ rfl (.tmp 59) (.tmp 60) _ rfl w0.heap.size 5 i0 _ 1 1 Try.underlying24 hi0 hz0 hz1 hz2 rfl (by omega) (.slice Ay ny cy) ny (bytesV (d.g 0)) (by rfl) HROW.out w0.heap.size none 0 0 [] (by rfl) Reads.none_ (by simp) (by simp only [maxLen]; omega) (by omega) hsz3 ?_; intro A7 c7 w7 ho7 hg7 ha7; have n5 : w7.cell? ⟨gl, 3, none⟩ = some (.slice Ay ny cy) := hg7.cell y0 (fun e => own_blk_ne HROW.out HBX.out (by decide) e.symm); have nf : w7.frozen? ⟨gl, 3, none⟩ = false := (HBX.out.grown hg7 (fun e => own_blk_ne HROW.out HBX.out (by decide) e.symm)).frozen 3)
    (first | go_end0 | ((try simp only [Exit.inBlock, Exit.then]); refine bodyPost_ret (results_none rfl _ _ _) rfl ?_))
    refine ⟨rfl, ?_⟩
    obtain ⟨L4, h1, h2⟩ := (HM.out.extend HX.out).readMore (W := V) (i := 0) (Ext.refl V) (by omega) (xs := []) (m := 0) HVY.out HYN.out rfl (by simpa [bytesV] using ho7) hg7 ha7
    refine ⟨L4, ?_, by rw [h2]; exact HLB.out⟩
    rw [HPO.out]
    have e : upd d.g 0 (d.g 0 ++ []) = d.g := by
      funext j
      unfold upd
      split
      · rename_i e
        subst e
        rw [List.append_nil]
      · rfl
    rw [e] at h1
    exact h1
  | none =>
    have HPO := hide (show takeI d 0 n = { d with e := upd d.e 0 (readTo (d.e 0) n), g := upd d.g 0 (d.g 0 ++ (d.e 0).inn.take (readN (d.e 0) n)) } by unfold takeI; rw [her])
    have HRE := hide (read_ok V gi (d.e 0) (L.vo 0) (L.vi 0) n HE.out HOK.out hn her)
    clear her
    go_wp2_with fail
    refine HRE.out.mono ?_
    rintro r w3 ⟨Ar, cr, rfl, hrr, hop⟩
    have hop' : EndOp V (L.b 0) (L.vo 0) (L.vi 0) (readTo (d.e 0) n) w3 := by rw [HGI.out]; exact hop
    obtain ⟨L3, hm3, hb3, hp3, -⟩ := (HM.out.extend HX.out).endOp (i := 0) (by omega) (readTo_ok HOK.out n) (show Live (readTo (d.e 0) n) from HLV.out) hop'
    have hk64 : readN (d.e 0) n ≤ 64 := by have := HOK.out.inn; unfold readN; omega
    have htl : ((d.e 0).inn.take (readN (d.e 0) n)).length = readN (d.e 0) n := by rw [List.length_take]; unfold readN; omega
    obtain ⟨kk, hkk⟩ : ∃ x, readN (d.e 0) n = x := ⟨_, rfl⟩
    obtain ⟨xs, hxs⟩ : ∃ x, (d.e 0).inn.take (readN (d.e 0) n) = x := ⟨_, rfl⟩
    have HPO2 := hide (show takeI d 0 n = { d with e := upd d.e 0 (readTo (d.e 0) n), g := upd d.g 0 (d.g 0 ++ xs) } by rw [HPO.out, hxs])
    rw [hxs] at hrr htl
    rw [hkk] at hrr hk64 htl ⊢
    have HTL := hide htl
    have HRR := hide hrr
    have hrow : w3.ownsRow w0.heap.size 5 1 (L3.vg 0) (d.g 0).length (bytesV (d.g 0)) := hm3.read 0 (by omega)
    obtain ⟨Ay, cy, hvy, hny, hcy, -⟩ := own_form hrow
    obtain ⟨ny, hyn⟩ : ∃ x, (d.g 0).length = x := ⟨_, rfl⟩
    rw [hyn] at hny hvy hgl
    rw [hyn, hvy] at hrow
    have y0 : w3.cell? ⟨gl, 3, none⟩ = some (.slice Ay ny cy) := by rw [← hvy]; exact hm3.box.cell 3
    have yf : w3.frozen? ⟨gl, 3, none⟩ = false := hm3.box.frozen 3
    have HM3 := hide hm3
    have HB3 := hide hb3
    have HVY := hide hvy
    have HYN := hide hyn
    have HROW := hide hrow
    have HBX := hide hm3.box
    have hsz3 : w0.heap.size ≤ w3.heap.size := hm3.ext.size
    clear hop hop' hm3 hb3 hp3 hkk hxs hvy hyn hrow hny hcy hrr htl b0 b2 b3
    go_wp2_with (at_builtin; refine wpList_append_any _ rfl (.tmp 59) (.tmp 60) _ rfl w0.heap.size 5 i0 _ 1 1 Try.underlying24 hi0 hz0 hz1 hz2 rfl (by omega) (.slice Ay ny cy) ny (bytesV (d.g 0)) (by rfl) HROW.out _ Ar kk cr (bytesV xs) (by rfl) (Reads.of_own HRR.out) (bytesV_one _) (by simp only [maxLen]; omega) (by omega) hsz3 ?_; intro A7 c7 w7 ho7 hg7 ha7; have n5 : w7.cell? ⟨gl, 3, none⟩ = some (.slice Ay ny cy) := hg7.cell y0 (fun e => own_blk_ne HROW.out HBX.out (by decide) e.symm); have nf : w7.frozen? ⟨gl, 3, none⟩ = false := (HBX.out.grown hg7 (fun e => own_blk_ne HROW.out HBX.out (by decide) e.symm)).frozen 3)
    (first | go_end0 | ((try simp only [Exit.inBlock, Exit.then]); refine bodyPost_ret (results_none rfl _ _ _) rfl ?_))
    refine ⟨rfl, ?_⟩
    obtain ⟨L4, h1, h2⟩ := HM3.out.readMore (W := w3) (i := 0) (Ext.refl w3) (by omega) (xs := xs) (m := kk) HVY.out HYN.out HTL.out ho7 hg7 ha7
    refine ⟨L4, ?_, by rw [h2, HB3.out]; exact HLB.out⟩
    rw [HPO2.out]
    exact h1
set_option maxHeartbeats 4000000 in
set_option maxRecDepth 100000 in
theorem own_shut0 (w0 : World) (gl : Nat) (b : Nat → Nat) (d : LineD) (w : World) (h : LineAt w0 gl b d w) (n : Int) (D : Option Addr) (m c : Nat) (ds : List UInt8) :
    Calls Try.prog 15 #[.pointer (some ⟨gl, 0, none⟩), .agg #[.int .i64 3, .int .i64 0, .int .i64 n, .slice D m c]] w fun r w' => r = .returned (.tuple #[]) ∧ LineAt w0 gl b (shutI d 0) w' := by
  obtain ⟨i0, hi0, hz0, hz1, hz2⟩ := info_parts byte_info
  obtain ⟨L, h, hLb⟩ := h
  have HM := hide h
  have HLB := hide hLb
  have HHY := hide (show True from trivial)
  obtain ⟨p0, p1, p2, p3, p6, p7, p10⟩ := h.chars
  obtain ⟨gi, hgi⟩ : ∃ x, L.b 0 = x := ⟨_, rfl⟩
  have HEND := hide (show EndM w gi (d.e 0) (L.vo 0) (L.vi 0) by rw [← hgi]; exact h.end_ 0 (by omega))
  have HOK := hide (h.ok 0 (by omega))
  have HLV := hide (h.live 0 (by omega))
  have q0 : w.cell? ⟨gl, 0, none⟩ = some (.pointer (some ⟨gi, 0, none⟩)) := by rw [← hgi]; exact p0
  have HGI := hide hgi
  have HSZ := hide h.ext.size
  clear h hLb hgi p0 p1 p2 p3 p6 p7 p10
  go_enter Try.func15, Try.ntmps15
  go_upto_region 1 with fail
  have HXA := hide ((Ext.refl w).alloc (.cells #[.int .i64 3, .int .i64 0, .int .i64 n, .slice D m c] 35))
  have HBX := hide (Blk.new w 35 #[.int .i64 3, .int .i64 0, .int .i64 n, .slice D m c])
  generalize w.alloc (.cells #[.int .i64 3, .int .i64 0, .int .i64 n, .slice D m c] 35) = W at *
  obtain ⟨gt, hgt⟩ : ∃ x, w.heap.size = x := ⟨_, rfl⟩
  rw [hgt] at HBX ⊢
  have HGT := hide hgt
  clear hgt
  have b1 : W.cell? ⟨gt, 1, none⟩ = some (.int .i64 0) := HBX.out.cell 1
  have q1 : W.cell? ⟨gl, 0, none⟩ = some (.pointer (some ⟨gi, 0, none⟩)) := HXA.out.cell q0
  clear q0
  go_quiet (fail)
  have HX := hide (HXA.out.drewN nq)
  have HB := hide (HBX.out.drewN nq)
  have HE := hide (HEND.out.ext HX.out)
  clear b1 q1 HXA HBX HEND
  generalize W.drewN nq = V at *
  have b0 : V.cell? ⟨gt, 0, none⟩ = some (.int .i64 3) := HB.out.cell 0
  have b2 : V.cell? ⟨gt, 2, none⟩ = some (.int .i64 n) := HB.out.cell 2
  have b3 : V.cell? ⟨gt, 3, none⟩ = some (.slice D m c) := HB.out.cell 3
  have hne : gt ≠ gl := fun e => by
    have h1 := HM.out.box.lt
    rw [HGT.out] at h1
    omega
  go_wp2_with fail
  refine (shut_any V gi (d.e 0) (L.vo 0) (L.vi 0) HE.out).mono ?_
  rintro r w3 ⟨rfl, hop⟩
  have hop' : EndOp V (L.b 0) (L.vo 0) (L.vi 0) (shutE (d.e 0)).1 w3 := by rw [HGI.out]; exact hop
  obtain ⟨L3, hm3, hb3, hp3, -⟩ := (HM.out.extend HX.out).endOp (i := 0) (by omega) (by
    unfold shutE
    split
    · exact HOK.out
    · exact ⟨HOK.out.st, HOK.out.una, HOK.out.nxt, HOK.out.top, HOK.out.first, HOK.out.rcv, HOK.out.out, HOK.out.inn, HOK.out.peer, HOK.out.wait, HOK.out.tries⟩) (by
    unfold shutE
    split <;> exact HLV.out) hop'
  have HM3 := hide hm3
  have HB3 := hide hb3
  clear hop hop' hm3 hb3 hp3
  go_wp2_with fail
  (first | go_end0 | ((try simp only [Exit.inBlock, Exit.then]); refine bodyPost_ret (results_none rfl _ _ _) rfl ?_))
  exact ⟨rfl, L3, HM3.out, by rw [HB3.out]; exact HLB.out⟩
set_option maxHeartbeats 4000000 in
set_option maxRecDepth 100000 in
theorem own_put1 (w0 : World) (gl : Nat) (b : Nat → Nat) (d : LineD) (w : World) (h : LineAt w0 gl b d w) (n : Int) (D : Option Addr) (m c : Nat) (ds : List UInt8) (hds : Reads w0 w0.heap.size 1 D m (bytesV ds)) (hmc : m ≤ c) (hm : m ≤ 256) (hpl : (d.p 1).length ≤ 100000) :
    Calls Try.prog 15 #[.pointer (some ⟨gl, 0, none⟩), .agg #[.int .i64 1, .int .i64 1, .int .i64 n, .slice D m c]] w fun r w' => r = .returned (.tuple #[]) ∧ LineAt w0 gl b (putI d 1 ds) w' := by
  obtain ⟨i0, hi0, hz0, hz1, hz2⟩ := info_parts byte_info
  obtain ⟨L, h, hLb⟩ := h
  have HM := hide h
  have HLB := hide hLb
  have HHY := hide (show True from trivial)
  have HDS := hide hds
  clear hds
  obtain ⟨p0, p1, p2, p3, p6, p7, p10⟩ := h.chars
  obtain ⟨gi, hgi⟩ : ∃ x, L.b 1 = x := ⟨_, rfl⟩
  have HEND := hide (show EndM w gi (d.e 1) (L.vo 1) (L.vi 1) by rw [← hgi]; exact h.end_ 1 (by omega))
  have HOK := hide (h.ok 1 (by omega))
  have HLV := hide (h.live 1 (by omega))
  have q0 : w.cell? ⟨gl, 1, none⟩ = some (.pointer (some ⟨gi, 0, none⟩)) := by rw [← hgi]; exact p1
  have HGI := hide hgi
  have HSZ := hide h.ext.size
  clear h hLb hgi p0 p1 p2 p3 p6 p7 p10
  go_enter Try.func15, Try.ntmps15
  go_upto_region 1 with fail
  have HXA := hide ((Ext.refl w).alloc (.cells #[.int .i64 1, .int .i64 1, .int .i64 n, .slice D m c] 35))
  have HBX := hide (Blk.new w 35 #[.int .i64 1, .int .i64 1, .int .i64 n, .slice D m c])
  generalize w.alloc (.cells #[.int .i64 1, .int .i64 1, .int .i64 n, .slice D m c] 35) = W at *
  obtain ⟨gt, hgt⟩ : ∃ x, w.heap.size = x := ⟨_, rfl⟩
  rw [hgt] at HBX ⊢
  have HGT := hide hgt
  clear hgt
  have b1 : W.cell? ⟨gt, 1, none⟩ = some (.int .i64 1) := HBX.out.cell 1
  have q1 : W.cell? ⟨gl, 1, none⟩ = some (.pointer (some ⟨gi, 0, none⟩)) := HXA.out.cell q0
  clear q0
  go_quiet (fail)
  have HX := hide (HXA.out.drewN nq)
  have HB := hide (HBX.out.drewN nq)
  have HE := hide (HEND.out.ext HX.out)
  clear b1 q1 HXA HBX HEND
  generalize W.drewN nq = V at *
  have b0 : V.cell? ⟨gt, 0, none⟩ = some (.int .i64 1) := HB.out.cell 0
  have b2 : V.cell? ⟨gt, 2, none⟩ = some (.int .i64 n) := HB.out.cell 2
  have b3 : V.cell? ⟨gt, 3, none⟩ = some (.slice D m c) := HB.out.cell 3
  have hne : gt ≠ gl := fun e => by
    have h1 := HM.out.box.lt
    rw [HGT.out] at h1
    omega
  go_wp2_with fail
  refine (write_any V gi (d.e 1) (L.vo 1) (L.vi 1) D m c w0.heap.size ds HE.out HOK.out (((HM.out.ext).trans HX.out).reads HDS.out (Nat.le_refl _)) hmc hm).mono ?_
  rintro r w3 ⟨rfl, hop⟩
  have hop' : EndOp V (L.b 1) (L.vo 1) (L.vi 1) (writeE (d.e 1) ds).1 w3 := by rw [HGI.out]; exact hop
  obtain ⟨L3, hm3, hb3, hp3, -⟩ := (HM.out.extend HX.out).endOp (i := 1) (by omega) (wrTo_ok HOK.out ds) (write_live HLV.out ds) hop'
  have hle := (write_says (d.e 1) ds).1
  have hml : ds.length = m := by have := HDS.out.1; rw [bytesV_length] at this; omega
  obtain ⟨kk, hkk⟩ : ∃ x, (writeE (d.e 1) ds).2.1 = x := ⟨_, rfl⟩
  rw [hkk] at hle ⊢
  have hkm : kk ≤ m := by omega
  have HKK := hide hkk
  have HML := hide hml
  have hrow := hm3.wrote 1 (by omega)
  have hrow : w3.ownsRow w0.heap.size 5 1 (L3.vp 1) (d.p 1).length (bytesV (d.p 1)) := hrow
  obtain ⟨Ay, cy, hvy, hny, hcy, -⟩ := own_form hrow
  obtain ⟨ny, hyn⟩ : ∃ x, (d.p 1).length = x := ⟨_, rfl⟩
  rw [hyn] at hny hvy hpl
  rw [hyn, hvy] at hrow
  have y0 : w3.cell? ⟨gl, 6, none⟩ = some (.slice Ay ny cy) := by rw [← hvy]; exact hm3.box.cell 6
  have yf : w3.frozen? ⟨gl, 6, none⟩ = false := hm3.box.frozen 6
  obtain ⟨_, _, hmE, hk3, hf3⟩ := hop'
  have hgtb : Blk w3 gt 35 _ := hk3.blk HB.out (fun hf => by
    have h1 := (HM.out.end_ 1 (by omega)).lt hf
    rw [HGT.out] at h1
    omega)
  have d3 : w3.cell? ⟨gt, 3, none⟩ = some (.slice D m c) := hgtb.cell 3
  have d0 : w3.cell? ⟨gt, 0, none⟩ = some (.int .i64 1) := hgtb.cell 0
  have HGTB := hide hgtb
  have HM3 := hide hm3
  have HB3 := hide hb3
  have HVY := hide hvy
  have HYN := hide hyn
  have HROW := hide hrow
  have HRT := hide (show Reads w3 w0.heap.size 1 D kk (bytesV (ds.take kk)) by rw [← bytesV_take]; exact (hm3.ext.reads HDS.out (Nat.le_refl _)).take hkm)
  clear hop hm3 hb3 hp3 hle hml hkk hvy hyn hrow hny hcy hmE hk3 hf3 hgtb b0 b2 b3
  go_upto_region 5 with fail
  rw [← opWr_eq]
  have hOp := opWr_eq
  have hkc : (kk : Int) ≤ (c : Int) := by omega
  have hk0 : (0 : Int) ≤ (kk : Int) := by omega
  have HOJ := hide HROW.out.drew
  have HBJ := hide HM3.out.box.drew
  have HGB := hide HGTB.out.drew
  have HRJ := hide (show Reads w3.drew w0.heap.size 1 D kk (bytesV (ds.take kk)) from HRT.out.drew)
  have hsz3 : w0.heap.size ≤ w3.drew.heap.size := HM3.out.ext.size
  go_region_held3 (fun w' => w'.cell? ⟨gt, 3, none⟩ = some (.slice D m c)) (first | with_reducible assumption | exact d3 | exact (World.cell?_setCell_other _ _ _ _ (fun e => hne (by injection e with e; exact e.symm))).trans (by assumption) | fail)
    (first | (refine step_append_any _ (by rfl) (.tmp 38) (.tmp 42) 24 (by rfl) w0.heap.size 5 i0 _ 1 1 Try.underlying24 hi0 hz0 hz1 hz2 rfl (by omega) (.slice Ay ny cy) ny (bytesV (d.p 1)) (by rfl) HOJ.out w0.heap.size D kk c (bytesV (ds.take kk)) (by rfl) HRJ.out (bytesV_one _) (by simp only [maxLen]; omega) (by omega) hsz3 ?_; intro A7 c7 w7 ho7 hg7 ha7; have n5 : w7.cell? ⟨gl, 6, none⟩ = some (.slice Ay ny cy) := hg7.cell y0 (fun e => own_blk_ne HOJ.out HBJ.out (by decide) e.symm); have nf : w7.frozen? ⟨gl, 6, none⟩ = false := (HBJ.out.grown hg7 (fun e => own_blk_ne HOJ.out HBJ.out (by decide) e.symm)).frozen 6; have k7 : w7.cell? ⟨gt, 3, none⟩ = some (.slice D m c) := hg7.cell d3 (fun e => own_blk_ne HOJ.out HGB.out (by decide) e.symm)) | fail)
  all_goals
    have HFIN := hide (show LineAt w0 gl b (putI d 1 ds) (w7.setCell ⟨gl, 6, none⟩ (.slice A7 (ny + kk) c7)) from by
      obtain ⟨L4, h1, h2⟩ := HM3.out.wroteMore (W := w3.drew) (i := 1) ((Ext.refl w3).drew) (by omega) (xs := ds.take kk) (m := kk) HVY.out HYN.out (by rw [List.length_take, HML.out]; omega) ho7 hg7 ha7
      refine ⟨L4, ?_, by rw [h2, HB3.out]; exact HLB.out⟩
      unfold putI
      rw [HKK.out]
      exact h1)
    clear ho7 hg7 ha7 n5 nf
    go_wp2_with fail
    (first | go_end0 | ((try simp only [Exit.inBlock, Exit.then]); refine bodyPost_ret (results_none rfl _ _ _) rfl ?_))
    exact ⟨rfl, HFIN.out⟩
set_option maxHeartbeats 4000000 in
set_option maxRecDepth 100000 in
theorem own_take1 (w0 : World) (gl : Nat) (b : Nat → Nat) (d : LineD) (w : World) (h : LineAt w0 gl b d w) (n : Nat) (D : Option Addr) (m c : Nat) (ds : List UInt8) (hn : n ≤ 256) (hgl : (d.g 1).length ≤ 100000) :
    Calls Try.prog 15 #[.pointer (some ⟨gl, 0, none⟩), .agg #[.int .i64 2, .int .i64 1, .int .i64 n, .slice D m c]] w fun r w' => r = .returned (.tuple #[]) ∧ LineAt w0 gl b (takeI d 1 n) w' := by
  obtain ⟨i0, hi0, hz0, hz1, hz2⟩ := info_parts byte_info
  obtain ⟨L, h, hLb⟩ := h
  have HM := hide h
  have HLB := hide hLb
  have HHY := hide (show True from trivial)
  obtain ⟨p0, p1, p2, p3, p6, p7, p10⟩ := h.chars
  obtain ⟨gi, hgi⟩ : ∃ x, L.b 1 = x := ⟨_, rfl⟩
  have HEND := hide (show EndM w gi (d.e 1) (L.vo 1) (L.vi 1) by rw [← hgi]; exact h.end_ 1 (by omega))
  have HOK := hide (h.ok 1 (by omega))
  have HLV := hide (h.live 1 (by omega))
  have q0 : w.cell? ⟨gl, 1, none⟩ = some (.pointer (some ⟨gi, 0, none⟩)) := by rw [← hgi]; exact p1
  have HGI := hide hgi
  have HSZ := hide h.ext.size
  clear h hLb hgi p0 p1 p2 p3 p6 p7 p10
  go_enter Try.func15, Try.ntmps15
  go_upto_region 1 with fail
  have HXA := hide ((Ext.refl w).alloc (.cells #[.int .i64 2, .int .i64 1, .int .i64 n, .slice D m c] 35))
  have HBX := hide (Blk.new w 35 #[.int .i64 2, .int .i64 1, .int .i64 n, .slice D m c])
  generalize w.alloc (.cells #[.int .i64 2, .int .i64 1, .int .i64 n, .slice D m c] 35) = W at *
  obtain ⟨gt, hgt⟩ : ∃ x, w.heap.size = x := ⟨_, rfl⟩
  rw [hgt] at HBX ⊢
  have HGT := hide hgt
  clear hgt
  have b1 : W.cell? ⟨gt, 1, none⟩ = some (.int .i64 1) := HBX.out.cell 1
  have q1 : W.cell? ⟨gl, 1, none⟩ = some (.pointer (some ⟨gi, 0, none⟩)) := HXA.out.cell q0
  clear q0
  go_quiet (fail)
  have HX := hide (HXA.out.drewN nq)
  have HB := hide (HBX.out.drewN nq)
  have HE := hide (HEND.out.ext HX.out)
  clear b1 q1 HXA HBX HEND
  generalize W.drewN nq = V at *
  have b0 : V.cell? ⟨gt, 0, none⟩ = some (.int .i64 2) := HB.out.cell 0
  have b2 : V.cell? ⟨gt, 2, none⟩ = some (.int .i64 n) := HB.out.cell 2
  have b3 : V.cell? ⟨gt, 3, none⟩ = some (.slice D m c) := HB.out.cell 3
  have hne : gt ≠ gl := fun e => by
    have h1 := HM.out.box.lt
    rw [HGT.out] at h1
    omega
  cases her : readErr (d.e 1) n with
  | some er =>
    have HPO := hide (show takeI d 1 n = d by unfold takeI; rw [her])
    have HRE := hide (read_fails V gi (d.e 1) (L.vo 1) (L.vi 1) n er HE.out hn her)
    clear her
    go_wp2_with fail
    refine HRE.out.mono ?_
    rintro r w3 ⟨rfl, rfl⟩
    have hrow : V.ownsRow w0.heap.size 5 1 (L.vg 1) (d.g 1).length (bytesV (d.g 1)) := (HM.out.extend HX.out).read 1 (by omega)
    obtain ⟨Ay, cy, hvy, hny, hcy, -⟩ := own_form hrow
    obtain ⟨ny, hyn⟩ : ∃ x, (d.g 1).length = x := ⟨_, rfl⟩
    rw [hyn] at hny hvy hgl
    rw [hyn, hvy] at hrow
    have y0 : V.cell? ⟨gl, 7, none⟩ = some (.slice Ay ny cy) := by rw [← hvy]; exact (HM.out.extend HX.out).box.cell 7
    have yf : V.frozen? ⟨gl, 7, none⟩ = false := (HM.out.extend HX.out).box.frozen 7
    have HVY := hide hvy
    have HYN := hide hyn
    have HROW := hide hrow
    have HBX := hide (HM.out.extend HX.out).box
    have hsz3 : w0.heap.size ≤ V.heap.size := ((HM.out.extend HX.out).ext).size
    clear hvy hyn hrow hny hcy
    go_wp2_with (at_builtin; refine wpList_append_any _ rfl (.tmp 59) (.tmp 60) _ rfl w0.heap.size 5 i0 _ 1 1 Try.underlying24 hi0 hz0 hz1 hz2 rfl (by omega) (.slice Ay ny cy) ny (bytesV (d.g 1)) (by rfl) HROW.out w0.heap.size none 0 0 [] (by rfl) Reads.none_ (by simp) (by simp only [maxLen]; omega) (by omega) hsz3 ?_; intro A7 c7 w7 ho7 hg7 ha7; have n5 : w7.cell? ⟨gl, 7, none⟩ = some (.slice Ay ny cy) := hg7.cell y0 (fun e => own_blk_ne HROW.out HBX.out (by decide) e.symm); have nf : w7.frozen? ⟨gl, 7, none⟩ = false := (HBX.out.grown hg7 (fun e => own_blk_ne HROW.out HBX.out (by decide) e.symm)).frozen 7)
    (first | go_end0 | ((try simp only [Exit.inBlock, Exit.then]); refine bodyPost_ret (results_none rfl _ _ _) rfl ?_))
    refine ⟨rfl, ?_⟩
    obtain ⟨L4, h1, h2⟩ := (HM.out.extend HX.out).readMore (W := V) (i := 1) (Ext.refl V) (by omega) (xs := []) (m := 0) HVY.out HYN.out rfl (by simpa [bytesV] using ho7) hg7 ha7
    refine ⟨L4, ?_, by rw [h2]; exact HLB.out⟩
    rw [HPO.out]
    have e : upd d.g 1 (d.g 1 ++ []) = d.g := by
      funext j
      unfold upd
      split
      · rename_i e
        subst e
        rw [List.append_nil]
      · rfl
    rw [e] at h1
    exact h1
  | none =>
    have HPO := hide (show takeI d 1 n = { d with e := upd d.e 1 (readTo (d.e 1) n), g := upd d.g 1 (d.g 1 ++ (d.e 1).inn.take (readN (d.e 1) n)) } by unfold takeI; rw [her])
    have HRE := hide (read_ok V gi (d.e 1) (L.vo 1) (L.vi 1) n HE.out HOK.out hn her)
    clear her
    go_wp2_with fail
    refine HRE.out.mono ?_
    rintro r w3 ⟨Ar, cr, rfl, hrr, hop⟩
    have hop' : EndOp V (L.b 1) (L.vo 1) (L.vi 1) (readTo (d.e 1) n) w3 := by rw [HGI.out]; exact hop
    obtain ⟨L3, hm3, hb3, hp3, -⟩ := (HM.out.extend HX.out).endOp (i := 1) (by omega) (readTo_ok HOK.out n) (show Live (readTo (d.e 1) n) from HLV.out) hop'
    have hk64 : readN (d.e 1) n ≤ 64 := by have := HOK.out.inn; unfold readN; omega
    have htl : ((d.e 1).inn.take (readN (d.e 1) n)).length = readN (d.e 1) n := by rw [List.length_take]; unfold readN; omega
    obtain ⟨kk, hkk⟩ : ∃ x, readN (d.e 1) n = x := ⟨_, rfl⟩
    obtain ⟨xs, hxs⟩ : ∃ x, (d.e 1).inn.take (readN (d.e 1) n) = x := ⟨_, rfl⟩
    have HPO2 := hide (show takeI d 1 n = { d with e := upd d.e 1 (readTo (d.e 1) n), g := upd d.g 1 (d.g 1 ++ xs) } by rw [HPO.out, hxs])
    rw [hxs] at hrr htl
    rw [hkk] at hrr hk64 htl ⊢
    have HTL := hide htl
    have HRR := hide hrr
    have hrow : w3.ownsRow w0.heap.size 5 1 (L3.vg 1) (d.g 1).length (bytesV (d.g 1)) := hm3.read 1 (by omega)
    obtain ⟨Ay, cy, hvy, hny, hcy, -⟩ := own_form hrow
    obtain ⟨ny, hyn⟩ : ∃ x, (d.g 1).length = x := ⟨_, rfl⟩
    rw [hyn] at hny hvy hgl
    rw [hyn, hvy] at hrow
    have y0 : w3.cell? ⟨gl, 7, none⟩ = some (.slice Ay ny cy) := by rw [← hvy]; exact hm3.box.cell 7
    have yf : w3.frozen? ⟨gl, 7, none⟩ = false := hm3.box.frozen 7
    have HM3 := hide hm3
    have HB3 := hide hb3
    have HVY := hide hvy
    have HYN := hide hyn
    have HROW := hide hrow
    have HBX := hide hm3.box
    have hsz3 : w0.heap.size ≤ w3.heap.size := hm3.ext.size
    clear hop hop' hm3 hb3 hp3 hkk hxs hvy hyn hrow hny hcy hrr htl b0 b2 b3
    go_wp2_with (at_builtin; refine wpList_append_any _ rfl (.tmp 59) (.tmp 60) _ rfl w0.heap.size 5 i0 _ 1 1 Try.underlying24 hi0 hz0 hz1 hz2 rfl (by omega) (.slice Ay ny cy) ny (bytesV (d.g 1)) (by rfl) HROW.out _ Ar kk cr (bytesV xs) (by rfl) (Reads.of_own HRR.out) (bytesV_one _) (by simp only [maxLen]; omega) (by omega) hsz3 ?_; intro A7 c7 w7 ho7 hg7 ha7; have n5 : w7.cell? ⟨gl, 7, none⟩ = some (.slice Ay ny cy) := hg7.cell y0 (fun e => own_blk_ne HROW.out HBX.out (by decide) e.symm); have nf : w7.frozen? ⟨gl, 7, none⟩ = false := (HBX.out.grown hg7 (fun e => own_blk_ne HROW.out HBX.out (by decide) e.symm)).frozen 7)
    (first | go_end0 | ((try simp only [Exit.inBlock, Exit.then]); refine bodyPost_ret (results_none rfl _ _ _) rfl ?_))
    refine ⟨rfl, ?_⟩
    obtain ⟨L4, h1, h2⟩ := HM3.out.readMore (W := w3) (i := 1) (Ext.refl w3) (by omega) (xs := xs) (m := kk) HVY.out HYN.out HTL.out ho7 hg7 ha7
    refine ⟨L4, ?_, by rw [h2, HB3.out]; exact HLB.out⟩
    rw [HPO2.out]
    exact h1
set_option maxHeartbeats 4000000 in
set_option maxRecDepth 100000 in
theorem own_shut1 (w0 : World) (gl : Nat) (b : Nat → Nat) (d : LineD) (w : World) (h : LineAt w0 gl b d w) (n : Int) (D : Option Addr) (m c : Nat) (ds : List UInt8) :
    Calls Try.prog 15 #[.pointer (some ⟨gl, 0, none⟩), .agg #[.int .i64 3, .int .i64 1, .int .i64 n, .slice D m c]] w fun r w' => r = .returned (.tuple #[]) ∧ LineAt w0 gl b (shutI d 1) w' := by
  obtain ⟨i0, hi0, hz0, hz1, hz2⟩ := info_parts byte_info
  obtain ⟨L, h, hLb⟩ := h
  have HM := hide h
  have HLB := hide hLb
  have HHY := hide (show True from trivial)
  obtain ⟨p0, p1, p2, p3, p6, p7, p10⟩ := h.chars
  obtain ⟨gi, hgi⟩ : ∃ x, L.b 1 = x := ⟨_, rfl⟩
  have HEND := hide (show EndM w gi (d.e 1) (L.vo 1) (L.vi 1) by rw [← hgi]; exact h.end_ 1 (by omega))
  have HOK := hide (h.ok 1 (by omega))
  have HLV := hide (h.live 1 (by omega))
  have q0 : w.cell? ⟨gl, 1, none⟩ = some (.pointer (some ⟨gi, 0, none⟩)) := by rw [← hgi]; exact p1
  have HGI := hide hgi
  have HSZ := hide h.ext.size
  clear h hLb hgi p0 p1 p2 p3 p6 p7 p10
  go_enter Try.func15, Try.ntmps15
  go_upto_region 1 with fail
  have HXA := hide ((Ext.refl w).alloc (.cells #[.int .i64 3, .int .i64 1, .int .i64 n, .slice D m c] 35))
  have HBX := hide (Blk.new w 35 #[.int .i64 3, .int .i64 1, .int .i64 n, .slice D m c])
  generalize w.alloc (.cells #[.int .i64 3, .int .i64 1, .int .i64 n, .slice D m c] 35) = W at *
  obtain ⟨gt, hgt⟩ : ∃ x, w.heap.size = x := ⟨_, rfl⟩
  rw [hgt] at HBX ⊢
  have HGT := hide hgt
  clear hgt
  have b1 : W.cell? ⟨gt, 1, none⟩ = some (.int .i64 1) := HBX.out.cell 1
  have q1 : W.cell? ⟨gl, 1, none⟩ = some (.pointer (some ⟨gi, 0, none⟩)) := HXA.out.cell q0
  clear q0
  go_quiet (fail)
  have HX := hide (HXA.out.drewN nq)
  have HB := hide (HBX.out.drewN nq)
  have HE := hide (HEND.out.ext HX.out)
  clear b1 q1 HXA HBX HEND
  generalize W.drewN nq = V at *
  have b0 : V.cell? ⟨gt, 0, none⟩ = some (.int .i64 3) := HB.out.cell 0
  have b2 : V.cell? ⟨gt, 2, none⟩ = some (.int .i64 n) := HB.out.cell 2
  have b3 : V.cell? ⟨gt, 3, none⟩ = some (.slice D m c) := HB.out.cell 3
  have hne : gt ≠ gl := fun e => by
    have h1 := HM.out.box.lt
    rw [HGT.out] at h1
    omega
  go_wp2_with fail
  refine (shut_any V gi (d.e 1) (L.vo 1) (L.vi 1) HE.out).mono ?_
  rintro r w3 ⟨rfl, hop⟩
  have hop' : EndOp V (L.b 1) (L.vo 1) (L.vi 1) (shutE (d.e 1)).1 w3 := by rw [HGI.out]; exact hop
  obtain ⟨L3, hm3, hb3, hp3, -⟩ := (HM.out.extend HX.out).endOp (i := 1) (by omega) (by
    unfold shutE
    split
    · exact HOK.out
    · exact ⟨HOK.out.st, HOK.out.una, HOK.out.nxt, HOK.out.top, HOK.out.first, HOK.out.rcv, HOK.out.out, HOK.out.inn, HOK.out.peer, HOK.out.wait, HOK.out.tries⟩) (by
    unfold shutE
    split <;> exact HLV.out) hop'
  have HM3 := hide hm3
  have HB3 := hide hb3
  clear hop hop' hm3 hb3 hp3
  go_wp2_with fail
  (first | go_end0 | ((try simp only [Exit.inBlock, Exit.then]); refine bodyPost_ret (results_none rfl _ _ _) rfl ?_))
  exact ⟨rfl, L3, HM3.out, by rw [HB3.out]; exact HLB.out⟩
end Go.Proofs.Ytacfffegmmdgfaa
