/- The contract of (*line).deed. -/
import Derived.Test.YtacfffegmmdgfaaOwnW
import Derived.Test.YtacfffegmmdgfaaLetDel
import Derived.Great.BuildSlice
namespace Go.Proofs.Ytacfffegmmdgfaa
open Go.RowKit
set_option linter.unusedVariables false

def opWay5 : Op := Op.load 44 (Operand.tmp 28)
theorem opWay5_eq : opWay5 = Op.load 44 (Operand.tmp 28) := rfl
def opWay10 : Op := Op.load 44 (Operand.tmp 57)
theorem opWay10_eq : opWay10 = Op.load 44 (Operand.tmp 57) := rfl
theorem map_eraseD {α β : Type} (f : α → β) : ∀ (l : List α) (k : Nat), (l.map f).eraseIdx k = (l.eraseIdx k).map f
  | [], k => by simp
  | x :: l, 0 => by simp
  | x :: l, k + 1 => by simp [map_eraseD f l k]
/-- The way lies anew, a letter less. -/
theorem LineM.rewayed {w0 w W : World} {gl : Nat} {L : LineL} {d : LineD} (h : LineM w0 gl L d w) (hx : Ext w W) {n ny : Nat} (hny : d.y.length = ny) (hn : n < ny) {A7 : Option Addr} {c7 : Nat}
    (ho7 : W.ownsRow w.heap.size 64 2 (.slice A7 (ny - 1) c7) (ny - 1) ((L.ls.eraseIdx n).flatMap letC)) :
    ∃ L', LineM w0 gl L' (loseP d n) (W.setCell ⟨gl, 10, none⟩ (.slice A7 (ny - 1) c7)) ∧ L'.b = L.b := by
  have hglW : Blk W gl 46 (lineC L) := h.box.ext hx
  have hsz : W.heap.size = (W.setCell ⟨gl, 10, none⟩ (.slice A7 (ny - 1) c7)).heap.size := by simp
  have hset : ∀ k, k ≠ gl → (W.setCell ⟨gl, 10, none⟩ (.slice A7 (ny - 1) c7)).heap[k]? = W.heap[k]? := fun k hk => Below.heap_setCell W ⟨gl, 10, none⟩ _ k hk
  have hK : KeepF (fun k => k = gl ∨ L.T k = 6) w (W.setCell ⟨gl, 10, none⟩ (.slice A7 (ny - 1) c7)) :=
    ⟨hx.os, hx.tape, hx.output, by rw [← hsz]; exact hx.size, fun k hk hn => (hset k (fun e => hn (.inl e))).trans (hx.block k hk)⟩
  have hbox : Blk (W.setCell ⟨gl, 10, none⟩ (.slice A7 (ny - 1) c7)) gl 46 (lineC { L with vy := .slice A7 (ny - 1) c7, ls := L.ls.eraseIdx n, T := newT w L.T 6 }) := hglW.set_ 10 _
  have h7 : (W.setCell ⟨gl, 10, none⟩ (.slice A7 (ny - 1) c7)).ownsRow w0.heap.size 64 2 (.slice A7 (ny - 1) c7) (ny - 1) ((L.ls.eraseIdx n).flatMap letC) :=
    own_far (p := ⟨gl, 10, none⟩) (own_mono ho7 h.ext.size) (own_blk_ne ho7 hglW (by decide)) _
  refine ⟨_, h.turn (c := 6) (by omega) hK (fun k hf => hf) hbox rfl rfl rfl rfl (fun k hk => newT_old hk) (fun i hi => .inl ⟨rfl, rfl, by omega⟩) (fun i hi => .inl ⟨rfl, rfl, by omega⟩) (.inr ⟨?_, ?_, ?_, ?_, ?_, ?_, ?_⟩), rfl⟩
  · show (W.setCell ⟨gl, 10, none⟩ (.slice A7 (ny - 1) c7)).ownsRow w0.heap.size 64 2 (.slice A7 (ny - 1) c7) (d.y.eraseIdx n).length _
    rw [List.length_eraseIdx_of_lt (by omega), hny]
    exact h7
  · show (L.ls.eraseIdx n).map (·.1) = d.y.eraseIdx n
    rw [← map_eraseD, h.segs]
  · exact fun x hx => h.dst x (List.mem_of_mem_eraseIdx hx)
  · exact fun x hx => h.sok x (List.mem_of_mem_eraseIdx hx)
  · intro x hx
    have hm := List.mem_of_mem_eraseIdx hx
    exact hK.own (h.lets x hm) (fun k hv hf => by
      have h1 := h.tl x hm k hv
      rcases hf with rfl | h2
      · rw [h.tb] at h1; omega
      · omega)
  · intro k hk
    exact newT_new (ho7.lt k hk).1
  · intro x hx k hv
    have hm := List.mem_of_mem_eraseIdx hx
    show newT w L.T 6 k = 8
    rw [newT_old ((h.lets x hm).lt k hv).2]
    exact h.tl x hm k hv
theorem decode_seg (s : SegD) (ok : s.Ok) (m : Nat) (hm : s.data.length = m) (A : Option Addr) (c B : Nat) (w : World) (hr : Reads w B 1 A (14 + m) (bytesV (Sg.enc (toSg s)))) (hB : B ≤ w.heap.size) (hnc : 14 + m ≤ c) (hc : c ≤ maxLen) :
    Calls Try.prog 28 #[.slice A (14 + m) c] w fun e w' =>
      ∃ A' c', e = .returned (.tuple #[.agg #[.int .u32 s.seq, .int .u32 s.ack, .int .i64 s.fl, .int .i64 s.wd, .slice A' m c'], .int .i64 0]) ∧ w'.ownsRow w.heap.size 5 1 (.slice A' m c') m (bytesV s.data) ∧ Ext w w' := by
  obtain ⟨h1, h2, h3, h4⟩ := toSg_is ok
  have := Sg.decode_enc (toSg s) (toSg_ok ok) m hm A c B w hr hB hnc hc
  rw [h1, h2, h3, h4] at this
  exact this
set_option maxHeartbeats 4000000 in
set_option maxRecDepth 100000 in
theorem deed_copy (w0 : World) (gl : Nat) (b : Nat → Nat) (d : LineD) (w : World) (h : LineAt w0 gl b d w) (ed : Int) (n : Nat) (hn : n < d.y.length) (hy : d.y.length ≤ 64) (D : Option Addr) (m c : Nat) :
    Calls Try.prog 16 #[.pointer (some ⟨gl, 0, none⟩), .agg #[.int .i64 6, .int .i64 ed, .int .i64 n, .slice D m c]] w fun r w' => r = .returned (.tuple #[]) ∧ LineAt w0 gl b (copyP d n) w' := by
  obtain ⟨i0, hi0, hz0, hz1, hz2⟩ := info_parts letter_info
  obtain ⟨L, h, hLb⟩ := h
  have hll : L.ls.length = d.y.length := by rw [← h.segs, List.length_map]
  have hway := h.way
  obtain ⟨Ay, cy, hvy, hny, hcy, -⟩ := own_form hway
  obtain ⟨ny, hyn⟩ : ∃ x, d.y.length = x := ⟨_, rfl⟩
  rw [hyn] at hvy hny hn hy hll
  rw [hyn, hvy] at hway
  obtain ⟨gy, hgy, -⟩ := own_addr hway (by omega)
  subst hgy
  have hkl : n < L.ls.length := by omega
  have hrd := Reads.of_own hway
  have r0 := Reads.elem letC_len hrd n hkl (by omega) 0 (by omega) (u := .int .i64 ((L.ls[n].1.1 : Nat) : Int)) rfl
  have r1 := Reads.elem letC_len hrd n hkl (by omega) 1 (by omega) (u := L.ls[n].2) rfl
  have hxm : L.ls[n] ∈ L.ls := List.getElem_mem hkl
  have hyk : (d.y)[n]? = some L.ls[n].1 := by rw [← h.segs, List.getElem?_map, List.getElem?_eq_getElem hkl]; rfl
  have hlx := h.lets _ hxm
  have htx := h.tl _ hxm
  have hjx := h.dst _ (List.mem_of_getElem? hyk)
  have hsx := h.sok _ (List.mem_of_getElem? hyk)
  obtain ⟨x, hx⟩ : ∃ x, L.ls[n] = x := ⟨_, rfl⟩
  rw [hx] at r0 r1 hyk hlx htx hjx hsx
  obtain ⟨⟨j, s⟩, vb⟩ := x
  obtain ⟨Ab, cb, hvb, hnb, hcb, -⟩ := own_form hlx
  dsimp only at r0 r1 hyk hlx htx hjx hsx hvb hnb
  subst hvb
  obtain ⟨ns, hns⟩ : ∃ x, s.data.length = x := ⟨_, rfl⟩
  have hlx' : w.ownsRow w0.heap.size 5 1 (.slice Ab (14 + ns) cb) (14 + ns) (bytesV (Sg.enc (toSg s))) := by rw [← hns]; exact hlx
  rw [hns] at r1 htx hnb
  have q0 : w.cell? ⟨gy, n * 2, none⟩ = some (.int .i64 ((j : Nat) : Int)) := by simpa using r0
  have q1 : w.cell? ⟨gy, n * 2 + 1, none⟩ = some (.slice Ab (14 + ns) cb) := by simpa using r1
  have q2 : w.cell? ⟨gl, 10, none⟩ = some (.slice (some ⟨gy, 0, none⟩) ny cy) := by rw [← hvy]; exact h.box.cell 10
  have hs0 : w0.heap.size ≤ w.heap.size := h.ext.size
  have HM := hide h
  have HLB := hide hLb
  have HVY := hide hvy
  have HYN := hide hyn
  have HWAY := hide hway
  have HLX := hide hlx'
  have HTX := hide htx
  have HSX := hide hsx
  have HYK := hide hyk
  have HNS := hide hns
  have HNB := hide (⟨hnb, hcb⟩ : 14 + ns ≤ cb ∧ cb ≤ maxLen)
  unfold maxLen at hcy
  clear h hLb hvy hyn hway hrd r0 r1 hxm hyk hlx hlx' htx hsx hx hns hll hnb hcb
  go_enter Try.func16, Try.ntmps16
  go_upto_region 1 with fail
  have HXA := hide ((Ext.refl w).alloc (.cells #[.int .i64 6, .int .i64 ed, .int .i64 n, .slice D m c] 35))
  have HBX := hide (Blk.new w 35 #[.int .i64 6, .int .i64 ed, .int .i64 n, .slice D m c])
  generalize w.alloc (.cells #[.int .i64 6, .int .i64 ed, .int .i64 n, .slice D m c] 35) = W at *
  obtain ⟨gt, hgt⟩ : ∃ x, w.heap.size = x := ⟨_, rfl⟩
  rw [hgt] at HBX ⊢
  have HGT := hide hgt
  clear hgt
  have b2 : W.cell? ⟨gt, 2, none⟩ = some (.int .i64 n) := HBX.out.cell 2
  have p0 := HXA.out.cell q0
  have p1 := HXA.out.cell q1
  have p2 := HXA.out.cell q2
  clear q0 q1 q2
  have hnI : (n : Int) < (ny : Int) := by omega
  have hn0 : (0 : Int) ≤ (n : Int) := by omega
  go_region_held3 (fun w' => w'.cell? ⟨gt, 2, none⟩ = some (.int .i64 n) ∧ w'.cell? ⟨gy, n * 2, none⟩ = some (.int .i64 ((j : Nat) : Int)) ∧ w'.cell? ⟨gy, n * 2 + 1, none⟩ = some (.slice Ab (14 + ns) cb) ∧ w'.cell? ⟨gl, 10, none⟩ = some (.slice (some ⟨gy, 0, none⟩) ny cy)) (first | (refine ⟨?_, ?_, ?_, ?_⟩ <;> ((repeat (first | with_reducible assumption | (with_reducible refine far3 ?_) | (with_reducible refine far4 ?_) | (with_reducible refine far2 ?_ (by decide) _) | (with_reducible refine far1 ?_ (by dsimp only; omega) _))); done)) | go_keep | fail) (fail)
  all_goals
    have HXU := hide ((HXA.out.alloc (.cells #[.int .i64 ((j : Nat) : Int), .slice Ab (14 + ns) cb] 64)).drew)
    have HBV := hide ((Blk.new W 64 #[.int .i64 ((j : Nat) : Int), .slice Ab (14 + ns) cb]).drew)
    have HBT := hide ((HBX.out.alloc (.cells #[.int .i64 ((j : Nat) : Int), .slice Ab (14 + ns) cb] 64)).drew)
    have HXW := hide HXA.out
    clear b2 p0 p1 p2 HXA HBX
    generalize (W.alloc (.cells #[.int .i64 ((j : Nat) : Int), .slice Ab (14 + ns) cb] 64)).drew = U at *
    obtain ⟨gv, hgv⟩ : ∃ x, W.heap.size = x := ⟨_, rfl⟩
    rw [hgv] at HBV ⊢
    have HGV := hide (show w.heap.size ≤ gv by rw [← hgv]; exact HXW.out.size)
    clear hgv
    have v0 : U.cell? ⟨gv, 0, none⟩ = some (.int .i64 ((j : Nat) : Int)) := HBV.out.cell 0
    have v1 : U.cell? ⟨gv, 1, none⟩ = some (.slice Ab (14 + ns) cb) := HBV.out.cell 1
    have t0 : U.cell? ⟨gt, 0, none⟩ = some (.int .i64 6) := HBT.out.cell 0
    have t2 : U.cell? ⟨gt, 2, none⟩ = some (.int .i64 n) := HBT.out.cell 2
    have HMU := hide (HM.out.extend HXU.out)
    have y10 : U.cell? ⟨gl, 10, none⟩ = some (.slice (some ⟨gy, 0, none⟩) ny cy) := by rw [← HVY.out]; exact HMU.out.box.cell 10
    have yf : U.frozen? ⟨gl, 10, none⟩ = false := HMU.out.box.frozen 10
    by_cases h64 : ny < 64
    · have hI : (ny : Int) < 64 := by omega
      go_upto_region 5 with fail
      rw [← opWay5_eq]
      have hOp := opWay5_eq
      have HWJ := hide ((HXU.out.own HWAY.out).drew)
      have HBJ := hide HMU.out.box.drew
      have hsz3 : w0.heap.size ≤ U.heap.size := HMU.out.ext.size
      have hal : ∀ o : Obj, (U.drew.alloc o).cell? ⟨gl, 10, none⟩ = some (.slice (some ⟨gy, 0, none⟩) ny cy) := fun o => Ext.cell (w := U) (((Ext.refl U).drew).alloc o) y10
      have hal2 : ∀ o : Obj, (U.alloc o).cell? ⟨gl, 10, none⟩ = some (.slice (some ⟨gy, 0, none⟩) ny cy) := fun o => Ext.cell (w := U) ((Ext.refl U).alloc o) y10
      have hvy : gv ≠ gy := fun e => by
        have h1 := (HWAY.out.lt gy rfl).2
        have h2 := HGV.out
        omega
      go_region_held3 (fun w' => w'.cell? ⟨gv, 0, none⟩ = some (.int .i64 ((j : Nat) : Int)) ∧ w'.cell? ⟨gv, 1, none⟩ = some (.slice Ab (14 + ns) cb)) (first | exact ⟨v0, v1⟩ | (refine ⟨?_, ?_⟩ <;> ((repeat (first | with_reducible assumption | (with_reducible refine far3 ?_) | (with_reducible refine far4 ?_) | (with_reducible refine far2 ?_ (by decide) _) | (with_reducible refine far1 ?_ (by dsimp only; omega) _))); done)) | go_keep | fail)
        (first | (refine step_append_any _ (by rfl) (.tmp 29) (.tmp 31) 44 (by rfl) w0.heap.size 64 i0 _ 2 32 Try.underlying44 hi0 hz0 hz1 hz2 rfl (by omega) (.slice (some ⟨gy, 0, none⟩) ny cy) ny (L.ls.flatMap letC) (by rfl) (Ext.own (w := U) (by ((repeat (first | with_reducible exact Ext.refl _ | with_reducible assumption | with_reducible refine Ext.alloc ?_ _ | with_reducible refine Ext.drew ?_ | with_reducible refine Ext.drewN ?_ _ | with_reducible refine Ext.setCell ?_ (by first | exact Nat.le_refl _ | assumption | (simp; done) | omega) _ | with_reducible refine Ext.trans ?_ (by with_reducible assumption))); done)) (HXU.out.own HWAY.out)) _ _ 1 1 (letC ((j, s), .slice Ab (14 + ns) cb)) (by rfl) (Blk.new U.drew 64 #[.int .i64 ((j : Nat) : Int), .slice Ab (14 + ns) cb]).reads2 (by simp [letC, Value.oneCell']) (by simp only [maxLen]; omega) (by omega) (Nat.le_trans hsz3 (Ext.size (w := U) (by ((repeat (first | with_reducible exact Ext.refl _ | with_reducible assumption | with_reducible refine Ext.alloc ?_ _ | with_reducible refine Ext.drew ?_ | with_reducible refine Ext.drewN ?_ _ | with_reducible refine Ext.setCell ?_ (by first | exact Nat.le_refl _ | assumption | (simp; done) | omega) _ | with_reducible refine Ext.trans ?_ (by with_reducible assumption))); done)))) ?_; intro A7 c7 w7 ho7 hg7 ha7; have n5 : w7.cell? ⟨gl, 10, none⟩ = some (.slice (some ⟨gy, 0, none⟩) ny cy) := hg7.cell (Ext.cell (w := U) (by ((repeat (first | with_reducible exact Ext.refl _ | with_reducible assumption | with_reducible refine Ext.alloc ?_ _ | with_reducible refine Ext.drew ?_ | with_reducible refine Ext.drewN ?_ _ | with_reducible refine Ext.setCell ?_ (by first | exact Nat.le_refl _ | assumption | (simp; done) | omega) _ | with_reducible refine Ext.trans ?_ (by with_reducible assumption))); done)) y10) (fun e => own_blk_ne HWJ.out HBJ.out (by decide) e.symm); have nf : w7.frozen? ⟨gl, 10, none⟩ = false := (Blk.grown (Blk.ext HMU.out.box (by ((repeat (first | with_reducible exact Ext.refl _ | with_reducible assumption | with_reducible refine Ext.alloc ?_ _ | with_reducible refine Ext.drew ?_ | with_reducible refine Ext.drewN ?_ _ | with_reducible refine Ext.setCell ?_ (by first | exact Nat.le_refl _ | assumption | (simp; done) | omega) _ | with_reducible refine Ext.trans ?_ (by with_reducible assumption))); done))) hg7 (fun e => own_blk_ne HWJ.out HBJ.out (by decide) e.symm)).frozen 10; have k70 : Blk w7 gv 64 _ := Blk.grown (Blk.ext HBV.out (by ((repeat (first | with_reducible exact Ext.refl _ | with_reducible assumption | with_reducible refine Ext.alloc ?_ _ | with_reducible refine Ext.drew ?_ | with_reducible refine Ext.drewN ?_ _ | with_reducible refine Ext.setCell ?_ (by first | exact Nat.le_refl _ | assumption | (simp; done) | omega) _ | with_reducible refine Ext.trans ?_ (by with_reducible assumption))); done))) hg7 (fun e => hvy (by have e2 : (some gy : Option Nat) = some gv := (by first | exact e | exact e.symm); injection e2 with e3; exact e3.symm)); have k71 : w7.cell? ⟨gv, 0, none⟩ = some (.int .i64 ((j : Nat) : Int)) := k70.cell 0; have k72 : w7.cell? ⟨gv, 1, none⟩ = some (.slice Ab (14 + ns) cb) := k70.cell 1) | fail)
      all_goals
        have HFIN := hide (show LineAt w0 gl b (copyP d n) (w7.setCell ⟨gl, 10, none⟩ (.slice A7 (ny + 1) c7)) from by
          obtain ⟨L3, h1, h2, h3, h4⟩ := HMU.out.pushed (W := U.drew.alloc (.cells #[.int .i64 ((j : Nat) : Int), .slice Ab (14 + ns) cb] 64)) (j := j) (s := s) (vb := .slice Ab (14 + ns) cb) (((Ext.refl U).drew).alloc _) hjx HSX.out (by
            have h8 := HNS.out
            subst h8
            exact (((Ext.refl U).drew).alloc _).own (HXU.out.own HLX.out)) (fun k hk => by
            have h9 := (HLX.out.lt k hk).2
            exact ⟨Nat.lt_of_lt_of_le h9 (HXU.out.trans (((Ext.refl U).drew).alloc _)).size, fun _ => HTX.out k hk⟩) HVY.out HYN.out ho7 hg7 ha7
          refine ⟨L3, ?_, by rw [h2]; exact HLB.out⟩
          have e : copyP d n = { d with y := d.y ++ [(j, s)] } := by
            unfold copyP
            rw [if_pos (by rw [HYN.out]; exact h64), HYK.out]
            rfl
          rw [e]
          exact h1)
        clear ho7 hg7 ha7 n5 nf k70 k71 k72
        go_wp2_with fail
        (first | go_end0 | ((try simp only [Exit.inBlock, Exit.then]); refine bodyPost_ret (results_none rfl _ _ _) rfl ?_))
        exact ⟨rfl, HFIN.out⟩
    · have hI : ¬ ((ny : Int) < 64) := by omega
      go_wp2_with fail
      (first | go_end0 | ((try simp only [Exit.inBlock, Exit.then]); refine bodyPost_ret (results_none rfl _ _ _) rfl ?_))
      refine ⟨rfl, ?_⟩
      rw [show copyP d n = d by unfold copyP; rw [if_neg (by rw [HYN.out]; exact h64)]]
      exact ⟨L, HMU.out, HLB.out⟩
set_option maxHeartbeats 4000000 in
set_option maxRecDepth 100000 in
theorem deed_lose (w0 : World) (gl : Nat) (b : Nat → Nat) (d : LineD) (w : World) (h : LineAt w0 gl b d w) (ed : Int) (n : Nat) (hn : n < d.y.length) (hy : d.y.length ≤ 64) (D : Option Addr) (m c : Nat) :
    Calls Try.prog 16 #[.pointer (some ⟨gl, 0, none⟩), .agg #[.int .i64 5, .int .i64 ed, .int .i64 n, .slice D m c]] w fun r w' => r = .returned (.tuple #[]) ∧ LineAt w0 gl b (loseP d n) w' := by
  obtain ⟨i0, hi0, hz0, hz1, hz2⟩ := info_parts letter_info
  obtain ⟨L, h, hLb⟩ := h
  have hll : L.ls.length = d.y.length := by rw [← h.segs, List.length_map]
  have hway := h.way
  obtain ⟨Ay, cy, hvy, hny, hcy, -⟩ := own_form hway
  obtain ⟨ny, hyn⟩ : ∃ x, d.y.length = x := ⟨_, rfl⟩
  rw [hyn] at hvy hny hn hy hll
  rw [hyn, hvy] at hway
  obtain ⟨gy, hgy, -⟩ := own_addr hway (by omega)
  subst hgy
  have hkl : n < L.ls.length := by omega
  have hrd := Reads.of_own hway
  have r0 := Reads.elem letC_len hrd n hkl (by omega) 0 (by omega) (u := .int .i64 ((L.ls[n].1.1 : Nat) : Int)) rfl
  have r1 := Reads.elem letC_len hrd n hkl (by omega) 1 (by omega) (u := L.ls[n].2) rfl
  have hxm : L.ls[n] ∈ L.ls := List.getElem_mem hkl
  have hyk : (d.y)[n]? = some L.ls[n].1 := by rw [← h.segs, List.getElem?_map, List.getElem?_eq_getElem hkl]; rfl
  have hlx := h.lets _ hxm
  have htx := h.tl _ hxm
  have hjx := h.dst _ (List.mem_of_getElem? hyk)
  have hsx := h.sok _ (List.mem_of_getElem? hyk)
  obtain ⟨x, hx⟩ : ∃ x, L.ls[n] = x := ⟨_, rfl⟩
  rw [hx] at r0 r1 hyk hlx htx hjx hsx
  obtain ⟨⟨j, s⟩, vb⟩ := x
  obtain ⟨Ab, cb, hvb, hnb, hcb, -⟩ := own_form hlx
  dsimp only at r0 r1 hyk hlx htx hjx hsx hvb hnb
  subst hvb
  obtain ⟨ns, hns⟩ : ∃ x, s.data.length = x := ⟨_, rfl⟩
  have hlx' : w.ownsRow w0.heap.size 5 1 (.slice Ab (14 + ns) cb) (14 + ns) (bytesV (Sg.enc (toSg s))) := by rw [← hns]; exact hlx
  rw [hns] at r1 htx hnb
  have q0 : w.cell? ⟨gy, n * 2, none⟩ = some (.int .i64 ((j : Nat) : Int)) := by simpa using r0
  have q1 : w.cell? ⟨gy, n * 2 + 1, none⟩ = some (.slice Ab (14 + ns) cb) := by simpa using r1
  have q2 : w.cell? ⟨gl, 10, none⟩ = some (.slice (some ⟨gy, 0, none⟩) ny cy) := by rw [← hvy]; exact h.box.cell 10
  have hs0 : w0.heap.size ≤ w.heap.size := h.ext.size
  have HM := hide h
  have HLB := hide hLb
  have HVY := hide hvy
  have HYN := hide hyn
  have HWAY := hide hway
  have HLX := hide hlx'
  have HTX := hide htx
  have HSX := hide hsx
  have HYK := hide hyk
  have HNS := hide hns
  have HNB := hide (⟨hnb, hcb⟩ : 14 + ns ≤ cb ∧ cb ≤ maxLen)
  unfold maxLen at hcy
  clear h hLb hvy hyn hway hrd r0 r1 hxm hyk hlx hlx' htx hsx hx hns hll hnb hcb
  go_enter Try.func16, Try.ntmps16
  go_upto_region 1 with fail
  have HXA := hide ((Ext.refl w).alloc (.cells #[.int .i64 5, .int .i64 ed, .int .i64 n, .slice D m c] 35))
  have HBX := hide (Blk.new w 35 #[.int .i64 5, .int .i64 ed, .int .i64 n, .slice D m c])
  generalize w.alloc (.cells #[.int .i64 5, .int .i64 ed, .int .i64 n, .slice D m c] 35) = W at *
  obtain ⟨gt, hgt⟩ : ∃ x, w.heap.size = x := ⟨_, rfl⟩
  rw [hgt] at HBX ⊢
  have HGT := hide hgt
  clear hgt
  have b2 : W.cell? ⟨gt, 2, none⟩ = some (.int .i64 n) := HBX.out.cell 2
  have p0 := HXA.out.cell q0
  have p1 := HXA.out.cell q1
  have p2 := HXA.out.cell q2
  clear q0 q1 q2
  have hnI : (n : Int) < (ny : Int) := by omega
  have hn0 : (0 : Int) ≤ (n : Int) := by omega
  go_region_held3 (fun w' => w'.cell? ⟨gt, 2, none⟩ = some (.int .i64 n) ∧ w'.cell? ⟨gy, n * 2, none⟩ = some (.int .i64 ((j : Nat) : Int)) ∧ w'.cell? ⟨gy, n * 2 + 1, none⟩ = some (.slice Ab (14 + ns) cb) ∧ w'.cell? ⟨gl, 10, none⟩ = some (.slice (some ⟨gy, 0, none⟩) ny cy)) (first | (refine ⟨?_, ?_, ?_, ?_⟩ <;> ((repeat (first | with_reducible assumption | (with_reducible refine far3 ?_) | (with_reducible refine far4 ?_) | (with_reducible refine far2 ?_ (by decide) _) | (with_reducible refine far1 ?_ (by dsimp only; omega) _))); done)) | go_keep | fail) (fail)
  all_goals
    have HXU := hide ((HXA.out.alloc (.cells #[.int .i64 ((j : Nat) : Int), .slice Ab (14 + ns) cb] 64)).drew)
    have HBV := hide ((Blk.new W 64 #[.int .i64 ((j : Nat) : Int), .slice Ab (14 + ns) cb]).drew)
    have HBT := hide ((HBX.out.alloc (.cells #[.int .i64 ((j : Nat) : Int), .slice Ab (14 + ns) cb] 64)).drew)
    have HXW := hide HXA.out
    clear b2 p0 p1 p2 HXA HBX
    generalize (W.alloc (.cells #[.int .i64 ((j : Nat) : Int), .slice Ab (14 + ns) cb] 64)).drew = U at *
    obtain ⟨gv, hgv⟩ : ∃ x, W.heap.size = x := ⟨_, rfl⟩
    rw [hgv] at HBV ⊢
    have HGV := hide (show w.heap.size ≤ gv by rw [← hgv]; exact HXW.out.size)
    clear hgv
    have v0 : U.cell? ⟨gv, 0, none⟩ = some (.int .i64 ((j : Nat) : Int)) := HBV.out.cell 0
    have v1 : U.cell? ⟨gv, 1, none⟩ = some (.slice Ab (14 + ns) cb) := HBV.out.cell 1
    have t0 : U.cell? ⟨gt, 0, none⟩ = some (.int .i64 5) := HBT.out.cell 0
    have t2 : U.cell? ⟨gt, 2, none⟩ = some (.int .i64 n) := HBT.out.cell 2
    have HMU := hide (HM.out.extend HXU.out)
    have y10 : U.cell? ⟨gl, 10, none⟩ = some (.slice (some ⟨gy, 0, none⟩) ny cy) := by rw [← HVY.out]; exact HMU.out.box.cell 10
    have yf : U.frozen? ⟨gl, 10, none⟩ = false := HMU.out.box.frozen 10
    have HMV := HMU
    have HVYV := HVY
    have HYNV := HYN
    have HBTV := HBT
    have HLBV := HLB
    have HWV := hide (show U.ownsRow w0.heap.size 64 2 (.slice (some ⟨gy, 0, none⟩) ny cy) ny (L.ls.flatMap letC) by have := HMV.out.way; rw [HVYV.out, HYNV.out] at this; exact this)
    have HONE := hide (lets_one HMV.out.lets)
    have z10 : U.cell? ⟨gl, 10, none⟩ = some (.slice (some ⟨gy, 0, none⟩) ny cy) := by rw [← HVYV.out]; exact HMV.out.box.cell 10
    have zf : U.frozen? ⟨gl, 10, none⟩ = false := HMV.out.box.frozen 10
    have z2 : U.cell? ⟨gt, 2, none⟩ = some (.int .i64 n) := HBTV.out.cell 2
    have hne : gt ≠ gl := fun e => by
      have h1 := HM.out.box.lt
      rw [HGT.out] at h1
      omega
    go_upto_region 10 with fail
    rw [← opWay10_eq]
    have hOp := opWay10_eq
    have hkw : IntKind.i64.wrap ((n : Int) + 1) = (n : Int) + 1 := by rw [IntKind.wrap_i64]; omega
    go_region_held3 (fun w' => w'.cell? ⟨gt, 2, none⟩ = some (.int .i64 n)) (first | exact z2 | with_reducible assumption | exact (World.cell?_setCell_other _ _ _ _ (fun e => hne (by injection e with e; exact e.symm))).trans (by assumption) | fail)
      (first | (go_at_call 31; refine (clone_let (some ⟨gy, 0, none⟩) ny cy _ _ _ (Ext.reads (w := U) (by ((repeat (first | with_reducible exact Ext.refl _ | with_reducible assumption | with_reducible refine Ext.alloc ?_ _ | with_reducible refine Ext.drew ?_ | with_reducible refine Ext.drewN ?_ _ | with_reducible refine Ext.setCell ?_ (by first | exact Nat.le_refl _ | assumption | (simp; done) | omega) _ | with_reducible refine Ext.trans ?_ (by with_reducible assumption))); done)) (Reads.of_own HWV.out) (Nat.le_refl _)) HONE.out (Ext.size (w := U) (by ((repeat (first | with_reducible exact Ext.refl _ | with_reducible assumption | with_reducible refine Ext.alloc ?_ _ | with_reducible refine Ext.drew ?_ | with_reducible refine Ext.drewN ?_ _ | with_reducible refine Ext.setCell ?_ (by first | exact Nat.le_refl _ | assumption | (simp; done) | omega) _ | with_reducible refine Ext.trans ?_ (by with_reducible assumption))); done))) (by omega) (fun h => by cases h)).mono ?_; rintro r w4 ⟨A4, c4, rfl, ho4, hx4⟩; have HX4 := hide (show Ext U w4 from Ext.trans (by ((repeat (first | with_reducible exact Ext.refl _ | with_reducible assumption | with_reducible refine Ext.alloc ?_ _ | with_reducible refine Ext.drew ?_ | with_reducible refine Ext.drewN ?_ _ | with_reducible refine Ext.setCell ?_ (by first | exact Nat.le_refl _ | assumption | (simp; done) | omega) _ | with_reducible refine Ext.trans ?_ (by with_reducible assumption))); done)) hx4); have HO4' := hide (own_mono ho4 (show U.heap.size ≤ _ from Ext.size (w := U) (by ((repeat (first | with_reducible exact Ext.refl _ | with_reducible assumption | with_reducible refine Ext.alloc ?_ _ | with_reducible refine Ext.drew ?_ | with_reducible refine Ext.drewN ?_ _ | with_reducible refine Ext.setCell ?_ (by first | exact Nat.le_refl _ | assumption | (simp; done) | omega) _ | with_reducible refine Ext.trans ?_ (by with_reducible assumption))); done)))); obtain ⟨g4, hg4, -⟩ := own_addr ho4 (by omega); subst hg4; have HO4 := hide (show w4.ownsRow U.heap.size 64 2 (.slice (some ⟨g4, 0, none⟩) ny c4) ny (L.ls.flatMap letC) from HO4'.out); have k4 : w4.cell? ⟨gt, 2, none⟩ = some (.int .i64 n) := HX4.out.cell z2; have y4 := HX4.out.cell z10; clear ho4 hx4) | (go_at_call 30; refine (delete_let U.heap.size g4 ny c4 n L.ls _ (Ext.own (w := w4) (by ((repeat (first | with_reducible exact Ext.refl _ | with_reducible assumption | with_reducible refine Ext.alloc ?_ _ | with_reducible refine Ext.drew ?_ | with_reducible refine Ext.drewN ?_ _ | with_reducible refine Ext.setCell ?_ (by first | exact Nat.le_refl _ | assumption | (simp; done) | omega) _ | with_reducible refine Ext.trans ?_ (by with_reducible assumption))); done)) HO4.out) HONE.out hn).mono ?_; rintro r w5 ⟨rfl, ho5, hg5⟩; have HX5 := hide (Ext.grown (Ext.trans HX4.out (by ((repeat (first | with_reducible exact Ext.refl _ | with_reducible assumption | with_reducible refine Ext.alloc ?_ _ | with_reducible refine Ext.drew ?_ | with_reducible refine Ext.drewN ?_ _ | with_reducible refine Ext.setCell ?_ (by first | exact Nat.le_refl _ | assumption | (simp; done) | omega) _ | with_reducible refine Ext.trans ?_ (by with_reducible assumption))); done))) hg5 (fun k hk => by injection hk with hk; subst hk; exact (HO4.out.lt g4 rfl).1)); have n5 : w5.cell? ⟨gl, 10, none⟩ = some (.slice (some ⟨gy, 0, none⟩) ny cy) := HX5.out.cell z10; have nf : w5.frozen? ⟨gl, 10, none⟩ = false := (HX5.out.frozen z10).trans zf; have k5 : w5.cell? ⟨gt, 2, none⟩ = some (.int .i64 n) := HX5.out.cell z2) | fail)
    all_goals
      have HFIN := hide (show LineAt w0 gl b (loseP d n) (w5.setCell ⟨gl, 10, none⟩ (.slice (some ⟨g4, 0, none⟩) (ny - 1) c4)) from by
        obtain ⟨L9, h1, h2⟩ := HMV.out.rewayed HX5.out HYNV.out hn ho5
        exact ⟨L9, h1, by rw [h2]; exact HLBV.out⟩)
      clear ho5 hg5 n5 nf k4 k5 y4
      go_wp2_with fail
      (first | go_end0 | ((try simp only [Exit.inBlock, Exit.then]); refine bodyPost_ret (results_none rfl _ _ _) rfl ?_))
      exact ⟨rfl, HFIN.out⟩
set_option maxHeartbeats 4000000 in
set_option maxRecDepth 100000 in
theorem deed_come0 (w0 : World) (gl : Nat) (b : Nat → Nat) (d : LineD) (w : World) (h : LineAt w0 gl b d w) (ed : Int) (n : Nat) (hn : n < d.y.length) (hy : d.y.length ≤ 64) (D : Option Addr) (m c : Nat) (hj : ∀ x, (d.y)[n]? = some x → x.1 = 0) :
    Calls Try.prog 16 #[.pointer (some ⟨gl, 0, none⟩), .agg #[.int .i64 4, .int .i64 ed, .int .i64 n, .slice D m c]] w fun r w' => r = .returned (.tuple #[]) ∧ LineAt w0 gl b (loseP (heardP d n) n) w' := by
  obtain ⟨i0, hi0, hz0, hz1, hz2⟩ := info_parts letter_info
  obtain ⟨L, h, hLb⟩ := h
  have hll : L.ls.length = d.y.length := by rw [← h.segs, List.length_map]
  have hway := h.way
  obtain ⟨Ay, cy, hvy, hny, hcy, -⟩ := own_form hway
  obtain ⟨ny, hyn⟩ : ∃ x, d.y.length = x := ⟨_, rfl⟩
  rw [hyn] at hvy hny hn hy hll
  rw [hyn, hvy] at hway
  obtain ⟨gy, hgy, -⟩ := own_addr hway (by omega)
  subst hgy
  have hkl : n < L.ls.length := by omega
  have hrd := Reads.of_own hway
  have r0 := Reads.elem letC_len hrd n hkl (by omega) 0 (by omega) (u := .int .i64 ((L.ls[n].1.1 : Nat) : Int)) rfl
  have r1 := Reads.elem letC_len hrd n hkl (by omega) 1 (by omega) (u := L.ls[n].2) rfl
  have hxm : L.ls[n] ∈ L.ls := List.getElem_mem hkl
  have hyk : (d.y)[n]? = some L.ls[n].1 := by rw [← h.segs, List.getElem?_map, List.getElem?_eq_getElem hkl]; rfl
  have hlx := h.lets _ hxm
  have htx := h.tl _ hxm
  have hjx := h.dst _ (List.mem_of_getElem? hyk)
  have hsx := h.sok _ (List.mem_of_getElem? hyk)
  obtain ⟨x, hx⟩ : ∃ x, L.ls[n] = x := ⟨_, rfl⟩
  rw [hx] at r0 r1 hyk hlx htx hjx hsx
  obtain ⟨⟨j, s⟩, vb⟩ := x
  obtain ⟨Ab, cb, hvb, hnb, hcb, -⟩ := own_form hlx
  dsimp only at r0 r1 hyk hlx htx hjx hsx hvb hnb
  subst hvb
  have hj0 : j = 0 := hj _ hyk
  subst hj0
  clear hj
  obtain ⟨ns, hns⟩ : ∃ x, s.data.length = x := ⟨_, rfl⟩
  have hlx' : w.ownsRow w0.heap.size 5 1 (.slice Ab (14 + ns) cb) (14 + ns) (bytesV (Sg.enc (toSg s))) := by rw [← hns]; exact hlx
  rw [hns] at r1 htx hnb
  have q0 : w.cell? ⟨gy, n * 2, none⟩ = some (.int .i64 0) := by simpa using r0
  have q1 : w.cell? ⟨gy, n * 2 + 1, none⟩ = some (.slice Ab (14 + ns) cb) := by simpa using r1
  have q2 : w.cell? ⟨gl, 10, none⟩ = some (.slice (some ⟨gy, 0, none⟩) ny cy) := by rw [← hvy]; exact h.box.cell 10
  have hs0 : w0.heap.size ≤ w.heap.size := h.ext.size
  have HM := hide h
  have HLB := hide hLb
  have HVY := hide hvy
  have HYN := hide hyn
  have HWAY := hide hway
  have HLX := hide hlx'
  have HTX := hide htx
  have HSX := hide hsx
  have HYK := hide hyk
  have HNS := hide hns
  have HNB := hide (⟨hnb, hcb⟩ : 14 + ns ≤ cb ∧ cb ≤ maxLen)
  unfold maxLen at hcy
  clear h hLb hvy hyn hway hrd r0 r1 hxm hyk hlx hlx' htx hsx hx hns hll hnb hcb
  go_enter Try.func16, Try.ntmps16
  go_upto_region 1 with fail
  have HXA := hide ((Ext.refl w).alloc (.cells #[.int .i64 4, .int .i64 ed, .int .i64 n, .slice D m c] 35))
  have HBX := hide (Blk.new w 35 #[.int .i64 4, .int .i64 ed, .int .i64 n, .slice D m c])
  generalize w.alloc (.cells #[.int .i64 4, .int .i64 ed, .int .i64 n, .slice D m c] 35) = W at *
  obtain ⟨gt, hgt⟩ : ∃ x, w.heap.size = x := ⟨_, rfl⟩
  rw [hgt] at HBX ⊢
  have HGT := hide hgt
  clear hgt
  have b2 : W.cell? ⟨gt, 2, none⟩ = some (.int .i64 n) := HBX.out.cell 2
  have p0 := HXA.out.cell q0
  have p1 := HXA.out.cell q1
  have p2 := HXA.out.cell q2
  clear q0 q1 q2
  have hnI : (n : Int) < (ny : Int) := by omega
  have hn0 : (0 : Int) ≤ (n : Int) := by omega
  go_region_held3 (fun w' => w'.cell? ⟨gt, 2, none⟩ = some (.int .i64 n) ∧ w'.cell? ⟨gy, n * 2, none⟩ = some (.int .i64 0) ∧ w'.cell? ⟨gy, n * 2 + 1, none⟩ = some (.slice Ab (14 + ns) cb) ∧ w'.cell? ⟨gl, 10, none⟩ = some (.slice (some ⟨gy, 0, none⟩) ny cy)) (first | (refine ⟨?_, ?_, ?_, ?_⟩ <;> ((repeat (first | with_reducible assumption | (with_reducible refine far3 ?_) | (with_reducible refine far4 ?_) | (with_reducible refine far2 ?_ (by decide) _) | (with_reducible refine far1 ?_ (by dsimp only; omega) _))); done)) | go_keep | fail) (fail)
  all_goals
    have HXU := hide ((HXA.out.alloc (.cells #[.int .i64 0, .slice Ab (14 + ns) cb] 64)).drew)
    have HBV := hide ((Blk.new W 64 #[.int .i64 0, .slice Ab (14 + ns) cb]).drew)
    have HBT := hide ((HBX.out.alloc (.cells #[.int .i64 0, .slice Ab (14 + ns) cb] 64)).drew)
    have HXW := hide HXA.out
    clear b2 p0 p1 p2 HXA HBX
    generalize (W.alloc (.cells #[.int .i64 0, .slice Ab (14 + ns) cb] 64)).drew = U at *
    obtain ⟨gv, hgv⟩ : ∃ x, W.heap.size = x := ⟨_, rfl⟩
    rw [hgv] at HBV ⊢
    have HGV := hide (show w.heap.size ≤ gv by rw [← hgv]; exact HXW.out.size)
    clear hgv
    have v0 : U.cell? ⟨gv, 0, none⟩ = some (.int .i64 0) := HBV.out.cell 0
    have v1 : U.cell? ⟨gv, 1, none⟩ = some (.slice Ab (14 + ns) cb) := HBV.out.cell 1
    have t0 : U.cell? ⟨gt, 0, none⟩ = some (.int .i64 4) := HBT.out.cell 0
    have t2 : U.cell? ⟨gt, 2, none⟩ = some (.int .i64 n) := HBT.out.cell 2
    have HMU := hide (HM.out.extend HXU.out)
    have y10 : U.cell? ⟨gl, 10, none⟩ = some (.slice (some ⟨gy, 0, none⟩) ny cy) := by rw [← HVY.out]; exact HMU.out.box.cell 10
    have yf : U.frozen? ⟨gl, 10, none⟩ = false := HMU.out.box.frozen 10
    have hs0U : U.heap.size ≤ U.heap.size := Nat.le_refl _
    go_wp2_with fail
    refine (decode_seg s HSX.out ns HNS.out Ab cb w.heap.size U (HXU.out.reads (Reads.of_own HLX.out) (Nat.le_refl _)) HXU.out.size HNB.out.1 HNB.out.2).mono ?_
    rintro r w3 ⟨A3, c3, rfl, ho3, hx3⟩
    have HO3 := hide ho3
    have HX3 := hide hx3
    clear ho3 hx3
    obtain ⟨sq', sa, sf, sw, sd⟩ := s
    dsimp only
    go_upto_region 9 with fail
    have HXS := hide (HX3.out.alloc (.cells #[.int .u32 sq', .int .u32 sa, .int .i64 sf, .int .i64 sw, .slice A3 ns c3] 60))
    have HBS := hide (Blk.new w3 60 #[.int .u32 sq', .int .u32 sa, .int .i64 sf, .int .i64 sw, .slice A3 ns c3])
    have HOS := hide (((Ext.refl w3).alloc (.cells #[.int .u32 sq', .int .u32 sa, .int .i64 sf, .int .i64 sw, .slice A3 ns c3] 60)).own HO3.out)
    generalize w3.alloc (.cells #[.int .u32 sq', .int .u32 sa, .int .i64 sf, .int .i64 sw, .slice A3 ns c3] 60) = V3 at *
    obtain ⟨gs, hgs⟩ : ∃ x, w3.heap.size = x := ⟨_, rfl⟩
    rw [hgs] at HBS ⊢
    clear hgs HX3 HO3
    have c0 := HXS.out.cell v0
    have s0 : V3.cell? ⟨gs, 0, none⟩ = some (.int .u32 sq') := HBS.out.cell 0
    have s1 : V3.cell? ⟨gs, 1, none⟩ = some (.int .u32 sa) := HBS.out.cell 1
    have s2 : V3.cell? ⟨gs, 2, none⟩ = some (.int .i64 sf) := HBS.out.cell 2
    have s3 : V3.cell? ⟨gs, 3, none⟩ = some (.int .i64 sw) := HBS.out.cell 3
    have s4 : V3.cell? ⟨gs, 4, none⟩ = some (.slice A3 ns c3) := HBS.out.cell 4
    have HM3 := hide (HMU.out.extend HXS.out)
    have HBT3 := hide (HBT.out.ext HXS.out)
    obtain ⟨gi, hgi⟩ : ∃ x, L.b 0 = x := ⟨_, rfl⟩
    have e0 : V3.cell? ⟨gl, 0, none⟩ = some (.pointer (some ⟨gi, 0, none⟩)) := by rw [← hgi]; exact HM3.out.box.cell 0
    have HGI := hide hgi
    clear hgi v0 v1 t0 t2 y10 yf
    have hn32 : ns ≤ 32 := by have := HSX.out.data; have h2 := HNS.out; dsimp only at this h2; omega
    have HCOME := hide (fun (W' : World) (hx : Ext V3 W') => show Calls Try.prog 29 #[.pointer (some ⟨gi, 0, none⟩), segV sq' sa sf sw (.slice A3 ns c3)] W' (fun r w9 => Ext V3 W' ∧ EndRet W' gi (L.vo 0) (L.vi 0) (.int .i64 (comeN (d.e 0))) (comeE (d.e 0) sq' sa sf sw sd) r w9) from
      (come_any W' gi (d.e 0) (L.vo 0) (L.vi 0) sq' sa sf sw A3 ns c3 sd (by have := (HM3.out.end_ 0 (by omega)).ext hx; rw [HGI.out] at this; exact this) (HM3.out.ok 0 (by omega)) HSX.out.seq HSX.out.ack (by have := HSX.out.fl; dsimp only at this; omega) (by have := HSX.out.wd; dsimp only at this; omega) hn32 (own_mono (hx.own HOS.out) (Nat.zero_le _)) (fun k hk hf => by
        have h1 := (HOS.out.lt k hk).1
        have h2 := (HM.out.end_ 0 (by omega)).lt (k := k) (by rw [HGI.out]; exact hf)
        have h3 := HXU.out.size
        omega)).mono (fun r w9 h => ⟨hx, h⟩))
    go_still_tail 8, (by kernel_rfl)
    go_wp2_with fail
    refine (HCOME.out _ (by first | exact (Ext.refl V3).drew | exact (Ext.refl V3).drewN _ | exact Ext.refl V3)).mono ?_
    rintro r w9 ⟨hxw, rfl, hop⟩
    rw [← HGI.out] at hop
    obtain ⟨L9, hm9, hb9, -, -, hy9, hl9, -⟩ := (HM3.out.extend hxw).endOp (i := 0) (by omega) (comeS_ok (HM3.out.ok 0 (by omega)) HSX.out) (come_live (HM3.out.live 0 (by omega)) ⟨sq', sa, sf, sw, sd⟩) hop
    obtain ⟨_, _, hmE, hk9, hf9⟩ := hop
    have hgtb := hk9.blk (HBT3.out.ext hxw) (fun hf => by
      have h1 := (HM.out.end_ 0 (by omega)).lt hf
      rw [HGT.out] at h1
      omega)
    have hpost : ({ d with e := upd d.e 0 (comeS (d.e 0) ⟨sq', sa, sf, sw, sd⟩) } : LineD) = heardP d n := by
      unfold heardP
      rw [HYK.out]
    rw [hpost] at hm9
    have HMV := hide hm9
    have HVYV := hide (show L9.vy = .slice (some ⟨gy, 0, none⟩) ny cy by rw [hy9]; exact HVY.out)
    have HYNV := hide (show (heardP d n).y.length = ny by rw [(heard_y d n).1]; exact HYN.out)
    have HBTV := hide hgtb
    have HLBV := hide (show L9.b = b by rw [hb9]; exact HLB.out)
    have x0 : w9.cell? ⟨gt, 0, none⟩ = some (.int .i64 4) := hgtb.cell 0
    clear hxw hm9 hb9 hy9 hl9 hmE hk9 hf9 hgtb hpost c0 s0 s1 s2 s3 s4 e0
    have HWV := hide (show w9.ownsRow w0.heap.size 64 2 (.slice (some ⟨gy, 0, none⟩) ny cy) ny (L9.ls.flatMap letC) by have := HMV.out.way; rw [HVYV.out, HYNV.out] at this; exact this)
    have HONE := hide (lets_one HMV.out.lets)
    have z10 : w9.cell? ⟨gl, 10, none⟩ = some (.slice (some ⟨gy, 0, none⟩) ny cy) := by rw [← HVYV.out]; exact HMV.out.box.cell 10
    have zf : w9.frozen? ⟨gl, 10, none⟩ = false := HMV.out.box.frozen 10
    have z2 : w9.cell? ⟨gt, 2, none⟩ = some (.int .i64 n) := HBTV.out.cell 2
    have hne : gt ≠ gl := fun e => by
      have h1 := HM.out.box.lt
      rw [HGT.out] at h1
      omega
    go_upto_region 10 with fail
    rw [← opWay10_eq]
    have hOp := opWay10_eq
    have hkw : IntKind.i64.wrap ((n : Int) + 1) = (n : Int) + 1 := by rw [IntKind.wrap_i64]; omega
    go_region_held3 (fun w' => w'.cell? ⟨gt, 2, none⟩ = some (.int .i64 n)) (first | exact z2 | with_reducible assumption | exact (World.cell?_setCell_other _ _ _ _ (fun e => hne (by injection e with e; exact e.symm))).trans (by assumption) | fail)
      (first | (go_at_call 31; refine (clone_let (some ⟨gy, 0, none⟩) ny cy _ _ _ (Ext.reads (w := w9) (by ((repeat (first | with_reducible exact Ext.refl _ | with_reducible assumption | with_reducible refine Ext.alloc ?_ _ | with_reducible refine Ext.drew ?_ | with_reducible refine Ext.drewN ?_ _ | with_reducible refine Ext.setCell ?_ (by first | exact Nat.le_refl _ | assumption | (simp; done) | omega) _ | with_reducible refine Ext.trans ?_ (by with_reducible assumption))); done)) (Reads.of_own HWV.out) (Nat.le_refl _)) HONE.out (Ext.size (w := w9) (by ((repeat (first | with_reducible exact Ext.refl _ | with_reducible assumption | with_reducible refine Ext.alloc ?_ _ | with_reducible refine Ext.drew ?_ | with_reducible refine Ext.drewN ?_ _ | with_reducible refine Ext.setCell ?_ (by first | exact Nat.le_refl _ | assumption | (simp; done) | omega) _ | with_reducible refine Ext.trans ?_ (by with_reducible assumption))); done))) (by omega) (fun h => by cases h)).mono ?_; rintro r w4 ⟨A4, c4, rfl, ho4, hx4⟩; have HX4 := hide (show Ext w9 w4 from Ext.trans (by ((repeat (first | with_reducible exact Ext.refl _ | with_reducible assumption | with_reducible refine Ext.alloc ?_ _ | with_reducible refine Ext.drew ?_ | with_reducible refine Ext.drewN ?_ _ | with_reducible refine Ext.setCell ?_ (by first | exact Nat.le_refl _ | assumption | (simp; done) | omega) _ | with_reducible refine Ext.trans ?_ (by with_reducible assumption))); done)) hx4); have HO4' := hide (own_mono ho4 (show w9.heap.size ≤ _ from Ext.size (w := w9) (by ((repeat (first | with_reducible exact Ext.refl _ | with_reducible assumption | with_reducible refine Ext.alloc ?_ _ | with_reducible refine Ext.drew ?_ | with_reducible refine Ext.drewN ?_ _ | with_reducible refine Ext.setCell ?_ (by first | exact Nat.le_refl _ | assumption | (simp; done) | omega) _ | with_reducible refine Ext.trans ?_ (by with_reducible assumption))); done)))); obtain ⟨g4, hg4, -⟩ := own_addr ho4 (by omega); subst hg4; have HO4 := hide (show w4.ownsRow w9.heap.size 64 2 (.slice (some ⟨g4, 0, none⟩) ny c4) ny (L9.ls.flatMap letC) from HO4'.out); have k4 : w4.cell? ⟨gt, 2, none⟩ = some (.int .i64 n) := HX4.out.cell z2; have y4 := HX4.out.cell z10; clear ho4 hx4) | (go_at_call 30; refine (delete_let w9.heap.size g4 ny c4 n L9.ls _ (Ext.own (w := w4) (by ((repeat (first | with_reducible exact Ext.refl _ | with_reducible assumption | with_reducible refine Ext.alloc ?_ _ | with_reducible refine Ext.drew ?_ | with_reducible refine Ext.drewN ?_ _ | with_reducible refine Ext.setCell ?_ (by first | exact Nat.le_refl _ | assumption | (simp; done) | omega) _ | with_reducible refine Ext.trans ?_ (by with_reducible assumption))); done)) HO4.out) HONE.out hn).mono ?_; rintro r w5 ⟨rfl, ho5, hg5⟩; have HX5 := hide (Ext.grown (Ext.trans HX4.out (by ((repeat (first | with_reducible exact Ext.refl _ | with_reducible assumption | with_reducible refine Ext.alloc ?_ _ | with_reducible refine Ext.drew ?_ | with_reducible refine Ext.drewN ?_ _ | with_reducible refine Ext.setCell ?_ (by first | exact Nat.le_refl _ | assumption | (simp; done) | omega) _ | with_reducible refine Ext.trans ?_ (by with_reducible assumption))); done))) hg5 (fun k hk => by injection hk with hk; subst hk; exact (HO4.out.lt g4 rfl).1)); have n5 : w5.cell? ⟨gl, 10, none⟩ = some (.slice (some ⟨gy, 0, none⟩) ny cy) := HX5.out.cell z10; have nf : w5.frozen? ⟨gl, 10, none⟩ = false := (HX5.out.frozen z10).trans zf; have k5 : w5.cell? ⟨gt, 2, none⟩ = some (.int .i64 n) := HX5.out.cell z2) | fail)
    all_goals
      have HFIN := hide (show LineAt w0 gl b (loseP (heardP d n) n) (w5.setCell ⟨gl, 10, none⟩ (.slice (some ⟨g4, 0, none⟩) (ny - 1) c4)) from by
        obtain ⟨L9, h1, h2⟩ := HMV.out.rewayed HX5.out HYNV.out hn ho5
        exact ⟨L9, h1, by rw [h2]; exact HLBV.out⟩)
      clear ho5 hg5 n5 nf k4 k5 y4
      go_wp2_with fail
      (first | go_end0 | ((try simp only [Exit.inBlock, Exit.then]); refine bodyPost_ret (results_none rfl _ _ _) rfl ?_))
      exact ⟨rfl, HFIN.out⟩
set_option maxHeartbeats 4000000 in
set_option maxRecDepth 100000 in
theorem deed_come1 (w0 : World) (gl : Nat) (b : Nat → Nat) (d : LineD) (w : World) (h : LineAt w0 gl b d w) (ed : Int) (n : Nat) (hn : n < d.y.length) (hy : d.y.length ≤ 64) (D : Option Addr) (m c : Nat) (hj : ∀ x, (d.y)[n]? = some x → x.1 = 1) :
    Calls Try.prog 16 #[.pointer (some ⟨gl, 0, none⟩), .agg #[.int .i64 4, .int .i64 ed, .int .i64 n, .slice D m c]] w fun r w' => r = .returned (.tuple #[]) ∧ LineAt w0 gl b (loseP (heardP d n) n) w' := by
  obtain ⟨i0, hi0, hz0, hz1, hz2⟩ := info_parts letter_info
  obtain ⟨L, h, hLb⟩ := h
  have hll : L.ls.length = d.y.length := by rw [← h.segs, List.length_map]
  have hway := h.way
  obtain ⟨Ay, cy, hvy, hny, hcy, -⟩ := own_form hway
  obtain ⟨ny, hyn⟩ : ∃ x, d.y.length = x := ⟨_, rfl⟩
  rw [hyn] at hvy hny hn hy hll
  rw [hyn, hvy] at hway
  obtain ⟨gy, hgy, -⟩ := own_addr hway (by omega)
  subst hgy
  have hkl : n < L.ls.length := by omega
  have hrd := Reads.of_own hway
  have r0 := Reads.elem letC_len hrd n hkl (by omega) 0 (by omega) (u := .int .i64 ((L.ls[n].1.1 : Nat) : Int)) rfl
  have r1 := Reads.elem letC_len hrd n hkl (by omega) 1 (by omega) (u := L.ls[n].2) rfl
  have hxm : L.ls[n] ∈ L.ls := List.getElem_mem hkl
  have hyk : (d.y)[n]? = some L.ls[n].1 := by rw [← h.segs, List.getElem?_map, List.getElem?_eq_getElem hkl]; rfl
  have hlx := h.lets _ hxm
  have htx := h.tl _ hxm
  have hjx := h.dst _ (List.mem_of_getElem? hyk)
  have hsx := h.sok _ (List.mem_of_getElem? hyk)
  obtain ⟨x, hx⟩ : ∃ x, L.ls[n] = x := ⟨_, rfl⟩
  rw [hx] at r0 r1 hyk hlx htx hjx hsx
  obtain ⟨⟨j, s⟩, vb⟩ := x
  obtain ⟨Ab, cb, hvb, hnb, hcb, -⟩ := own_form hlx
  dsimp only at r0 r1 hyk hlx htx hjx hsx hvb hnb
  subst hvb
  have hj0 : j = 1 := hj _ hyk
  subst hj0
  clear hj
  obtain ⟨ns, hns⟩ : ∃ x, s.data.length = x := ⟨_, rfl⟩
  have hlx' : w.ownsRow w0.heap.size 5 1 (.slice Ab (14 + ns) cb) (14 + ns) (bytesV (Sg.enc (toSg s))) := by rw [← hns]; exact hlx
  rw [hns] at r1 htx hnb
  have q0 : w.cell? ⟨gy, n * 2, none⟩ = some (.int .i64 1) := by simpa using r0
  have q1 : w.cell? ⟨gy, n * 2 + 1, none⟩ = some (.slice Ab (14 + ns) cb) := by simpa using r1
  have q2 : w.cell? ⟨gl, 10, none⟩ = some (.slice (some ⟨gy, 0, none⟩) ny cy) := by rw [← hvy]; exact h.box.cell 10
  have hs0 : w0.heap.size ≤ w.heap.size := h.ext.size
  have HM := hide h
  have HLB := hide hLb
  have HVY := hide hvy
  have HYN := hide hyn
  have HWAY := hide hway
  have HLX := hide hlx'
  have HTX := hide htx
  have HSX := hide hsx
  have HYK := hide hyk
  have HNS := hide hns
  have HNB := hide (⟨hnb, hcb⟩ : 14 + ns ≤ cb ∧ cb ≤ maxLen)
  unfold maxLen at hcy
  clear h hLb hvy hyn hway hrd r0 r1 hxm hyk hlx hlx' htx hsx hx hns hll hnb hcb
  go_enter Try.func16, Try.ntmps16
  go_upto_region 1 with fail
  have HXA := hide ((Ext.refl w).alloc (.cells #[.int .i64 4, .int .i64 ed, .int .i64 n, .slice D m c] 35))
  have HBX := hide (Blk.new w 35 #[.int .i64 4, .int .i64 ed, .int .i64 n, .slice D m c])
  generalize w.alloc (.cells #[.int .i64 4, .int .i64 ed, .int .i64 n, .slice D m c] 35) = W at *
  obtain ⟨gt, hgt⟩ : ∃ x, w.heap.size = x := ⟨_, rfl⟩
  rw [hgt] at HBX ⊢
  have HGT := hide hgt
  clear hgt
  have b2 : W.cell? ⟨gt, 2, none⟩ = some (.int .i64 n) := HBX.out.cell 2
  have p0 := HXA.out.cell q0
  have p1 := HXA.out.cell q1
  have p2 := HXA.out.cell q2
  clear q0 q1 q2
  have hnI : (n : Int) < (ny : Int) := by omega
  have hn0 : (0 : Int) ≤ (n : Int) := by omega
  go_region_held3 (fun w' => w'.cell? ⟨gt, 2, none⟩ = some (.int .i64 n) ∧ w'.cell? ⟨gy, n * 2, none⟩ = some (.int .i64 1) ∧ w'.cell? ⟨gy, n * 2 + 1, none⟩ = some (.slice Ab (14 + ns) cb) ∧ w'.cell? ⟨gl, 10, none⟩ = some (.slice (some ⟨gy, 0, none⟩) ny cy)) (first | (refine ⟨?_, ?_, ?_, ?_⟩ <;> ((repeat (first | with_reducible assumption | (with_reducible refine far3 ?_) | (with_reducible refine far4 ?_) | (with_reducible refine far2 ?_ (by decide) _) | (with_reducible refine far1 ?_ (by dsimp only; omega) _))); done)) | go_keep | fail) (fail)
  all_goals
    have HXU := hide ((HXA.out.alloc (.cells #[.int .i64 1, .slice Ab (14 + ns) cb] 64)).drew)
    have HBV := hide ((Blk.new W 64 #[.int .i64 1, .slice Ab (14 + ns) cb]).drew)
    have HBT := hide ((HBX.out.alloc (.cells #[.int .i64 1, .slice Ab (14 + ns) cb] 64)).drew)
    have HXW := hide HXA.out
    clear b2 p0 p1 p2 HXA HBX
    generalize (W.alloc (.cells #[.int .i64 1, .slice Ab (14 + ns) cb] 64)).drew = U at *
    obtain ⟨gv, hgv⟩ : ∃ x, W.heap.size = x := ⟨_, rfl⟩
    rw [hgv] at HBV ⊢
    have HGV := hide (show w.heap.size ≤ gv by rw [← hgv]; exact HXW.out.size)
    clear hgv
    have v0 : U.cell? ⟨gv, 0, none⟩ = some (.int .i64 1) := HBV.out.cell 0
    have v1 : U.cell? ⟨gv, 1, none⟩ = some (.slice Ab (14 + ns) cb) := HBV.out.cell 1
    have t0 : U.cell? ⟨gt, 0, none⟩ = some (.int .i64 4) := HBT.out.cell 0
    have t2 : U.cell? ⟨gt, 2, none⟩ = some (.int .i64 n) := HBT.out.cell 2
    have HMU := hide (HM.out.extend HXU.out)
    have y10 : U.cell? ⟨gl, 10, none⟩ = some (.slice (some ⟨gy, 0, none⟩) ny cy) := by rw [← HVY.out]; exact HMU.out.box.cell 10
    have yf : U.frozen? ⟨gl, 10, none⟩ = false := HMU.out.box.frozen 10
    have hs0U : U.heap.size ≤ U.heap.size := Nat.le_refl _
    go_wp2_with fail
    refine (decode_seg s HSX.out ns HNS.out Ab cb w.heap.size U (HXU.out.reads (Reads.of_own HLX.out) (Nat.le_refl _)) HXU.out.size HNB.out.1 HNB.out.2).mono ?_
    rintro r w3 ⟨A3, c3, rfl, ho3, hx3⟩
    have HO3 := hide ho3
    have HX3 := hide hx3
    clear ho3 hx3
    obtain ⟨sq', sa, sf, sw, sd⟩ := s
    dsimp only
    go_upto_region 9 with fail
    have HXS := hide (HX3.out.alloc (.cells #[.int .u32 sq', .int .u32 sa, .int .i64 sf, .int .i64 sw, .slice A3 ns c3] 60))
    have HBS := hide (Blk.new w3 60 #[.int .u32 sq', .int .u32 sa, .int .i64 sf, .int .i64 sw, .slice A3 ns c3])
    have HOS := hide (((Ext.refl w3).alloc (.cells #[.int .u32 sq', .int .u32 sa, .int .i64 sf, .int .i64 sw, .slice A3 ns c3] 60)).own HO3.out)
    generalize w3.alloc (.cells #[.int .u32 sq', .int .u32 sa, .int .i64 sf, .int .i64 sw, .slice A3 ns c3] 60) = V3 at *
    obtain ⟨gs, hgs⟩ : ∃ x, w3.heap.size = x := ⟨_, rfl⟩
    rw [hgs] at HBS ⊢
    clear hgs HX3 HO3
    have c0 := HXS.out.cell v0
    have s0 : V3.cell? ⟨gs, 0, none⟩ = some (.int .u32 sq') := HBS.out.cell 0
    have s1 : V3.cell? ⟨gs, 1, none⟩ = some (.int .u32 sa) := HBS.out.cell 1
    have s2 : V3.cell? ⟨gs, 2, none⟩ = some (.int .i64 sf) := HBS.out.cell 2
    have s3 : V3.cell? ⟨gs, 3, none⟩ = some (.int .i64 sw) := HBS.out.cell 3
    have s4 : V3.cell? ⟨gs, 4, none⟩ = some (.slice A3 ns c3) := HBS.out.cell 4
    have HM3 := hide (HMU.out.extend HXS.out)
    have HBT3 := hide (HBT.out.ext HXS.out)
    obtain ⟨gi, hgi⟩ : ∃ x, L.b 1 = x := ⟨_, rfl⟩
    have e0 : V3.cell? ⟨gl, 1, none⟩ = some (.pointer (some ⟨gi, 0, none⟩)) := by rw [← hgi]; exact HM3.out.box.cell 1
    have HGI := hide hgi
    clear hgi v0 v1 t0 t2 y10 yf
    have hn32 : ns ≤ 32 := by have := HSX.out.data; have h2 := HNS.out; dsimp only at this h2; omega
    have HCOME := hide (fun (W' : World) (hx : Ext V3 W') => show Calls Try.prog 29 #[.pointer (some ⟨gi, 0, none⟩), segV sq' sa sf sw (.slice A3 ns c3)] W' (fun r w9 => Ext V3 W' ∧ EndRet W' gi (L.vo 1) (L.vi 1) (.int .i64 (comeN (d.e 1))) (comeE (d.e 1) sq' sa sf sw sd) r w9) from
      (come_any W' gi (d.e 1) (L.vo 1) (L.vi 1) sq' sa sf sw A3 ns c3 sd (by have := (HM3.out.end_ 1 (by omega)).ext hx; rw [HGI.out] at this; exact this) (HM3.out.ok 1 (by omega)) HSX.out.seq HSX.out.ack (by have := HSX.out.fl; dsimp only at this; omega) (by have := HSX.out.wd; dsimp only at this; omega) hn32 (own_mono (hx.own HOS.out) (Nat.zero_le _)) (fun k hk hf => by
        have h1 := (HOS.out.lt k hk).1
        have h2 := (HM.out.end_ 1 (by omega)).lt (k := k) (by rw [HGI.out]; exact hf)
        have h3 := HXU.out.size
        omega)).mono (fun r w9 h => ⟨hx, h⟩))
    go_still_tail 8, (by kernel_rfl)
    go_wp2_with fail
    refine (HCOME.out _ (by first | exact (Ext.refl V3).drew | exact (Ext.refl V3).drewN _ | exact Ext.refl V3)).mono ?_
    rintro r w9 ⟨hxw, rfl, hop⟩
    rw [← HGI.out] at hop
    obtain ⟨L9, hm9, hb9, -, -, hy9, hl9, -⟩ := (HM3.out.extend hxw).endOp (i := 1) (by omega) (comeS_ok (HM3.out.ok 1 (by omega)) HSX.out) (come_live (HM3.out.live 1 (by omega)) ⟨sq', sa, sf, sw, sd⟩) hop
    obtain ⟨_, _, hmE, hk9, hf9⟩ := hop
    have hgtb := hk9.blk (HBT3.out.ext hxw) (fun hf => by
      have h1 := (HM.out.end_ 1 (by omega)).lt hf
      rw [HGT.out] at h1
      omega)
    have hpost : ({ d with e := upd d.e 1 (comeS (d.e 1) ⟨sq', sa, sf, sw, sd⟩) } : LineD) = heardP d n := by
      unfold heardP
      rw [HYK.out]
    rw [hpost] at hm9
    have HMV := hide hm9
    have HVYV := hide (show L9.vy = .slice (some ⟨gy, 0, none⟩) ny cy by rw [hy9]; exact HVY.out)
    have HYNV := hide (show (heardP d n).y.length = ny by rw [(heard_y d n).1]; exact HYN.out)
    have HBTV := hide hgtb
    have HLBV := hide (show L9.b = b by rw [hb9]; exact HLB.out)
    have x0 : w9.cell? ⟨gt, 0, none⟩ = some (.int .i64 4) := hgtb.cell 0
    clear hxw hm9 hb9 hy9 hl9 hmE hk9 hf9 hgtb hpost c0 s0 s1 s2 s3 s4 e0
    have HWV := hide (show w9.ownsRow w0.heap.size 64 2 (.slice (some ⟨gy, 0, none⟩) ny cy) ny (L9.ls.flatMap letC) by have := HMV.out.way; rw [HVYV.out, HYNV.out] at this; exact this)
    have HONE := hide (lets_one HMV.out.lets)
    have z10 : w9.cell? ⟨gl, 10, none⟩ = some (.slice (some ⟨gy, 0, none⟩) ny cy) := by rw [← HVYV.out]; exact HMV.out.box.cell 10
    have zf : w9.frozen? ⟨gl, 10, none⟩ = false := HMV.out.box.frozen 10
    have z2 : w9.cell? ⟨gt, 2, none⟩ = some (.int .i64 n) := HBTV.out.cell 2
    have hne : gt ≠ gl := fun e => by
      have h1 := HM.out.box.lt
      rw [HGT.out] at h1
      omega
    go_upto_region 10 with fail
    rw [← opWay10_eq]
    have hOp := opWay10_eq
    have hkw : IntKind.i64.wrap ((n : Int) + 1) = (n : Int) + 1 := by rw [IntKind.wrap_i64]; omega
    go_region_held3 (fun w' => w'.cell? ⟨gt, 2, none⟩ = some (.int .i64 n)) (first | exact z2 | with_reducible assumption | exact (World.cell?_setCell_other _ _ _ _ (fun e => hne (by injection e with e; exact e.symm))).trans (by assumption) | fail)
      (first | (go_at_call 31; refine (clone_let (some ⟨gy, 0, none⟩) ny cy _ _ _ (Ext.reads (w := w9) (by ((repeat (first | with_reducible exact Ext.refl _ | with_reducible assumption | with_reducible refine Ext.alloc ?_ _ | with_reducible refine Ext.drew ?_ | with_reducible refine Ext.drewN ?_ _ | with_reducible refine Ext.setCell ?_ (by first | exact Nat.le_refl _ | assumption | (simp; done) | omega) _ | with_reducible refine Ext.trans ?_ (by with_reducible assumption))); done)) (Reads.of_own HWV.out) (Nat.le_refl _)) HONE.out (Ext.size (w := w9) (by ((repeat (first | with_reducible exact Ext.refl _ | with_reducible assumption | with_reducible refine Ext.alloc ?_ _ | with_reducible refine Ext.drew ?_ | with_reducible refine Ext.drewN ?_ _ | with_reducible refine Ext.setCell ?_ (by first | exact Nat.le_refl _ | assumption | (simp; done) | omega) _ | with_reducible refine Ext.trans ?_ (by with_reducible assumption))); done))) (by omega) (fun h => by cases h)).mono ?_; rintro r w4 ⟨A4, c4, rfl, ho4, hx4⟩; have HX4 := hide (show Ext w9 w4 from Ext.trans (by ((repeat (first | with_reducible exact Ext.refl _ | with_reducible assumption | with_reducible refine Ext.alloc ?_ _ | with_reducible refine Ext.drew ?_ | with_reducible refine Ext.drewN ?_ _ | with_reducible refine Ext.setCell ?_ (by first | exact Nat.le_refl _ | assumption | (simp; done) | omega) _ | with_reducible refine Ext.trans ?_ (by with_reducible assumption))); done)) hx4); have HO4' := hide (own_mono ho4 (show w9.heap.size ≤ _ from Ext.size (w := w9) (by ((repeat (first | with_reducible exact Ext.refl _ | with_reducible assumption | with_reducible refine Ext.alloc ?_ _ | with_reducible refine Ext.drew ?_ | with_reducible refine Ext.drewN ?_ _ | with_reducible refine Ext.setCell ?_ (by first | exact Nat.le_refl _ | assumption | (simp; done) | omega) _ | with_reducible refine Ext.trans ?_ (by with_reducible assumption))); done)))); obtain ⟨g4, hg4, -⟩ := own_addr ho4 (by omega); subst hg4; have HO4 := hide (show w4.ownsRow w9.heap.size 64 2 (.slice (some ⟨g4, 0, none⟩) ny c4) ny (L9.ls.flatMap letC) from HO4'.out); have k4 : w4.cell? ⟨gt, 2, none⟩ = some (.int .i64 n) := HX4.out.cell z2; have y4 := HX4.out.cell z10; clear ho4 hx4) | (go_at_call 30; refine (delete_let w9.heap.size g4 ny c4 n L9.ls _ (Ext.own (w := w4) (by ((repeat (first | with_reducible exact Ext.refl _ | with_reducible assumption | with_reducible refine Ext.alloc ?_ _ | with_reducible refine Ext.drew ?_ | with_reducible refine Ext.drewN ?_ _ | with_reducible refine Ext.setCell ?_ (by first | exact Nat.le_refl _ | assumption | (simp; done) | omega) _ | with_reducible refine Ext.trans ?_ (by with_reducible assumption))); done)) HO4.out) HONE.out hn).mono ?_; rintro r w5 ⟨rfl, ho5, hg5⟩; have HX5 := hide (Ext.grown (Ext.trans HX4.out (by ((repeat (first | with_reducible exact Ext.refl _ | with_reducible assumption | with_reducible refine Ext.alloc ?_ _ | with_reducible refine Ext.drew ?_ | with_reducible refine Ext.drewN ?_ _ | with_reducible refine Ext.setCell ?_ (by first | exact Nat.le_refl _ | assumption | (simp; done) | omega) _ | with_reducible refine Ext.trans ?_ (by with_reducible assumption))); done))) hg5 (fun k hk => by injection hk with hk; subst hk; exact (HO4.out.lt g4 rfl).1)); have n5 : w5.cell? ⟨gl, 10, none⟩ = some (.slice (some ⟨gy, 0, none⟩) ny cy) := HX5.out.cell z10; have nf : w5.frozen? ⟨gl, 10, none⟩ = false := (HX5.out.frozen z10).trans zf; have k5 : w5.cell? ⟨gt, 2, none⟩ = some (.int .i64 n) := HX5.out.cell z2) | fail)
    all_goals
      have HFIN := hide (show LineAt w0 gl b (loseP (heardP d n) n) (w5.setCell ⟨gl, 10, none⟩ (.slice (some ⟨g4, 0, none⟩) (ny - 1) c4)) from by
        obtain ⟨L9, h1, h2⟩ := HMV.out.rewayed HX5.out HYNV.out hn ho5
        exact ⟨L9, h1, by rw [h2]; exact HLBV.out⟩)
      clear ho5 hg5 n5 nf k4 k5 y4
      go_wp2_with fail
      (first | go_end0 | ((try simp only [Exit.inBlock, Exit.then]); refine bodyPost_ret (results_none rfl _ _ _) rfl ?_))
      exact ⟨rfl, HFIN.out⟩
end Go.Proofs.Ytacfffegmmdgfaa
