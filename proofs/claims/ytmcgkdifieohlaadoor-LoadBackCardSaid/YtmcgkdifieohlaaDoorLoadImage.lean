/- The contract of Program.image: an image that may be. -/
import Derived.Test.YtmcgkdifieohlaaDoorRows
import Derived.Test.YtmcgkdifieohlaaDoorLoadPlain
import Derived.Test.YtmcgkdifieohlaaDoorRest
import Derived.Test.YtmcgkdifieohlaaDoorCut
import Derived.ProofKit
import Derived.OpenShut
import Derived.Deep.QuietTactic
import Derived.BigQuiet
import Derived.Deep.RegionHeld3
import Derived.Deep.RegionLaw
import Derived.Deep.DeepCutAuto
import Derived.Deep.CutBlock
import Derived.IntWalk
namespace Go.Proofs.YtmcgkdifieohlaaDoor
open Go.RowKit
set_option linter.unusedVariables false

theorem rest_nat (z : Int) (k : Nat) (hk : 0 < k) : ∃ m : Nat, restZ z k = (m : Int) ∧ m < k := by
  have h1 := restZ_lo z k (by omega)
  have h2 := restZ_hi z k (by omega)
  exact ⟨(restZ z k).toNat, by omega, by omega⟩
theorem tdiv5 (y : Int) (h1 : -9223372036854775808 ≤ y) (h2 : y ≤ 9223372036854775807) : -9223372036854775808 ≤ y.tdiv 5 ∧ y.tdiv 5 ≤ 9223372036854775807 := by
  by_cases h : 0 ≤ y
  · rw [Int.tdiv_eq_ediv_of_nonneg h]; omega
  · have e : y.tdiv 5 = -((-y).tdiv 5) := by rw [Int.neg_tdiv]; omega
    rw [e, Int.tdiv_eq_ediv_of_nonneg (by omega)]; omega
theorem pg_info : (Tryd.prog.info? 39).map (fun i => (i.zero, i.size, i.bytes)) = some (some (.agg #[.int .i64 0, .int .i64 0, .slice none 0 0]), 3, 40) := by kernel_rfl
def rightsL : Array Value := #[.int .i64 1, .int .i64 3, .int .i64 5, .int .i64 4, .int .i64 2]
theorem rights_at (j : Nat) (hj : j < 5) : ∃ r : Int, rightsL[j]? = some (.int .i64 r) ∧ 1 ≤ r ∧ r ≤ 5 := by
  match j, hj with
  | 0, _ => exact ⟨1, rfl, by omega, by omega⟩
  | 1, _ => exact ⟨3, rfl, by omega, by omega⟩
  | 2, _ => exact ⟨5, rfl, by omega, by omega⟩
  | 3, _ => exact ⟨4, rfl, by omega, by omega⟩
  | 4, _ => exact ⟨2, rfl, by omega, by omega⟩
/-- What holds of the pages that the loop has made. -/
structure PgsOk (w : World) (ps : List PgD) (pg : Int) : Prop where
  ok : ∀ p ∈ ps, p.Ok w
  rising : Rising ps
  last : ∀ p ∈ ps, p.page ≤ pg
abbrev zeroIm : Array Value := #[.int .u32 0, .slice none 0 0]
/-- The image in the making. -/
structure ImgSt (w : World) (P3 : Array Value) (ps : List PgD) (k : Nat) (A : Option Addr) (c : Nat) (wr : World) : Prop where
  len : ps.length = k
  few : k ≤ 14
  prog : Blk wr w.heap.size 25 P3
  res : Blk wr (w.heap.size + 1) 29 zeroIm
  im : Blk wr (w.heap.size + 1 + 1) 29 #[.int .u32 0, .slice A k c]
  own : wr.ownsRow (w.heap.size + 1 + 1 + 1) 39 3 (.slice A k c) k (pgsV ps)
  ext : Ext w wr
def ImgRel (w : World) (P3 : Array Value) (n : Nat) (v4 i : Value) (wr : World) : Prop :=
  ∃ (k : Nat) (pg : Int) (ps : List PgD) (A : Option Addr) (c : Nat), k ≤ n ∧ i = .int .i64 k ∧ v4 = .int .i64 pg ∧ -1 ≤ pg ∧ pg < 64 ∧ PgsOk w ps pg ∧ ImgSt w P3 ps k A c wr
def ImgPost (w : World) (P3 : Array Value) (wr : World) : Prop := ∃ (k : Nat) (pg : Int) (ps : List PgD) (A : Option Addr) (c : Nat), PgsOk w ps pg ∧ ImgSt w P3 ps k A c wr
theorem ImgSt.keep {w : World} {P3 : Array Value} {ps : List PgD} {k : Nat} {A : Option Addr} {c : Nat} {wr w' : World} (h : ImgSt w P3 ps k A c wr) (hx : Ext wr w') : ImgSt w P3 ps k A c w' :=
  ⟨h.len, h.few, h.prog.ext hx, h.res.ext hx, h.im.ext hx, hx.own h.own, h.ext.trans hx⟩
theorem PgsOk.snoc {w : World} {ps : List PgD} {pg pg' : Int} (h : PgsOk w ps pg) {p : PgD} (hp : p.Ok w) (hpg : p.page = pg') (hlt : pg < pg') : PgsOk w (ps ++ [p]) pg' := by
  refine ⟨fun q hq => ?_, ?_, fun q hq => ?_⟩
  · rcases List.mem_append.1 hq with hq | hq
    · exact h.ok q hq
    · rw [List.mem_singleton.1 hq]; exact hp
  · refine List.pairwise_append.2 ⟨h.rising, List.pairwise_singleton _ _, fun a ha b hb => ?_⟩
    rw [List.mem_singleton.1 hb, hpg]
    have := h.last a ha
    omega
  · rcases List.mem_append.1 hq with hq | hq
    · have := h.last q hq; omega
    · rw [List.mem_singleton.1 hq, hpg]; exact Int.le_refl _

theorem Blk.reads3 {w : World} {g : Nat} {t : TypeId} {a b c : Value} (h : Blk w g t #[a, b, c]) : Reads w w.heap.size 3 (some ⟨g, 0, none⟩) 1 [a, b, c] := by
  refine ⟨by simp, fun _ => ⟨_, rfl, h.lt, fun j u hu => ?_⟩⟩
  rw [add_lit, Nat.zero_add, h.cell]
  simpa using hu
theorem ImgSt.base {w : World} {P3 : Array Value} {ps : List PgD} {k : Nat} {A : Option Addr} {c : Nat} {wr : World} (h : ImgSt w P3 ps k A c wr) : ∀ g, Value.ownBlock (.slice A k c) = some g → w.heap.size + 1 + 1 + 1 ≤ g := fun g hg => (h.own.lt g hg).1
theorem ImgSt.imGrown {w : World} {P3 : Array Value} {ps : List PgD} {k : Nat} {A : Option Addr} {c : Nat} {wr w4 : World} (h : ImgSt w P3 ps k A c wr) (o : Obj) (hg : (wr.alloc o).grownBy w4 (Value.ownBlock (.slice A k c))) : Blk w4 (w.heap.size + 1 + 1) 29 #[.int .u32 0, .slice A k c] :=
  (h.im.alloc o).grown hg (fun e => by have := h.base _ e.symm; omega)
theorem ImgSt.step {w : World} {P3 : Array Value} {ps : List PgD} {k : Nat} {A : Option Addr} {c : Nat} {wr w4 : World} (h : ImgSt w P3 ps k A c wr) (p : PgD) (o : Obj) (h14 : k < 14) {A4 : Option Addr} {c4 : Nat}
    (ho : w4.ownsRow (w.heap.size + 1 + 1 + 1) 39 3 (.slice A4 (k + 1) c4) (k + 1) (pgsV ps ++ pgC p)) (hg : (wr.alloc o).grownBy w4 (Value.ownBlock (.slice A k c))) :
    ImgSt w P3 (ps ++ [p]) (k + 1) A4 c4 (w4.setCell ⟨w.heap.size + 1 + 1, 1, none⟩ (.slice A4 (k + 1) c4)) := by
  have hb := h.base
  have hpg : pgsV ps ++ pgC p = pgsV (ps ++ [p]) := by simp [pgsV]
  rw [hpg] at ho
  exact ⟨by simp [h.len], by omega, ((h.prog.alloc o).grown hg (fun e => by have := hb _ e.symm; omega)).far (show w.heap.size ≠ w.heap.size + 1 + 1 by omega) _, ((h.res.alloc o).grown hg (fun e => by have := hb _ e.symm; omega)).far (show w.heap.size + 1 ≠ w.heap.size + 1 + 1 by omega) _,
    (h.imGrown o hg).set_ 1 _, own_far ho (fun e => by have := (ho.lt _ e).1; simp at this; omega) _, ((h.ext.alloc o).grown hg (fun g e => by have := hb _ e; omega)).setCell (by show _ ≤ w.heap.size + 1 + 1; omega) _⟩

theorem ImgSt.rights {w : World} {P3 : Array Value} {p : PgD} {t : List PgD} {k g : Nat} {c : Nat} {wr : World} (h : ImgSt w P3 (p :: t) k (some ⟨g, 0, none⟩) c wr) : ImgSt w P3 ({ p with rights := 5 } :: t) k (some ⟨g, 0, none⟩) c (wr.setCell ⟨g, 1, none⟩ (.int .i64 5)) := by
  have hb := h.base g rfl
  exact ⟨h.len, h.few, h.prog.far (show w.heap.size ≠ g by omega) _, h.res.far (show w.heap.size + 1 ≠ g by omega) _, h.im.far (show w.heap.size + 1 + 1 ≠ g by omega) _, own_set h.own 1 _, h.ext.setCell (show w.heap.size ≤ g by omega) _⟩
theorem ImgSt.cons {w : World} {P3 : Array Value} {ps : List PgD} {k : Nat} {A : Option Addr} {c : Nat} {wr : World} (h : ImgSt w P3 ps k A c wr) (hk : 0 < k) : ∃ p t g, ps = p :: t ∧ A = some ⟨g, 0, none⟩ := by
  obtain ⟨g, rfl, _⟩ := own_addr h.own hk
  match ps, h.len with
  | [], e => simp at e; omega
  | p :: t, _ => exact ⟨p, t, g, rfl, rfl⟩
theorem PgsOk.rights {w : World} {p : PgD} {t : List PgD} {pg : Int} (h : PgsOk w (p :: t) pg) : PgsOk w ({ p with rights := 5 } :: t) pg := by
  obtain ⟨h1, h2, h3⟩ := h
  have hp := h1 p (by simp)
  obtain ⟨h4, h5⟩ := List.pairwise_cons.1 h2
  refine ⟨fun q hq => ?_, List.pairwise_cons.2 ⟨h4, h5⟩, fun q hq => ?_⟩
  · rcases List.mem_cons.1 hq with rfl | hq
    · exact ⟨hp.p0, hp.p1, by show (1 : Int) ≤ 5; omega, by show (5 : Int) ≤ 5; omega, hp.m16, hp.mc, hp.cm, hp.reads, hp.len⟩
    · exact h1 q (List.mem_cons_of_mem _ hq)
  · rcases List.mem_cons.1 hq with rfl | hq
    · exact h3 p (by simp)
    · exact h3 q (List.mem_cons_of_mem _ hq)
/-- The image of no pages at all: one page. -/
theorem ImgSt.lone {w : World} {P3 : Array Value} {A : Option Addr} {c : Nat} {wr : World} (h : ImgSt w P3 [] 0 A c wr) :
    ImgSt w P3 [⟨1, 5, none, 0, 0, []⟩] 1 (some ⟨wr.heap.size, 0, none⟩) 1 ((wr.setCell ⟨w.heap.size + 1 + 1, 1, none⟩ (.slice (some ⟨wr.heap.size, 0, none⟩) 1 1)).alloc (.cells #[.int .i64 1, .int .i64 5, .slice none 0 0] 39)) := by
  have hl := h.im.lt
  have hsz : (wr.setCell ⟨w.heap.size + 1 + 1, 1, none⟩ (.slice (some ⟨wr.heap.size, 0, none⟩) 1 1)).heap.size = wr.heap.size := by simp
  have hb : Blk ((wr.setCell ⟨w.heap.size + 1 + 1, 1, none⟩ (.slice (some ⟨wr.heap.size, 0, none⟩) 1 1)).alloc (.cells #[.int .i64 1, .int .i64 5, .slice none 0 0] 39)) wr.heap.size 39 #[.int .i64 1, .int .i64 5, .slice none 0 0] := Blk.new' _ _ _ hsz.symm
  exact ⟨rfl, by omega, (h.prog.far (show w.heap.size ≠ w.heap.size + 1 + 1 by omega) _).alloc _, (h.res.far (show w.heap.size + 1 ≠ w.heap.size + 1 + 1 by omega) _).alloc _, (h.im.set_ 1 _).alloc _,
    ⟨rfl, .inr ⟨wr.heap.size, 1, #[.int .i64 1, .int .i64 5, .slice none 0 0], rfl, by omega, hb, Nat.le_refl _, by simp [maxLen], rfl, rfl⟩⟩, (h.ext.setCell (by show _ ≤ w.heap.size + 1 + 1; omega) _).alloc _⟩
theorem lone_ok (w : World) : PgsOk w [⟨1, 5, none, 0, 0, []⟩] 1 := by
  refine ⟨fun q hq => ?_, List.pairwise_singleton _ _, fun q hq => ?_⟩ <;> rw [List.mem_singleton.1 hq]
  · exact ⟨by show (0 : Int) ≤ 1; omega, by show (1 : Int) < 64; omega, by show (1 : Int) ≤ 5; omega, by show (5 : Int) ≤ 5; omega, by show 0 ≤ 16; omega, Nat.le_refl _, Nat.zero_le _, Reads.none_, rfl⟩
  · exact Int.le_refl _
theorem wraps (a : Int) (b : Nat) (h0 : 0 ≤ a) (h1 : a < 64) (hb : b < 4) : IntKind.u32.wrap (IntKind.i64.wrap (IntKind.i64.wrap (a * 16) + IntKind.i64.wrap (4 * (b : Int)))) = a * 16 + 4 * b := by
  rw [IntWalk.i64_in (a * 16) (by omega), IntWalk.i64_in (4 * (b : Int)) (by omega), IntWalk.i64_in _ (by omega), IntKind.wrap_u32]
  omega
def ImgPos (w : World) (P3 : Array Value) (wr : World) : Prop := ∃ (k : Nat) (pg : Int) (p : PgD) (t : List PgD) (g : Nat) (c : Nat), PgsOk w (p :: t) pg ∧ ImgSt w P3 (p :: t) k (some ⟨g, 0, none⟩) c wr

set_option maxHeartbeats 4000000 in
set_option maxRecDepth 100000 in
theorem image_any (A : Option Addr) (n c : Nat) (zs : List Int) (A' : Option Addr) (n' c' : Nat) (z : Int) (w : World) (hr : Reads w w.heap.size 1 A n (intsV zs)) (hz : ∀ x ∈ zs, -9223372036854775808 ≤ x ∧ x ≤ 9223372036854775807)
    (hn : n ≤ c) (hc : c ≤ maxLen) (hd : RowsAt w A' n') (hn' : n' ≤ c') (hc' : c' ≤ maxLen) (z1 : -9223372036854775808 ≤ z) (z2 : z ≤ 9223372036854775807) :
    Calls Tryd.prog 4 #[.agg #[.slice A n c, .slice A' n' c', .int .i64 z]] w fun e w' =>
      ∃ ps m Ap cp en, e = .returned (.agg #[.int .u32 en, .slice Ap m cp]) ∧ ps.length = m ∧ w'.ownsRow w.heap.size 39 3 (.slice Ap m cp) m (pgsV ps) ∧ ImOk w ps en ∧ Ext w w' := by
  obtain ⟨i0, hi0, hz0, hz1, hz2⟩ := info_parts pg_info
  unfold maxLen at hc hc'
  have lz : zs.length = n := by have := hr.1; rw [intsV_length] at this; omega
  have LZ := hide lz
  have HR := hide hr
  have HZ := hide hz
  have HD := hide hd
  clear hr hz hd lz
  go_enter Tryd.func4, Tryd.ntmps4
  go_upto_block 0 with fail
  obtain ⟨W, hW⟩ : ∃ W, W = ((w.alloc (.cells #[.slice A n c, .slice A' n' c', .int .i64 z] 25)).alloc (.cells zeroIm 29)).alloc (.cells zeroIm 29) := ⟨_, rfl⟩
  rw [← hW]
  have h0 : ImgSt w #[.slice A n c, .slice A' n' c', .int .i64 z] [] 0 none 0 W := by
    rw [hW]
    exact ⟨rfl, by omega, ((Blk.new _ _ _).alloc _).alloc _, (Blk.new' _ _ _ (by simp)).alloc _, Blk.new' _ _ _ (by simp), World.ownsRow_nil _ _ _ _, by ((repeat (first | with_reducible exact Ext.refl _ | with_reducible assumption | with_reducible refine Ext.alloc ?_ _ | with_reducible refine Ext.drew ?_ | with_reducible refine Ext.drewN ?_ _ | with_reducible refine Ext.setCell ?_ (by first | exact Nat.le_refl _ | assumption | (simp; done) | omega) _ | with_reducible refine Ext.trans ?_ (by with_reducible assumption))); done)⟩
  have H0 := hide h0
  clear h0 hW
  go_cut [4] (fun _ wx => ImgPost w #[.slice A n c, .slice A' n' c', .int .i64 z] wx)
  case first =>
    go_wp2_with fail
    go_loopw [4, 12] (ImgRel w #[.slice A n c, .slice A' n' c', .int .i64 z] n) (fun _ i _ => n - (intOf i).toNat)
    case atStart => exact ⟨0, -1, [], none, 0, Nat.zero_le _, rfl, rfl, by omega, by omega, ⟨by simp, List.Pairwise.nil, by simp⟩, H0.out⟩
    case round =>
      obtain ⟨k, pg, ps, A1, c1, hk, rfl, rfl, hp1, hp2, hps, hst⟩ := hrel
      have HPS := hide hps
      have HST := hide hst
      clear hps hst H0
      by_cases hlt : k < n
      · obtain ⟨b, off, rfl, hb, -⟩ := HR.out.at1 (by omega)
        have q0 : wr.cell? ⟨b, off + k, none⟩ = some (.int .i64 (zs.getD k 0)) := HST.out.ext.cell (cells_ints HR.out k hlt)
        obtain ⟨y1, y2⟩ := HZ.out (zs.getD k 0) (by rw [List.getD_eq_getElem?_getD, List.getElem?_eq_getElem (by rw [LZ.out]; exact hlt)]; exact List.getElem_mem _)
        generalize zs.getD k 0 = y at *
        have y3 : -9223372036854775808 ≤ y.tdiv 5 ∧ y.tdiv 5 ≤ 9223372036854775807 := tdiv5 y y1 y2
        go_wp2_with fail
        refine (rest_any y 5 _ y1 y2 (by omega) (by omega)).mono ?_
        rintro e w5 ⟨rfl, rfl⟩
        obtain ⟨j, hj, hj2⟩ : ∃ k : Nat, restZ y 5 = (k : Int) ∧ k < 5 := rest_nat y 5 (by omega)
        rw [hj]
        clear hj
        by_cases h14 : k < 14 ∧ pg + (1 + (j : Int)) < 64
        · obtain ⟨h14, h64⟩ := h14
          have t1 : decide (14 ≤ (k : Int)) = false := by simp; omega
          have t2 : decide (64 ≤ pg + (1 + (j : Int))) = false := by simp; omega
          go_wp2_with fail
          refine (rest_any (y.tdiv 5) 5 _ y3.1 y3.2 (by omega) (by omega)).mono ?_
          rintro e w5 ⟨rfl, rfl⟩
          obtain ⟨x, hx, hx2⟩ : ∃ k : Nat, restZ (y.tdiv 5) 5 = (k : Int) ∧ k < 5 := rest_nat _ 5 (by omega)
          rw [hx]
          obtain ⟨r, hr, hr1, hr5⟩ := rights_at x hx2
          have qr : (wr.alloc (.cells rightsL 3)).cell? ⟨wr.heap.size, x, none⟩ = some (.int .i64 r) := by rw [(Blk.new _ _ _).cell]; exact hr
          have H1 := hide (HST.out.keep (w' := wr.alloc (.cells rightsL 3)) (by ((repeat (first | with_reducible exact Ext.refl _ | with_reducible assumption | with_reducible refine Ext.alloc ?_ _ | with_reducible refine Ext.drew ?_ | with_reducible refine Ext.drewN ?_ _ | with_reducible refine Ext.setCell ?_ (by first | exact Nat.le_refl _ | assumption | (simp; done) | omega) _ | with_reducible refine Ext.trans ?_ (by with_reducible assumption))); done)))
          clear hx hr y1 y2 y3 t1 t2 q0 HST
          unfold rightsL at qr H1
          generalize (wr.alloc (.cells #[.int .i64 1, .int .i64 3, .int .i64 5, .int .i64 4, .int .i64 2] 3)) = W1 at qr H1 ⊢
          have p1 : W1.cell? ⟨w.heap.size, 1, none⟩ = some (.slice A' n' c') := H1.out.prog.cell 1
          have hlt1 : w.heap.size < W1.heap.size := H1.out.prog.lt
          have hal1 := alloc_old W1
          by_cases hkn : k < n'
          · obtain ⟨bD, oD, rfl, hrow⟩ := HD.out (by omega)
            obtain ⟨D, m0, cd, ds0, hcd, hm0, hcm, hrd⟩ := hrow k hkn
            have q1 : W1.cell? ⟨bD, oD + k, none⟩ = some (.slice D m0 cd) := H1.out.ext.cell hcd
            have hbD : bD < W1.heap.size := World.block_lt_of_cell? _ _ q1
            clear hrow hcd
            have HRD := hide hrd
            clear hrd
            have hk0 : (0 : Int) ≤ (k : Int) := by omega
            go_wp2_with fail
            refine (cut_any D m0 cd 16 _ hm0 hcm (by omega)).mono ?_
            rintro e w5 ⟨rfl, rfl⟩
            obtain ⟨m, hm⟩ : ∃ m, m = min m0 16 := ⟨_, rfl⟩
            rw [← hm]
            obtain ⟨ds, hds⟩ : ∃ ds, ds = ds0.take m := ⟨_, rfl⟩
            have hrd : Reads w w.heap.size 1 D m (bytesV ds) := by rw [hds, ← bytesV_take]; exact HRD.out.take (by omega)
            have hok : PgD.Ok w ⟨pg + (1 + (j : Int)), r, D, m, cd, ds⟩ := ⟨by show 0 ≤ pg + (1 + (j : Int)); omega, h64, hr1, hr5, by show m ≤ 16; omega, by show m ≤ cd; omega, hcm, hrd, by have := hrd.1; rw [bytesV_length] at this; show ds.length = m; omega⟩
            clear hm hds hrd HRD q1 hbD
            go_upto_region 11 with fail
            have hbx : Blk (W1.alloc (.cells #[.int .i64 (pg + (1 + (j : Int))), .int .i64 r, .slice D m cd] 39)) W1.heap.size 39 #[.int .i64 (pg + (1 + (j : Int))), .int .i64 r, .slice D m cd] := Blk.new _ _ _
            have H3 := hide (H1.out.keep (w' := W1.alloc (.cells #[.int .i64 (pg + (1 + (j : Int))), .int .i64 r, .slice D m cd] 39)) (by ((repeat (first | with_reducible exact Ext.refl _ | with_reducible assumption | with_reducible refine Ext.alloc ?_ _ | with_reducible refine Ext.drew ?_ | with_reducible refine Ext.drewN ?_ _ | with_reducible refine Ext.setCell ?_ (by first | exact Nat.le_refl _ | assumption | (simp; done) | omega) _ | with_reducible refine Ext.trans ?_ (by with_reducible assumption))); done)))
            generalize W1.alloc (.cells #[.int .i64 (pg + (1 + (j : Int))), .int .i64 r, .slice D m cd] 39) = W3 at hbx H3 ⊢
            have x0 : W3.cell? ⟨W1.heap.size, 0, none⟩ = some (.int .i64 (pg + (1 + (j : Int)))) := hbx.cell 0
            have x1 : W3.cell? ⟨W1.heap.size, 1, none⟩ = some (.int .i64 r) := hbx.cell 1
            have x2 : W3.cell? ⟨W1.heap.size, 2, none⟩ = some (.slice D m cd) := hbx.cell 2
            have x3 : W3.cell? ⟨w.heap.size + 1 + 1, 1, none⟩ = some (.slice A1 k c1) := H3.out.im.cell 1
            have x4 : w.heap.size + 1 + 1 < W3.heap.size := H3.out.im.lt
            have hal := alloc_old W3
            have HB3 := hide (Blk.new W3 39 #[.int .i64 (pg + (1 + (j : Int))), .int .i64 r, .slice D m cd])
            have HP := hide (HPS.out.snoc hok rfl (by show pg < pg + (1 + (j : Int)); omega))
            clear hbx hok H1 HPS hlt1 hal1 p1
            go_wp2_with (at_builtin; refine wpList_append_any _ rfl (.tmp 49) (.tmp 51) 27 rfl (w.heap.size + 1 + 1 + 1) 39 i0 _ 3 40 Tryd.underlying27 hi0 hz0 hz1 hz2 rfl (by omega) _ k (pgsV ps) rfl (H3.out.own.alloc _) _ _ 1 1 [.int .i64 (pg + (1 + (j : Int))), .int .i64 r, .slice D m cd] rfl HB3.out.reads3 (by simp [Value.oneCell']) (by simp only [maxLen]; omega) (by omega) (by simp; omega) ?_; intro A4 c4 w4 ho4 hg4 ha4; have hi4 := H3.out.imGrown _ hg4; have hc4 : w4.cell? ⟨w.heap.size + 1 + 1, 1, none⟩ = some (.slice A1 k c1) := hi4.cell 1; have hf4 := hi4.frozen 1)
            have H5 := hide (H3.out.step ⟨pg + (1 + (j : Int)), r, D, m, cd, ds⟩ _ h14 ho4 hg4)
            clear ho4 hg4 ha4 hi4 hc4 hf4
            go_roundw
            case rel => exact ⟨k + 1, pg + (1 + (j : Int)), _, A4, c4, by omega, by go_num, rfl, by omega, h64, HP.out, H5.out⟩
            case measure => simp [intOf]; omega
          · have hok : PgD.Ok w ⟨pg + (1 + (j : Int)), r, none, 0, 0, []⟩ := ⟨by show 0 ≤ pg + (1 + (j : Int)); omega, h64, hr1, hr5, by show 0 ≤ 16; omega, Nat.le_refl _, Nat.zero_le _, Reads.none_, rfl⟩
            go_upto_region 11 with fail
            have hbx : Blk (W1.alloc (.cells #[.int .i64 (pg + (1 + (j : Int))), .int .i64 r, .slice none 0 0] 39)) W1.heap.size 39 #[.int .i64 (pg + (1 + (j : Int))), .int .i64 r, .slice none 0 0] := Blk.new _ _ _
            have H3 := hide (H1.out.keep (w' := W1.alloc (.cells #[.int .i64 (pg + (1 + (j : Int))), .int .i64 r, .slice none 0 0] 39)) (by ((repeat (first | with_reducible exact Ext.refl _ | with_reducible assumption | with_reducible refine Ext.alloc ?_ _ | with_reducible refine Ext.drew ?_ | with_reducible refine Ext.drewN ?_ _ | with_reducible refine Ext.setCell ?_ (by first | exact Nat.le_refl _ | assumption | (simp; done) | omega) _ | with_reducible refine Ext.trans ?_ (by with_reducible assumption))); done)))
            generalize W1.alloc (.cells #[.int .i64 (pg + (1 + (j : Int))), .int .i64 r, .slice none 0 0] 39) = W3 at hbx H3 ⊢
            have x0 : W3.cell? ⟨W1.heap.size, 0, none⟩ = some (.int .i64 (pg + (1 + (j : Int)))) := hbx.cell 0
            have x1 : W3.cell? ⟨W1.heap.size, 1, none⟩ = some (.int .i64 r) := hbx.cell 1
            have x2 : W3.cell? ⟨W1.heap.size, 2, none⟩ = some (.slice none 0 0) := hbx.cell 2
            have x3 : W3.cell? ⟨w.heap.size + 1 + 1, 1, none⟩ = some (.slice A1 k c1) := H3.out.im.cell 1
            have x4 : w.heap.size + 1 + 1 < W3.heap.size := H3.out.im.lt
            have hal := alloc_old W3
            have HB3 := hide (Blk.new W3 39 #[.int .i64 (pg + (1 + (j : Int))), .int .i64 r, .slice none 0 0])
            have HP := hide (HPS.out.snoc hok rfl (by show pg < pg + (1 + (j : Int)); omega))
            clear hbx hok H1 HPS hlt1 hal1 p1
            go_wp2_with (at_builtin; refine wpList_append_any _ rfl (.tmp 49) (.tmp 51) 27 rfl (w.heap.size + 1 + 1 + 1) 39 i0 _ 3 40 Tryd.underlying27 hi0 hz0 hz1 hz2 rfl (by omega) _ k (pgsV ps) rfl (H3.out.own.alloc _) _ _ 1 1 [.int .i64 (pg + (1 + (j : Int))), .int .i64 r, .slice none 0 0] rfl HB3.out.reads3 (by simp [Value.oneCell']) (by simp only [maxLen]; omega) (by omega) (by simp; omega) ?_; intro A4 c4 w4 ho4 hg4 ha4; have hi4 := H3.out.imGrown _ hg4; have hc4 : w4.cell? ⟨w.heap.size + 1 + 1, 1, none⟩ = some (.slice A1 k c1) := hi4.cell 1; have hf4 := hi4.frozen 1)
            have H5 := hide (H3.out.step ⟨pg + (1 + (j : Int)), r, none, 0, 0, []⟩ _ h14 ho4 hg4)
            clear ho4 hg4 ha4 hi4 hc4 hf4
            go_roundw
            case rel => exact ⟨k + 1, pg + (1 + (j : Int)), _, A4, c4, by omega, by go_num, rfl, by omega, h64, HP.out, H5.out⟩
            case measure => simp [intOf]; omega
        · go_wp2_with fail
          all_goals
            go_meet
            exact ⟨k, pg, ps, A1, c1, HPS.out, HST.out⟩
      · go_wp2_with fail
        go_meet
        exact ⟨k, pg, ps, A1, c1, HPS.out, HST.out⟩
  case rest =>
    clear H0
    go_upto_region 13 with fail
    obtain ⟨k, pg, ps, A1, c1, hps, hst⟩ := hcut
    have HPS := hide hps
    have HST := hide hst
    clear hps hst
    have x3 : wc.cell? ⟨w.heap.size + 1 + 1, 1, none⟩ = some (.slice A1 k c1) := HST.out.im.cell 1
    go_upto_if 58 with fail
    go_cut [59] (fun _ wx => ImgPos w #[.slice A n c, .slice A' n' c', .int .i64 z] wx)
    case first =>
      by_cases hk : k = 0
      · subst hk
        have hnil : ps = [] := List.eq_nil_of_length_eq_zero HST.out.len
        subst hnil
        have x4 : w.heap.size + 1 + 1 < wc.heap.size := HST.out.im.lt
        have x5 : wc.frozen? ⟨w.heap.size + 1 + 1, 1, none⟩ = false := HST.out.im.frozen 1
        have hal := alloc_old wc
        have H5 := hide HST.out.lone
        go_wp2_with fail
        go_meet
        exact ⟨1, 1, _, _, _, _, lone_ok w, H5.out⟩
      · have t1 : ((k : Int) == 0) = false := by rw [beq_eq_false_iff_ne]; omega
        obtain ⟨p, t, g, rfl, rfl⟩ := HST.out.cons (by omega)
        go_wp2_with fail
        go_meet
        exact ⟨k, pg, p, t, g, c1, HPS.out, HST.out⟩
    case rest =>
      clear HPS HST x3
      obtain ⟨k, pg, p, t, g, c1, hps, hst⟩ := hcut
      have HPS := hide hps
      have HST := hide hst
      have hlen : 0 < k := by have := hst.len; simp at this; omega
      clear hps hst
      obtain ⟨y1, y2⟩ := own_cell HST.out.own 1 (u := .int .i64 p.rights) rfl
      have x3 : wc.cell? ⟨w.heap.size + 1 + 1, 1, none⟩ = some (.slice (some ⟨g, 0, none⟩) k c1) := HST.out.im.cell 1
      have hk1 : (0 : Int) < (k : Int) := by omega
      have H5 := hide HST.out.rights
      go_upto_region 16 with fail
      generalize wc.setCell ⟨g, 1, none⟩ (.int .i64 5) = W5 at H5 ⊢
      clear y1 y2 x3
      have v1 := (own_cell H5.out.own 0 (u := .int .i64 p.page) rfl).1
      have v2 : W5.cell? ⟨w.heap.size + 1 + 1, 1, none⟩ = some (.slice (some ⟨g, 0, none⟩) k c1) := H5.out.im.cell 1
      have v3 : W5.cell? ⟨w.heap.size, 2, none⟩ = some (.int .i64 z) := H5.out.prog.cell 2
      have v4 : W5.cell? ⟨w.heap.size + 1 + 1, 0, none⟩ = some (.int .u32 0) := H5.out.im.cell 0
      have v5 := H5.out.im.frozen 0
      have hok := HPS.out.ok p (by simp)
      have b0 := hok.p0
      have b1 := hok.p1
      obtain ⟨e4, he4, he42⟩ : ∃ k : Nat, restZ z 4 = (k : Int) ∧ k < 4 := rest_nat z 4 (by omega)
      go_cut [77] (fun _ wx => wx = (W5.setCell ⟨w.heap.size + 1 + 1, 0, none⟩ (.int .u32 (IntKind.u32.wrap (IntKind.i64.wrap (IntKind.i64.wrap (p.page * 16) + IntKind.i64.wrap (4 * (e4 : Int))))))).drew)
      case first =>
        refine wp_region_noPanic ?_
        go_region_law ((go_simp; go_at_call 9; refine (rest_any z 4 _ z1 z2 (by omega) (by omega)).mono ?_; rintro e w' ⟨rfl, rfl⟩; rw [he4]))
        all_goals
          refine NoPanic.normal ?_
          go_wp2_with fail
          go_meet
          rfl
      case rest =>
        rw [wraps p.page e4 b0 b1 he42] at hcut
        have hm : Blk wc (w.heap.size + 1 + 1) 29 #[.int .u32 (p.page * 16 + 4 * e4), .slice (some ⟨g, 0, none⟩) k c1] := by rw [hcut]; exact (H5.out.im.set_ 0 _).drew
        have hb := H5.out.base g rfl
        have ho : wc.ownsRow (w.heap.size + 1 + 1 + 1) 39 3 (.slice (some ⟨g, 0, none⟩) k c1) k (pgsV ({ p with rights := 5 } :: t)) := by rw [hcut]; exact (own_far H5.out.own (p := ⟨w.heap.size + 1 + 1, 0, none⟩) (fun e => by have e' : some g = some (w.heap.size + 1 + 1) := e; injection e' with e'; omega) _).drew
        have hx : Ext w wc := by rw [hcut]; exact (H5.out.ext.setCell (by show _ ≤ w.heap.size + 1 + 1; omega) _).drew
        have hs : Blk wc (w.heap.size + 1) 29 zeroIm := by rw [hcut]; exact (H5.out.res.far (show w.heap.size + 1 ≠ w.heap.size + 1 + 1 by omega) _).drew
        have HO := hide ho
        have HS := hide hs
        have m0 : wc.cell? ⟨w.heap.size + 1 + 1, 0, none⟩ = some (.int .u32 (p.page * 16 + 4 * e4)) := hm.cell 0
        have m1 : wc.cell? ⟨w.heap.size + 1 + 1, 1, none⟩ = some (.slice (some ⟨g, 0, none⟩) k c1) := hm.cell 1
        have s0 : wc.cell? ⟨w.heap.size + 1, 0, none⟩ = some (.int .u32 0) := hs.cell 0
        have s1 : wc.cell? ⟨w.heap.size + 1, 1, none⟩ = some (.slice none 0 0) := hs.cell 1
        have s2 := hs.frozen 0
        have s3 := hs.frozen 1
        have hgr : k ≤ 14 := H5.out.few
        have HPS5 := hide HPS.out.rights
        have hlen5 : ({ p with rights := 5 } :: t).length = k := H5.out.len
        clear ho hs hcut v1 v2 v3 v4 v5 hok H5 HST
        go_wp2_with fail
        have hs9 := (HS.out.set_ 0 (.int .u32 (p.page * 16 + 4 * e4))).set_ 1 (.slice (some ⟨g, 0, none⟩) k c1)
        have ho9 := own_far (own_far HO.out (p := ⟨w.heap.size + 1, 0, none⟩) (fun e => by have e' : some g = some (w.heap.size + 1) := e; injection e' with e'; omega) (.int .u32 (p.page * 16 + 4 * e4))) (p := ⟨w.heap.size + 1, 1, none⟩) (fun e => by have e' : some g = some (w.heap.size + 1) := e; injection e' with e'; omega) (.slice (some ⟨g, 0, none⟩) k c1)
        have hx9 := (hx.setCell (p := ⟨w.heap.size + 1, 0, none⟩) (by show _ ≤ w.heap.size + 1; omega) (.int .u32 (p.page * 16 + 4 * e4))).setCell (p := ⟨w.heap.size + 1, 1, none⟩) (by show _ ≤ w.heap.size + 1; omega) (.slice (some ⟨g, 0, none⟩) k c1)
        generalize (wc.setCell ⟨w.heap.size + 1, 0, none⟩ (.int .u32 (p.page * 16 + 4 * e4))).setCell ⟨w.heap.size + 1, 1, none⟩ (.slice (some ⟨g, 0, none⟩) k c1) = W9 at hs9 ho9 hx9 ⊢
        have z0 : W9.cell? ⟨w.heap.size + 1, 0, none⟩ = some (.int .u32 (p.page * 16 + 4 * e4)) := hs9.cell 0
        have z1' : W9.cell? ⟨w.heap.size + 1, 1, none⟩ = some (.slice (some ⟨g, 0, none⟩) k c1) := hs9.cell 1
        refine bodyPost_ret (v := .agg #[.int .u32 (p.page * 16 + 4 * e4), .slice (some ⟨g, 0, none⟩) k c1]) (by simp [results, Tryd.results4, go_sem, z0, z1']) rfl ?_
        exact ⟨{ p with rights := 5 } :: t, k, _, c1, _, rfl, hlen5, own_mono ho9 (by omega), ⟨by simp, by rw [hlen5]; exact hgr, HPS5.out.ok, HPS5.out.rising, fun _ => rfl, e4, he42, fun _ => rfl⟩, hx9⟩
end Go.Proofs.YtmcgkdifieohlaaDoor
