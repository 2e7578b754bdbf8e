/- The contract of the law's own 'part', and memory while parts are put into a list. -/
import Derived.Test.YtljlniehbenefaaBwInsert
import Derived.Test.YtljlniehbenefaaBwP
import Derived.Test.YtljlniehbenefaaBdPlaces
namespace Go.Proofs.Ytljlniehbenefaa
open Go.RowKit
set_option linter.unusedVariables false

def xV (b1 b2 : Nat) : ObV := ⟨none, 0, 0, some ⟨b1, 0, none⟩, 8, 8, some ⟨b2, 0, none⟩, 1, 1, none, 0, 0⟩
structure PartB (w : World) (wk : Bool) (k : Int) (b1 b2 : Nat) : Prop where
  d : Blk w b1 5 #[.int .u8 0, .int .u8 0, .int .u8 0, .int .u8 0, .int .u8 0, .int .u8 0, .int .u8 0, .int .u8 0]
  n : Blk w b2 nmT #[.string (str xS), .int .i64 2, .int .i64 k, .bool wk]
theorem PartB.ext {w w' : World} {wk : Bool} {k : Int} {b1 b2 : Nat} (h : PartB w wk k b1 b2) (hx : Ext w w') : PartB w' wk k b1 b2 := ⟨h.d.ext hx, h.n.ext hx⟩
theorem PartB.rd {w : World} {wk : Bool} {k : Int} {b1 b2 : Nat} (h : PartB w wk k b1 b2) : ObRd w (xO wk k) (xV b1 b2) :=
  ⟨⟨rfl, fun h => absurd h (Nat.lt_irrefl 0)⟩, h.d.rowsF' 8 1 rfl, h.n.rowsF' 1 4 rfl, ⟨rfl, fun h => absurd h (Nat.lt_irrefl 0)⟩, rfl, rfl, rfl, rfl⟩
theorem PartB.grown {w w' : World} {wk : Bool} {k : Int} {b1 b2 base n : Nat} {v : Value} {xs : List Value} (h : PartB w wk k b1 b2) (ho : w.ownsRow base obT 4 v n xs) (hg : w.grownBy w' v.ownBlock) : PartB w' wk k b1 b2 :=
  ⟨h.d.grown hg (own_blk_ne ho h.d (by decide)).symm, h.n.grown hg (own_blk_ne ho h.n (by decide)).symm⟩
theorem u8_infoW : (Try.prog.info? 5).map (fun i => (i.zero, i.size, i.bytes)) = some (some (.int .u8 0), 1, 1) := by kernel_rfl
theorem make8 (W : World) : (Instr.makeSlice 24 (.int .i64 8) (.int .i64 8)).run Try.prog W = .ok (.slice (some ⟨W.heap.size, 0, none⟩) 8 8) (W.alloc (.cells #[.int .u8 0, .int .u8 0, .int .u8 0, .int .u8 0, .int .u8 0, .int .u8 0, .int .u8 0, .int .u8 0] 5)) := by
  obtain ⟨i0, hi0, hz0, hz1, hz2⟩ := info_parts u8_infoW
  have := run_make W 24 5 i0 (.int .u8 0) Try.underlying24 hi0 hz0 .i64 .i64 8 8 (by omega) (by omega) (by rw [hz2]; omega) (by omega)
  rw [hz1] at this
  have e : madeCells (Value.int .u8 0).cells ((8 : Int).toNat * 1) = #[.int .u8 0, .int .u8 0, .int .u8 0, .int .u8 0, .int .u8 0, .int .u8 0, .int .u8 0, .int .u8 0] := by kernel_rfl
  rw [e] at this
  exact this
set_option maxHeartbeats 4000000 in
set_option maxRecDepth 100000 in
theorem part_any (wk : Bool) (k : Int) (w : World) :
    Calls Try.prog 5 #[.bool wk, .int .i64 k] w fun e w' => ∃ b1 b2, e = .returned (.agg (xV b1 b2).cells) ∧ PartB w' wk k b1 b2 ∧ Ext w w' := by
  have hmk := make8
  have hb0 := Blk.new w obT #[.slice none 0 0, .slice none 0 0, .slice none 0 0, .slice none 0 0]
  have HX0 := hide ((Ext.refl w).alloc (.cells #[.slice none 0 0, .slice none 0 0, .slice none 0 0, .slice none 0 0] obT))
  go_enter Try.func5, Try.ntmps5
  go_upto_region 1 with fail
  generalize w.alloc (.cells #[.slice none 0 0, .slice none 0 0, .slice none 0 0, .slice none 0 0] obT) = W at *
  have HSZ := hide (show w.heap.size ≤ w.heap.size from Nat.le_refl _)
  have HWL := hide hb0.lt
  generalize hgr : w.heap.size = gr at *
  obtain ⟨W1, hW1⟩ : ∃ W1, W.alloc (.cells #[.int .u8 0, .int .u8 0, .int .u8 0, .int .u8 0, .int .u8 0, .int .u8 0, .int .u8 0, .int .u8 0] 5) = W1 := ⟨_, rfl⟩
  obtain ⟨W2, hW2⟩ : ∃ W2, W1.alloc (.cells #[.string ⟨#[120]⟩, .int .i64 2, .int .i64 k, .bool wk] nmT) = W2 := ⟨_, rfl⟩
  have hb1 : Blk W2 W.heap.size 5 #[.int .u8 0, .int .u8 0, .int .u8 0, .int .u8 0, .int .u8 0, .int .u8 0, .int .u8 0, .int .u8 0] := by
    rw [← hW2, ← hW1]; exact (Blk.new _ _ _).alloc _
  have hb2 : Blk W2 (W.heap.size + 1) nmT #[.string (str xS), .int .i64 2, .int .i64 k, .bool wk] := by
    rw [← hW2]; exact Blk.new' W1 nmT #[.string (str xS), .int .i64 2, .int .i64 k, .bool wk] (by rw [← hW1]; simp)
  have hbr : Blk W2 gr obT #[.slice none 0 0, .slice none 0 0, .slice none 0 0, .slice none 0 0] := by
    rw [← hW2, ← hW1]; exact (hb0.alloc _).alloc _
  have hx2 : Ext W W2 := by rw [← hW2, ← hW1]; exact ((Ext.refl W).alloc _).alloc _
  have HOUT := hide (show ∃ b1 b2, Ending.returned (.agg (xV W.heap.size (W.heap.size + 1)).cells) = .returned (.agg (xV b1 b2).cells) ∧ PartB ((((W2.setCell ⟨gr, 0, none⟩ (.slice none 0 0)).setCell ⟨gr, 1, none⟩ (.slice (some ⟨W.heap.size, 0, none⟩) 8 8)).setCell ⟨gr, 2, none⟩ (.slice (some ⟨W.heap.size + 1, 0, none⟩) 1 1)).setCell ⟨gr, 3, none⟩ (.slice none 0 0)) wk k b1 b2 ∧ Ext w ((((W2.setCell ⟨gr, 0, none⟩ (.slice none 0 0)).setCell ⟨gr, 1, none⟩ (.slice (some ⟨W.heap.size, 0, none⟩) 8 8)).setCell ⟨gr, 2, none⟩ (.slice (some ⟨W.heap.size + 1, 0, none⟩) 1 1)).setCell ⟨gr, 3, none⟩ (.slice none 0 0)) from by
    have hl := HWL.out
    have n1 : W.heap.size ≠ gr := by omega
    have n2 : W.heap.size + 1 ≠ gr := by omega
    refine ⟨_, _, rfl, ⟨(((hb1.far (p := ⟨gr, 0, none⟩) n1 _).far (p := ⟨gr, 1, none⟩) n1 _).far (p := ⟨gr, 2, none⟩) n1 _).far (p := ⟨gr, 3, none⟩) n1 _, (((hb2.far (p := ⟨gr, 0, none⟩) n2 _).far (p := ⟨gr, 1, none⟩) n2 _).far (p := ⟨gr, 2, none⟩) n2 _).far (p := ⟨gr, 3, none⟩) n2 _⟩, ?_⟩
    have h0 : w.heap.size ≤ gr := by omega
    exact ((((HX0.out.trans hx2).setCell (p := ⟨gr, 0, none⟩) h0 _).setCell (p := ⟨gr, 1, none⟩) h0 _).setCell (p := ⟨gr, 2, none⟩) h0 _).setCell (p := ⟨gr, 3, none⟩) h0 _)
  have hbs := (((hbr.set_ 0 (.slice none 0 0)).set_ 1 (.slice (some ⟨W.heap.size, 0, none⟩) 8 8)).set_ 2 (.slice (some ⟨W.heap.size + 1, 0, none⟩) 1 1)).set_ 3 (.slice none 0 0)
  have f0 := hbr.frozen 0
  have f1 := hbr.frozen 1
  have f2 := hbr.frozen 2
  have f3 := hbr.frozen 3
  have r0 : W2.cell? ⟨gr, 0, none⟩ = some (.slice none 0 0) := hbr.cell 0
  have r1 : W2.cell? ⟨gr, 1, none⟩ = some (.slice none 0 0) := hbr.cell 1
  have r2 : W2.cell? ⟨gr, 2, none⟩ = some (.slice none 0 0) := hbr.cell 2
  have r3 : W2.cell? ⟨gr, 3, none⟩ = some (.slice none 0 0) := hbr.cell 3
  clear hb0 hb1 hb2 hx2 HX0
  have hs1 : W1.heap.size = W.heap.size + 1 := by rw [← hW1]; simp
  obtain ⟨WF, hWF⟩ : ∃ WF, (((W2.setCell ⟨gr, 0, none⟩ (.slice none 0 0)).setCell ⟨gr, 1, none⟩ (.slice (some ⟨W.heap.size, 0, none⟩) 8 8)).setCell ⟨gr, 2, none⟩ (.slice (some ⟨W.heap.size + 1, 0, none⟩) 1 1)).setCell ⟨gr, 3, none⟩ (.slice none 0 0) = WF := ⟨_, rfl⟩
  rw [hWF] at hbs HOUT
  have HWF := hide hWF
  have HS1 := hide hs1
  have z0 : WF.cell? ⟨gr, 0, none⟩ = some (.slice none 0 0) := hbs.cell 0
  have z1 : WF.cell? ⟨gr, 1, none⟩ = some (.slice (some ⟨W.heap.size, 0, none⟩) 8 8) := hbs.cell 1
  have z2 : WF.cell? ⟨gr, 2, none⟩ = some (.slice (some ⟨W.heap.size + 1, 0, none⟩) 1 1) := hbs.cell 2
  have z3 : WF.cell? ⟨gr, 3, none⟩ = some (.slice none 0 0) := hbs.cell 3
  clear hWF hs1 hbs
  go_wp2_with fail
  rw [HS1.out, HWF.out]
  exact bodyPost_ret (v := .agg (xV W.heap.size (W.heap.size + 1)).cells) (by simp [results, Try.results5, go_sem, z0, z1, z2, z3, xV, ObV.cells]) rfl HOUT.out
end Go.Proofs.Ytljlniehbenefaa
