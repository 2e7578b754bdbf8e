/- The contract of ringkeep4.linked: a closed fact. -/
import Derived.Test.YtljlniehbenefaaDoorBdLink
namespace Go.Proofs.YtljlniehbenefaaDoor
open Go.RowKit
set_option linter.unusedVariables false

def lkO : ObD := ⟨[402653184], [], [⟨startS, 1, 0, false⟩], []⟩
def lkB : Bs := [0, 0, 0, 0, 0, 0, 0, 0, 0, 0, 0, 0, 0, 0, 0, 0, 0, 0, 0, 24, 0, 0, 0, 0, 0, 0, 0, 0, 0, 0, 0, 0]
theorem lk_places (v : ObV) : ∃ f, placesP [(lkO, v)] = some ⟨[⟨startS, 0, 16⟩], f⟩ := ⟨_, rfl⟩
theorem lk_end (v : ObV) : endL [(lkO, v)] = 32 := by simp [endL, dBeg, dLen, cLen, upN, lkO]
theorem lk_c (v : ObV) : cAt [(lkO, v)] 0 = 16 := by simp [cAt, cLen]
theorem lk_d (v : ObV) : dAt [(lkO, v)] 0 = 32 := by simp [dAt, dBeg, dLen, cLen, upN, lkO]
theorem lk_l (v : ObV) : cLen [(lkO, v)] = 4 := by simp [cLen, lkO]
theorem lk_bytes (v : ObV) (f : Bs → Bool) : bytesP [(lkO, v)] ⟨[⟨startS, 0, 16⟩], f⟩ = some lkB := by
  unfold bytesP
  rw [lk_end]
  show some (splice (splice (List.replicate 32 0) (cAt [(lkO, v)] 0) ([402653184].flatMap w4)) (dAt [(lkO, v)] 0) []) = some lkB
  rw [lk_c, lk_d, splice_nil]
  rfl
theorem lk_chk : ChkOk lkO := by
  refine ⟨by decide, by decide, by decide, by decide, fun n hn => ?_, by decide, fun n hn => (by cases hn), by simp [lkO]⟩
  rw [show lkO.names = [⟨startS, 1, 0, false⟩] from rfl, List.mem_singleton] at hn
  subst hn
  exact ⟨by decide, by decide, by decide, fun _ => by decide⟩
theorem lk_sm : ObSm lkO := by
  refine ⟨by decide, by decide, by decide, by decide, ?_, ?_, fun n hn => (by cases hn)⟩
  · decide
  · intro n hn
    rw [show lkO.names = [⟨startS, 1, 0, false⟩] from rfl, List.mem_singleton] at hn
    subst hn
    exact ⟨by decide, by decide, by decide, by decide⟩
set_option maxHeartbeats 8000000 in
set_option maxRecDepth 100000 in
theorem linked_ok (w : World) : Calls Tryd.prog 15 #[] w fun e w' => e = .returned (.bool true) ∧ Ext w w' := by
  go_enter Tryd.func15, Tryd.ntmps15
  go_wp2_with fail
  have hW : (((w.alloc (.cells #[.int .u32 402653184] 31)).alloc (.cells #[.string ⟨#[115, 116, 97, 114, 116]⟩, .int .i64 1, .int .i64 0, .bool false] nmT)).alloc (.cells #[.slice (some ⟨w.heap.size, 0, none⟩) 1 1, .slice none 0 0, .slice (some ⟨w.heap.size + 1, 0, none⟩) 1 1, .slice none 0 0] obT)).heap.size = w.heap.size + 1 + 1 + 1 := by simp
  have hb0 := ((Blk.new w 31 #[.int .u32 402653184]).alloc (.cells #[.string ⟨#[115, 116, 97, 114, 116]⟩, .int .i64 1, .int .i64 0, .bool false] nmT)).alloc (.cells #[.slice (some ⟨w.heap.size, 0, none⟩) 1 1, .slice none 0 0, .slice (some ⟨w.heap.size + 1, 0, none⟩) 1 1, .slice none 0 0] obT)
  have hb1 := (Blk.new' (w.alloc (.cells #[.int .u32 402653184] 31)) nmT #[.string ⟨#[115, 116, 97, 114, 116]⟩, .int .i64 1, .int .i64 0, .bool false] (g := w.heap.size + 1) (by simp)).alloc (.cells #[.slice (some ⟨w.heap.size, 0, none⟩) 1 1, .slice none 0 0, .slice (some ⟨w.heap.size + 1, 0, none⟩) 1 1, .slice none 0 0] obT)
  have hb2 := Blk.new' ((w.alloc (.cells #[.int .u32 402653184] 31)).alloc (.cells #[.string ⟨#[115, 116, 97, 114, 116]⟩, .int .i64 1, .int .i64 0, .bool false] nmT)) obT #[.slice (some ⟨w.heap.size, 0, none⟩) 1 1, .slice none 0 0, .slice (some ⟨w.heap.size + 1, 0, none⟩) 1 1, .slice none 0 0] (g := w.heap.size + 1 + 1) (by simp)
  have HX0 := hide ((((Ext.refl w).alloc (.cells #[.int .u32 402653184] 31)).alloc (.cells #[.string ⟨#[115, 116, 97, 114, 116]⟩, .int .i64 1, .int .i64 0, .bool false] nmT)).alloc (.cells #[.slice (some ⟨w.heap.size, 0, none⟩) 1 1, .slice none 0 0, .slice (some ⟨w.heap.size + 1, 0, none⟩) 1 1, .slice none 0 0] obT))
  generalize ((w.alloc (.cells #[.int .u32 402653184] 31)).alloc (.cells #[.string ⟨#[115, 116, 97, 114, 116]⟩, .int .i64 1, .int .i64 0, .bool false] nmT)).alloc (.cells #[.slice (some ⟨w.heap.size, 0, none⟩) 1 1, .slice none 0 0, .slice (some ⟨w.heap.size + 1, 0, none⟩) 1 1, .slice none 0 0] obT) = W at *
  generalize w.heap.size = g at *
  have HG := hide (show Good W (some ⟨g + 1 + 1, 0, none⟩) 1 [(lkO, ⟨some ⟨g, 0, none⟩, 1, 1, none, 0, 0, some ⟨g + 1, 0, none⟩, 1, 1, none, 0, 0⟩)] from
    ⟨rfl, hb2.rowsF' 1 4 rfl, fun p hp => by
      rw [List.mem_singleton] at hp
      subst hp
      exact ⟨hb0.rowsF' 1 1 rfl, ⟨rfl, fun h => absurd h (Nat.lt_irrefl 0)⟩, hb1.rowsF' 1 4 rfl, ⟨rfl, fun h => absurd h (Nat.lt_irrefl 0)⟩, rfl, rfl, rfl, rfl⟩, fun p hp => by rw [List.mem_singleton] at hp; subst hp; exact lk_chk, fun p hp => by rw [List.mem_singleton] at hp; subst hp; exact lk_sm⟩)
  clear hb0 hb1 hb2 hW
  refine (link_any _ 1 1 _ W HG.out (by omega) (by rw [lk_end]; omega)).mono ?_
  rintro e w1 ⟨hx1, ⟨S, bs, pgs, A, c, hS, hB, hbl, he1, he2, hpg, hn1, hn2, rfl, hR, hD, hmx⟩ | ⟨hno, -⟩⟩
  case inr =>
    obtain ⟨f, hf⟩ := lk_places ⟨some ⟨g, 0, none⟩, 1, 1, none, 0, 0, some ⟨g + 1, 0, none⟩, 1, 1, none, 0, 0⟩
    rcases hno with h | ⟨S, h1, h2 | h2⟩
    · rw [hf] at h; cases h
    · rw [hf] at h1; injection h1 with h1; subst h1; rw [lk_bytes] at h2; cases h2
    · rw [hf] at h1; injection h1 with h1; subst h1
      exact absurd ⟨(show (16 : Int) ≤ entryP [(⟨startS, 0, 16⟩ : PlD)] by decide), (by rw [lk_l]; exact (show entryP [(⟨startS, 0, 16⟩ : PlD)] < 16 + ((4 : Nat) : Int) by decide))⟩ h2
  case inl =>
    obtain ⟨en, hen⟩ : ∃ en, entryP S.out = en := ⟨_, rfl⟩
    obtain ⟨kk, hkk⟩ : ∃ kk, pgs.length = kk := ⟨_, rfl⟩
    rw [hen, hkk]
    obtain ⟨f, hf⟩ := lk_places ⟨some ⟨g, 0, none⟩, 1, 1, none, 0, 0, some ⟨g + 1, 0, none⟩, 1, 1, none, 0, 0⟩
    rw [hf] at hS
    injection hS with hS
    subst hS
    rw [lk_bytes] at hB
    injection hB with hB
    subst hB
    rw [lk_end] at hn1 hn2
    have hl1 : pgs.length = 1 := by omega
    obtain rfl : kk = 1 := by omega
    obtain rfl : en = 16 := by rw [← hen]; rfl
    match pgs, hl1 with
    | [p], _ =>
      obtain ⟨q1, q2, q3, q4, q5⟩ := hpg 0 (by simp)
      have hR' : Reads w1 w1.heap.size 3 A 1 (pgsV [p]) := hR
      obtain ⟨b, off, rfl, -⟩ := hR'.addr (by omega) (by omega)
      obtain ⟨x0, x1, x2⟩ := pg_cells hR' 0 (by simp) (by omega)
      have hD0 := hD p (by simp)
      have hp1 : p.page = 1 := q1
      have hp3 : p.ds = (lkB.drop 16).take 16 := q3
      have hp4 : p.m = p.ds.length := q4
      clear q1 q2 q3 q4 q5
      simp only [List.getElem_cons_zero] at x0 x1 x2
      obtain ⟨page, rights, D, m, cc, ds⟩ := p
      dsimp only at hp1 hp3 hp4 x0 x1 x2 hD0
      have hds : ds = [0, 0, 0, 24, 0, 0, 0, 0, 0, 0, 0, 0, 0, 0, 0, 0] := by rw [hp3]; rfl
      subst hds
      obtain rfl : m = 16 := by rw [hp4]; rfl
      obtain ⟨bd, od, rfl, -⟩ := hD0.at1 (by omega)
      have z3 := cells_of hD0 3 (by omega)
      rw [show ((([0, 0, 0, 24, 0, 0, 0, 0, 0, 0, 0, 0, 0, 0, 0, 0] : Bs).getD 3 0).toNat : Int) = 24 by rfl] at z3
      have HX1 := hide (HX0.out.trans hx1)
      rw [Nat.zero_mul, Nat.add_zero] at x0 x1 x2
      subst hp1
      clear hp3 hp4 hR hR' hD hD0 hpg hn1 hn2 hbl he1 he2 hx1 hmx x1 hen hkk
      have hbi := Blk.new w1 imT #[.int .u32 16, .slice (some ⟨b, off, none⟩) 1 c]
      have hxi := (Ext.refl w1).alloc (.cells #[.int .u32 16, .slice (some ⟨b, off, none⟩) 1 c] imT)
      have x0 := hxi.cell x0
      have x2 := hxi.cell x2
      have z3 := hxi.cell z3
      have HX2 := hide (HX1.out.trans hxi)
      clear hxi
      go_upto_region 2 with fail
      generalize w1.alloc (.cells #[.int .u32 16, .slice (some ⟨b, off, none⟩) 1 c] imT) = W2 at *
      generalize w1.heap.size = gi at *
      have i0 : W2.cell? ⟨gi, 0, none⟩ = some (.int .u32 16) := hbi.cell 0
      have i1 : W2.cell? ⟨gi, 1, none⟩ = some (.slice (some ⟨b, off, none⟩) 1 c) := hbi.cell 1
      clear hbi
      go_wp2_with fail
      go_ret
      exact ⟨rfl, HX2.out⟩
end Go.Proofs.YtljlniehbenefaaDoor
