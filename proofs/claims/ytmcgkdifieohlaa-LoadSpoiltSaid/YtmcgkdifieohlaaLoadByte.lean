/- Byte of an image that may be; the walk of LoadBytes. -/
import Derived.Test.YtmcgkdifieohlaaLoadCheck
namespace Go.Proofs.Ytmcgkdifieohlaa
open Go.RowKit
set_option linter.unusedVariables false

theorem ImOk.fine {w : World} {ps : List PgD} {en : Int} (h : ImOk w ps en) : Fine ps ps.length := by
  intro i hi _
  have ok := h.ok ps[i] (List.getElem_mem hi)
  have hm : mayB ps[i].rights = true := by simp [mayB, ok.r0, ok.r1]
  simp only [badAt, badP, decide_eq_false_iff_not]
  have h0 := ok.p0
  have h1 := ok.p1
  have h2 := ok.m16
  rintro (a | a | ⟨a, b⟩ | a | a)
  · omega
  · omega
  · have hi1 : i - 1 < ps.length := by omega
    have hr := List.pairwise_iff_getElem.1 h.rising (i - 1) i hi1 hi (by omega)
    rw [prevOf, List.getElem?_eq_getElem hi1] at b
    simp at b
    omega
  · rw [hm] at a; cases a
  · omega
theorem ImOk.starts {w : World} {ps : List PgD} {en : Int} (h : ImOk w ps en) : en % 4 = 0 ∧ startsB en ps = true ∧ 0 ≤ en ∧ en < 4294967296 := by
  obtain ⟨e, he, hen⟩ := h.entry
  have hp := h.pos
  have h1 := hen hp
  have h2 := h.exec hp
  have ok := h.ok ps[0] (List.getElem_mem hp)
  have h3 := ok.p0
  have h4 := ok.p1
  refine ⟨by omega, ?_, by omega, by omega⟩
  rw [startsB, List.any_eq_true]
  exact ⟨ps[0], List.getElem_mem hp, by simp [startP, h2]; omega⟩
theorem ImOk.chk {w : World} {ps : List PgD} {en z : Int} (h : ImOk w ps en) (hz : Chk en ps z) : z = 0 := by
  rcases hz with ⟨h0, _⟩ | ⟨_, h1⟩
  · exact h0
  · exact absurd ⟨by have := h.few; omega, h.fine, h.starts.1, h.starts.2.1⟩ h1
theorem PgD.Ok.num {w : World} {p : PgD} (h : p.Ok w) : p.Num := by
  have h0 := h.p0; have h1 := h.p1; have h2 := h.r0; have h3 := h.r1; have h4 := h.m16
  constructor <;> omega

/-- The byte at a place of a page. -/
def byteOf (p : PgD) (i : Nat) : Int := if i < p.m then ((p.ds.getD i 0).toNat : Int) else 0
def ByteRes (ps : List PgD) (a : Nat) (b r e : Int) : Prop :=
  (∃ k, ∃ h : k < ps.length, ps[k].page = ((a / 16 : Nat) : Int) ∧ (∀ i (hi : i < ps.length), i < k → ps[i].page ≠ ((a / 16 : Nat) : Int)) ∧ b = byteOf ps[k] (a % 16) ∧ r = ps[k].rights ∧ e = 0) ∨
  ((∀ i (hi : i < ps.length), ps[i].page ≠ ((a / 16 : Nat) : Int)) ∧ b = 0 ∧ r = 0 ∧ e = 11)
def BytePost (w : World) (ps : List PgD) (a : Nat) (e : Ending) (w' : World) : Prop := ∃ b r z : Int, e = .returned (.tuple #[.int .u8 b, .int .i64 r, .int .i64 z]) ∧ ByteRes ps a b r z ∧ Ext w w'
def None1 (ps : List PgD) (a k : Nat) : Prop := ∀ i (hi : i < ps.length), i < k → ps[i].page ≠ ((a / 16 : Nat) : Int)
def ByteRel (w : World) (ps : List PgD) (n a : Nat) (i : Value) (wr : World) : Prop := ∃ k : Nat, k ≤ n ∧ i = .int .i64 k ∧ None1 ps a k ∧ Ext w wr

set_option maxHeartbeats 4000000 in
set_option maxRecDepth 100000 in
theorem byte_ok (w0 : World) (ps : List PgD) (A : Option Addr) (n c B : Nat) (en : Int) (a : Nat) (w : World) (hr : Reads w B 3 A n (pgsV ps)) (hB : B ≤ w.heap.size) (him : ImOk w0 ps en) (hx0 : Ext w0 w) (hn : n ≤ maxLen) (ha : a < 1024) :
    Calls Try.prog 10 #[.agg #[.int .u32 en, .slice A n c], .int .u32 (a : Int)] w (BytePost w ps a) := by
  have hl : ps.length = n := flat_len pgC_len (by omega) hr
  obtain ⟨_, _, e1, e2⟩ := him.starts
  have HCK := hide (fun (w' : World) (hx : Ext w w') => check_any ps A n c B en w' (hx.reads hr hB) (Nat.le_trans hB hx.size) (fun p hp => (him.ok p hp).num) hn e1 e2)
  unfold maxLen at hn
  have HR := hide hr
  have HIM := hide him
  have HX0 := hide hx0
  have HL := hide hl
  clear hr him hx0 hl
  go_enter Try.func10, Try.ntmps10
  go_wp2_with fail
  refine (HCK.out _ (by ((repeat (first | with_reducible exact Ext.refl _ | with_reducible assumption | with_reducible refine Ext.alloc ?_ _ | with_reducible refine Ext.drew ?_ | with_reducible refine Ext.drewN ?_ _ | with_reducible refine Ext.setCell ?_ (by first | exact Nat.le_refl _ | assumption | (simp; done) | omega) _ | with_reducible refine Ext.trans ?_ (by with_reducible assumption))); done))).mono ?_
  rintro e w1 ⟨z, rfl, hz, hx1⟩
  obtain rfl := HIM.out.chk hz
  have hbx : Blk w1 w.heap.size 36 #[.int .u32 en, .slice A n c] := (Blk.new _ _ _).ext hx1
  have hx : Ext w w1 := ((Ext.refl w).alloc _).trans hx1
  have r1 : w1.cell? ⟨w.heap.size, 1, none⟩ = some (.slice A n c) := hbx.cell 1
  have HX := hide hx
  clear hz hx hx1 hbx
  go_wp2_with fail
  go_loopw [19] (ByteRel w ps n a) (fun i _ => n - (intOf i).toNat)
  case atStart => exact ⟨0, Nat.zero_le _, rfl, fun i _ h => absurd h (by omega), HX.out⟩
  case round =>
    obtain ⟨k, hk, rfl, hne, hx⟩ := hrel
    have HNE := hide hne
    have HXK := hide hx
    clear hne hx HX r1
    by_cases hlt : k < n
    · obtain ⟨b, off, rfl, hbB⟩ := HR.out.addr (by omega) (by omega)
      have hkl : k < ps.length := by rw [HL.out]; exact hlt
      obtain ⟨q0, q1, q2⟩ := pg_cells (HXK.out.reads HR.out hB) k hkl (by omega)
      have hok := HIM.out.ok ps[k] (List.getElem_mem hkl)
      have HYES := hide (show ps[k].page = ((a / 16 : Nat) : Int) → ByteRes ps a (byteOf ps[k] (a % 16)) ps[k].rights 0 from fun h => .inl ⟨k, hkl, h, HNE.out, rfl, rfl, rfl⟩)
      have HNO := hide (show ps[k].page ≠ ((a / 16 : Nat) : Int) → None1 ps a (k + 1) from fun h i hi hik => by
        by_cases e : i = k
        · subst e; exact h
        · exact HNE.out i hi (by omega))
      generalize ps[k] = p at *
      obtain ⟨pp, pr, pD, pm, pc, pds⟩ := p
      have b1 := hok.m16
      have hrd := hok.reads
      have b2 := hok.p0
      have b3 := hok.p1
      have b4 := hok.mc
      dsimp only at q0 q1 q2 b1 b2 b3 b4 hrd
      have HRD := hide (HX0.out.trans HXK.out |>.reads hrd (Nat.le_refl _))
      clear hrd hok
      by_cases hp : pp = ((a / 16 : Nat) : Int)
      · have HBR := hide (HYES.out hp)
        have hp' : ((a : Int) / 16 != pp) = false := by rw [bne_eq_false_iff_eq]; omega
        clear HYES HNO hp
        by_cases hi : a % 16 < pm
        · obtain ⟨bd, od, rfl, -, -⟩ := HRD.out.at1 (by omega)
          have q3 : wr.cell? ⟨bd, od + a % 16, none⟩ = some (.int .u8 ((pds.getD (a % 16) 0).toNat : Int)) := cells_of HRD.out (a % 16) hi
          have HV := hide (show byteOf ⟨pp, pr, some ⟨bd, od, none⟩, pm, pc, pds⟩ (a % 16) = ((pds.getD (a % 16) 0).toNat : Int) from if_pos hi)
          generalize ((pds.getD (a % 16) 0).toNat : Int) = v at q3 HV
          have hbx : Blk (wr.alloc (.cells #[.int .i64 pp, .int .i64 pr, .slice (some ⟨bd, od, none⟩) pm pc] 42)) wr.heap.size 42 #[.int .i64 pp, .int .i64 pr, .slice (some ⟨bd, od, none⟩) pm pc] := Blk.new _ _ _
          have hxx : Ext wr (wr.alloc (.cells #[.int .i64 pp, .int .i64 pr, .slice (some ⟨bd, od, none⟩) pm pc] 42)) := by ((repeat (first | with_reducible exact Ext.refl _ | with_reducible assumption | with_reducible refine Ext.alloc ?_ _ | with_reducible refine Ext.drew ?_ | with_reducible refine Ext.drewN ?_ _ | with_reducible refine Ext.setCell ?_ (by first | exact Nat.le_refl _ | assumption | (simp; done) | omega) _ | with_reducible refine Ext.trans ?_ (by with_reducible assumption))); done)
          go_upto_region 10 with fail
          generalize wr.alloc (.cells #[.int .i64 pp, .int .i64 pr, .slice (some ⟨bd, od, none⟩) pm pc] 42) = W at hbx hxx ⊢
          replace q3 := hxx.cell q3
          have p1 : W.cell? ⟨wr.heap.size, 1, none⟩ = some (.int .i64 pr) := hbx.cell 1
          have p2 : W.cell? ⟨wr.heap.size, 2, none⟩ = some (.slice (some ⟨bd, od, none⟩) pm pc) := hbx.cell 2
          clear q0 q1 q2
          go_quiet (fail)
          go_wp2_with fail
          go_ret3
          exact ⟨v, pr, 0, rfl, by rw [HV.out] at HBR; exact HBR.out, (HXK.out.trans hxx).drewN _⟩
        · have HV := hide (show byteOf ⟨pp, pr, pD, pm, pc, pds⟩ (a % 16) = 0 from if_neg hi)
          have hbx : Blk (wr.alloc (.cells #[.int .i64 pp, .int .i64 pr, .slice pD pm pc] 42)) wr.heap.size 42 #[.int .i64 pp, .int .i64 pr, .slice pD pm pc] := Blk.new _ _ _
          have hxx : Ext wr (wr.alloc (.cells #[.int .i64 pp, .int .i64 pr, .slice pD pm pc] 42)) := by ((repeat (first | with_reducible exact Ext.refl _ | with_reducible assumption | with_reducible refine Ext.alloc ?_ _ | with_reducible refine Ext.drew ?_ | with_reducible refine Ext.drewN ?_ _ | with_reducible refine Ext.setCell ?_ (by first | exact Nat.le_refl _ | assumption | (simp; done) | omega) _ | with_reducible refine Ext.trans ?_ (by with_reducible assumption))); done)
          go_upto_region 11 with fail
          generalize wr.alloc (.cells #[.int .i64 pp, .int .i64 pr, .slice pD pm pc] 42) = W at hbx hxx ⊢
          have p1 : W.cell? ⟨wr.heap.size, 1, none⟩ = some (.int .i64 pr) := hbx.cell 1
          clear q0 q1 q2
          go_quiet (fail)
          go_wp2_with fail
          go_ret3
          exact ⟨0, pr, 0, rfl, by rw [HV.out] at HBR; exact HBR.out, (HXK.out.trans hxx).drewN _⟩
      · have HBR := hide (HNO.out hp)
        have hp' : ((a : Int) / 16 != pp) = true := by rw [bne_iff_ne]; omega
        have hxx : Ext wr (wr.alloc (.cells #[.int .i64 pp, .int .i64 pr, .slice pD pm pc] 42)) := by ((repeat (first | with_reducible exact Ext.refl _ | with_reducible assumption | with_reducible refine Ext.alloc ?_ _ | with_reducible refine Ext.drew ?_ | with_reducible refine Ext.drewN ?_ _ | with_reducible refine Ext.setCell ?_ (by first | exact Nat.le_refl _ | assumption | (simp; done) | omega) _ | with_reducible refine Ext.trans ?_ (by with_reducible assumption))); done)
        clear HYES HNO hp
        go_wp2_with fail
        go_roundw
        case rel => exact ⟨k + 1, by omega, by go_num, HBR.out, HXK.out.trans hxx⟩
        case measure => simp [intOf]; omega
    · obtain rfl : k = n := by omega
      go_wp2_with fail
      go_ret3
      exact ⟨0, 0, 11, rfl, .inr ⟨fun i hi => HNE.out i hi (by rw [← HL.out]; exact hi), rfl, rfl, rfl⟩, HXK.out⟩
end Go.Proofs.Ytmcgkdifieohlaa
