/- The walk of LoadBytes. -/
import Derived.Test.YtmcgkdifieohlaaLoadByte
namespace Go.Proofs.Ytmcgkdifieohlaa
open Go.RowKit
set_option linter.unusedVariables false

theorem ByteRes.at {ps : List PgD} {a : Nat} {b r e : Int} (h : ByteRes ps a b r e) {k : Nat} (hk : k < ps.length) (hp : ps[k].page = ((a / 16 : Nat) : Int)) (hn : None1 ps a k) : b = byteOf ps[k] (a % 16) ∧ r = ps[k].rights ∧ e = 0 := by
  rcases h with ⟨j, hj, h1, h2, h3, h4, h5⟩ | ⟨h1, _⟩
  · have : j = k := by
      by_cases h : j < k
      · exact absurd h1 (hn j hj h)
      · by_cases h' : k < j
        · exact absurd hp (h2 k hk h')
        · omega
    subst this
    exact ⟨h3, h4, h5⟩
  · exact absurd hp (h1 k hk)
theorem ByteRes.out {ps : List PgD} {a : Nat} {b r e : Int} (h : ByteRes ps a b r e) (hn : None1 ps a ps.length) : b = 0 ∧ r = 0 ∧ e = 11 := by
  rcases h with ⟨j, hj, h1, _⟩ | ⟨_, h1⟩
  · exact absurd h1 (hn j hj hj)
  · exact h1
def BytesRel (w : World) (ps : List PgD) (n a : Nat) (i : Value) (wr : World) : Prop := ∃ k : Nat, k ≤ n ∧ i = .int .i64 k ∧ None1 ps a k ∧ Ext w wr

set_option maxHeartbeats 4000000 in
set_option maxRecDepth 100000 in
theorem bytes_walk (A : Option Addr) (n c : Nat) (zs : List Int) (A' : Option Addr) (n' c' : Nat) (z y : Int) (w : World) (hr : Reads w w.heap.size 1 A n (intsV zs)) (hz : ∀ x ∈ zs, -9223372036854775808 ≤ x ∧ x ≤ 9223372036854775807)
    (hn : n ≤ c) (hc : c ≤ maxLen) (hd : RowsAt w A' n') (hn' : n' ≤ c') (hc' : c' ≤ maxLen) (z1 : -9223372036854775808 ≤ z) (z2 : z ≤ 9223372036854775807) (y1 : -9223372036854775808 ≤ y) (y2 : y ≤ 9223372036854775807) :
    Calls Try.prog 4 #[.agg #[.slice A n c, .slice A' n' c', .int .i64 z], .int .i64 y] w fun e w' => e = .returned (.bool true) ∧ Ext w w' := by
  have HIM := hide (fun (w' : World) (hx : Ext w w') (h1 : Reads w' w'.heap.size 1 A n (intsV zs)) (h2 : RowsAt w' A' n') => image_any A n c zs A' n' c' z w' h1 hz hn hc h2 hn' hc' z1 z2)
  have HR := hide hr
  have HD := hide hd
  clear hr hd hz
  go_enter Try.func4, Try.ntmps4
  go_wp2_with fail
  have hx1 : Ext w (w.alloc (.cells #[.slice A n c, .slice A' n' c', .int .i64 z] 33)) := by ((repeat (first | with_reducible exact Ext.refl _ | with_reducible assumption | with_reducible refine Ext.alloc ?_ _ | with_reducible refine Ext.drew ?_ | with_reducible refine Ext.drewN ?_ _ | with_reducible refine Ext.setCell ?_ (by first | exact Nat.le_refl _ | assumption | (simp; done) | omega) _ | with_reducible refine Ext.trans ?_ (by with_reducible assumption))); done)
  refine (HIM.out _ hx1 ((hx1.reads HR.out (Nat.le_refl _)).more hx1.size) (HD.out.keep hx1)).mono ?_
  rintro e w2 ⟨ps, m, Ap, cp, en, rfl, hlen, ho2, him, hx2⟩
  have hm14 : m ≤ 14 := by have := him.few; omega
  have HO := hide ho2
  have HI := hide him
  have HL := hide hlen
  have HX2 := hide hx2
  have HX := hide (hx1.trans hx2)
  clear ho2 him hlen hx1 hx2 HIM HR HD
  go_wp2_with fail
  refine (rest_any y 1024 _ y1 y2 (by omega) (by omega)).mono ?_
  rintro e w3 ⟨rfl, rfl⟩
  obtain ⟨a, ha, ha2⟩ : ∃ k : Nat, restZ y 1024 = (k : Int) ∧ k < 1024 := rest_nat y 1024 (by omega)
  rw [ha]
  clear ha y1 y2
  have hx3 : Ext w2 (w2.alloc (.cells #[.int .u32 en, .slice Ap m cp] 36)) := by ((repeat (first | with_reducible exact Ext.refl _ | with_reducible assumption | with_reducible refine Ext.alloc ?_ _ | with_reducible refine Ext.drew ?_ | with_reducible refine Ext.drewN ?_ _ | with_reducible refine Ext.setCell ?_ (by first | exact Nat.le_refl _ | assumption | (simp; done) | omega) _ | with_reducible refine Ext.trans ?_ (by with_reducible assumption))); done)
  have hb3 : Blk (w2.alloc (.cells #[.int .u32 en, .slice Ap m cp] 36)) w2.heap.size 36 #[.int .u32 en, .slice Ap m cp] := Blk.new _ _ _
  generalize w2.alloc (.cells #[.int .u32 en, .slice Ap m cp] 36) = w3 at hx3 hb3 ⊢
  have p0 : w3.cell? ⟨w2.heap.size, 0, none⟩ = some (.int .u32 en) := hb3.cell 0
  have p1 : w3.cell? ⟨w2.heap.size, 1, none⟩ = some (.slice Ap m cp) := hb3.cell 1
  go_wp2_with fail
  refine (byte_ok _ ps Ap m cp _ en a w3 (hx3.reads (Reads.of_own HO.out) (Nat.le_refl _)) hx3.size HI.out (HX2.out.trans hx3) (by simp only [maxLen]; omega) ha2).mono ?_
  rintro e w4 ⟨b, r, er, rfl, hres, hx4⟩
  have HRES := hide hres
  have q1 : w4.cell? ⟨w2.heap.size, 1, none⟩ = some (.slice Ap m cp) := hx4.cell p1
  have HX4 := hide (hx3.trans hx4)
  clear hres hx4 hx3 hb3 p0 p1
  go_wp2_with fail
  go_loopw [28] (BytesRel w2 ps m a) (fun i _ => m - (intOf i).toNat)
  case atStart => exact ⟨0, Nat.zero_le _, rfl, fun i _ h => absurd h (by omega), HX4.out⟩
  case round =>
    obtain ⟨k, hk, rfl, hne, hx⟩ := hrel
    have HNE := hide hne
    have HXK := hide hx
    clear hne hx HX4 q1
    by_cases hlt : k < m
    · obtain ⟨b0, off, rfl, hbB⟩ := (Reads.of_own HO.out).addr (by omega) (by omega)
      have hkl : k < ps.length := by rw [HL.out]; exact hlt
      obtain ⟨q0, q1, q2⟩ := pg_cells (HXK.out.reads (Reads.of_own HO.out) (Nat.le_refl _)) k hkl (by omega)
      have hok := HI.out.ok ps[k] (List.getElem_mem hkl)
      have HYES := hide (show ps[k].page = ((a / 16 : Nat) : Int) → b = byteOf ps[k] (a % 16) ∧ r = ps[k].rights ∧ er = 0 from fun h => HRES.out.at hkl h HNE.out)
      have HNO := hide (show ps[k].page ≠ ((a / 16 : Nat) : Int) → None1 ps a (k + 1) from fun h i hi hik => by
        by_cases e : i = k
        · subst e; exact h
        · exact HNE.out i hi (by omega))
      generalize ps[k] = p at *
      obtain ⟨pp, pr, pD, pm, pc, pds⟩ := p
      have b1 := hok.m16
      have hrd := hok.reads
      have b2 := hok.p0
      have b3 := hok.p1
      have b4 := hok.mc
      dsimp only at q0 q1 q2 b1 b2 b3 b4 hrd
      have HRD := hide ((HX2.out.trans HXK.out).reads hrd (Nat.le_refl _))
      clear hrd hok HRES
      by_cases hp : pp = ((a / 16 : Nat) : Int)
      · obtain ⟨hbv, hrr, rfl⟩ := HYES.out hp
        obtain rfl : pr = r := hrr.symm
        have hp' : (pp != (a : Int) / 16) = false := by rw [bne_eq_false_iff_eq]; omega
        clear HYES HNO hp
        have hxx : Ext wr (wr.alloc (.cells #[.int .i64 pp, .int .i64 pr, .slice pD pm pc] 42)) := by ((repeat (first | with_reducible exact Ext.refl _ | with_reducible assumption | with_reducible refine Ext.alloc ?_ _ | with_reducible refine Ext.drew ?_ | with_reducible refine Ext.drewN ?_ _ | with_reducible refine Ext.setCell ?_ (by first | exact Nat.le_refl _ | assumption | (simp; done) | omega) _ | with_reducible refine Ext.trans ?_ (by with_reducible assumption))); done)
        by_cases hi : a % 16 < pm
        · obtain ⟨bd, od, rfl, -, -⟩ := HRD.out.at1 (by omega)
          have q3 : wr.cell? ⟨bd, od + a % 16, none⟩ = some (.int .u8 ((pds.getD (a % 16) 0).toNat : Int)) := cells_of HRD.out (a % 16) hi
          have hlt3 : bd < wr.heap.size := World.block_lt_of_cell? _ _ q3
          have hal := alloc_old wr
          have HV : byteOf ⟨pp, pr, some ⟨bd, od, none⟩, pm, pc, pds⟩ (a % 16) = ((pds.getD (a % 16) 0).toNat : Int) := if_pos hi
          rw [HV] at hbv
          clear HV
          subst hbv
          generalize ((pds.getD (a % 16) 0).toNat : Int) = v at q3 ⊢
          have t1 : (v == v) = true := by simp
          have t2 : (pr == pr) = true := by simp
          go_wp2_with fail
          go_ret
          exact ⟨rfl, HX.out.trans (HXK.out.trans hxx)⟩
        · have HV : byteOf ⟨pp, pr, pD, pm, pc, pds⟩ (a % 16) = 0 := if_neg hi
          rw [HV] at hbv
          clear HV
          subst hbv
          have t2 : (pr == pr) = true := by simp
          go_wp2_with fail
          go_ret
          exact ⟨rfl, HX.out.trans (HXK.out.trans hxx)⟩
      · have HBR := hide (HNO.out hp)
        have hp' : (pp != (a : Int) / 16) = true := by rw [bne_iff_ne]; omega
        have hxx : Ext wr (wr.alloc (.cells #[.int .i64 pp, .int .i64 pr, .slice pD pm pc] 42)) := by ((repeat (first | with_reducible exact Ext.refl _ | with_reducible assumption | with_reducible refine Ext.alloc ?_ _ | with_reducible refine Ext.drew ?_ | with_reducible refine Ext.drewN ?_ _ | with_reducible refine Ext.setCell ?_ (by first | exact Nat.le_refl _ | assumption | (simp; done) | omega) _ | with_reducible refine Ext.trans ?_ (by with_reducible assumption))); done)
        clear HYES HNO hp
        go_wp2_with fail
        go_roundw
        case rel => exact ⟨k + 1, by omega, by go_num, HBR.out, HXK.out.trans hxx⟩
        case measure => simp [intOf]; omega
    · obtain rfl : k = m := by omega
      obtain ⟨rfl, rfl, rfl⟩ := HRES.out.out (by rw [HL.out]; exact HNE.out)
      go_wp2_with fail
      go_ret
      exact ⟨rfl, HX.out.trans HXK.out⟩
end Go.Proofs.Ytmcgkdifieohlaa
