/- The contract of trace.Decode. -/
import Derived.Test.YtcgcimnmngpoeaaTraceCode
import Derived.IntWalk
namespace Go.Proofs.Ytcgcimnmngpoeaa
open Go.RowKit
set_option linter.unusedVariables false

/-- The loop of Decode. -/
def DecRel (bs : List UInt8) (w : World) (n : Nat) (out i : Value) (wr : World) : Prop :=
  ∃ (k m : Nat) (A : Option Addr) (c : Nat), Hid (m = 3 * k) ∧ m ≤ n ∧ i = .int .i64 m ∧ out = .slice A k c ∧ wr.ownsRow w.heap.size 34 4 (.slice A k c) k (recsV (recsAt bs k)) ∧ Ext w wr ∧ ∀ j, j < k → (recAt bs (3 * j)).Ok
/-- What Decode leaves. -/
def DecPost (bs : List UInt8) (n : Nat) (w : World) (e : Ending) (w' : World) : Prop :=
  ((∃ er : Int, er ≠ 0 ∧ e = .returned (.tuple #[.slice none 0 0, .int .i64 er])) ∧ (n % 3 = 0 → ∃ j, j < n / 3 ∧ ¬ (recAt bs (3 * j)).Ok) ∧ Ext w w') ∨
  (n % 3 = 0 ∧ (∀ j, j < n / 3 → (recAt bs (3 * j)).Ok) ∧ ∃ A c, e = .returned (.tuple #[.slice A (n / 3) c, .int .i64 0]) ∧ w'.ownsRow w.heap.size 34 4 (.slice A (n / 3) c) (n / 3) (recsV (recsAt bs (n / 3))) ∧ Ext w w')

theorem dec_vals (x0 x1 x2 : Nat) (b0 : x0 < 256) (b1 : x1 < 256) (b2 : x2 < 256) : #[Value.int .i64 (IntKind.i64.wrap ((x0 : Int) / 4)), Value.int .i64 (IntKind.i64.wrap (bits .and .u8 (x0 : Int) 3)), Value.int .i64 (IntKind.i64.wrap (x1 : Int)), Value.int .i64 (IntKind.i64.wrap (x2 : Int))] = #[.int .i64 (x0 / 4 : Nat), .int .i64 (x0 % 4 : Nat), .int .i64 (x1 : Nat), .int .i64 (x2 : Nat)] := by
  have hm : bits .and .u8 (x0 : Int) 3 = (x0 : Int) % 4 := bits_mask .u8 8 (by decide) wraps_u8 2 (by decide) x0 (by omega) (by omega)
  rw [hm]
  simp only [IntKind.wrap_i64, Array.mk.injEq, List.cons.injEq, Value.int.injEq, true_and, and_true]
  omega
theorem ok_nat {bs : List UInt8} {i a b c d : Nat} (h : recAt bs i = ⟨a, b, c, d⟩) : (recAt bs i).Ok ↔ (1 ≤ (a : Int) ∧ (a : Int) ≤ 9 ∧ 0 ≤ (b : Int) ∧ (b : Int) ≤ 3 ∧ 1 ≤ (c : Int) ∧ (c : Int) ≤ 16 ∧ 0 ≤ (d : Int) ∧ (d : Int) ≤ 63) := by
  rw [h]
  exact ⟨fun ⟨a, b, c, d, e, f, g, h⟩ => ⟨a, b, c, d, e, f, g, h⟩, fun ⟨a, b, c, d, e, f, g, h⟩ => ⟨a, b, c, d, e, f, g, h⟩⟩

set_option maxHeartbeats 2000000 in
set_option maxRecDepth 100000 in
theorem decode_any (bs : List UInt8) (A : Option Addr) (n c B : Nat) (w : World) (hr : Reads w B 1 A n (bytesV bs)) (hB : B ≤ w.heap.size) (hn : bs.length = n) (h1200 : n ≤ 1200) (hc : n ≤ c) :
    Calls Try.prog 7 #[.slice A n c] w (DecPost bs n w) := by
  obtain ⟨i0, hi0, hz0, hz1, hz2⟩ := info_parts rec_info
  have HR := hide hr
  have HN := hide hn
  clear hr hn
  by_cases h3 : n % 3 = 0
  rotate_left
  · have t3 : (((n : Int) % 3) != 0) = true := by rw [bne_iff_ne]; omega
    go_enter Try.func7, Try.ntmps7
    go_wp2
    go_ret2
    exact .inl ⟨⟨21, by decide, rfl⟩, fun h => absurd h h3, Ext.refl _⟩
  · have t3 : (((n : Int) % 3) != 0) = false := by rw [bne_eq_false_iff_eq]; omega
    have H3 := hide h3
    clear h3
    go_enter Try.func7, Try.ntmps7
    go_wp2
    go_loopw [4, 5] (DecRel bs w n) (fun _ i _ => n - (intOf i).toNat)
    case atStart => exact ⟨0, 0, none, 0, rfl, Nat.zero_le _, rfl, rfl, World.ownsRow_nil _ _ _ _, Ext.refl _, fun j hj => absurd hj (by omega)⟩
    case round =>
      obtain ⟨k, m, A1, c1, hmk, hm, rfl, rfl, ho, hx, hok⟩ := hrel
      have HOK := hide hok
      clear hok
      have HRk := hide (hx.reads HR.out hB)
      by_cases hlt : m < n
      · have hm3 : m + 3 ≤ n := by have := H3.out; have := hmk.out; omega
        obtain ⟨b, off, rfl, hb, hcell⟩ := HRk.out.at1 (by omega)
        clear hcell
        have q0 := cells_of HRk.out m (by omega)
        have q1 := cells_of HRk.out (m + 1) (by omega)
        have q2 := cells_of HRk.out (m + 2) (by omega)
        have b0 : (bs.getD m 0).toNat < 256 := (bs.getD m 0).toNat_lt
        have b1 : (bs.getD (m + 1) 0).toNat < 256 := (bs.getD (m + 1) 0).toNat_lt
        have b2 : (bs.getD (m + 2) 0).toNat < 256 := (bs.getD (m + 2) 0).toNat_lt
        have HRA := hide (show recAt bs (3 * k) = ⟨((bs.getD m 0).toNat / 4 : Nat), ((bs.getD m 0).toNat % 4 : Nat), ((bs.getD (m + 1) 0).toNat : Nat), ((bs.getD (m + 2) 0).toNat : Nat)⟩ by rw [hmk.out]; rfl)
        generalize (bs.getD m 0).toNat = x0 at *
        generalize (bs.getD (m + 1) 0).toNat = x1 at *
        generalize (bs.getD (m + 2) 0).toNat = x2 at *
        go_upto_region 9 with fail
        have l0 : (0 : Int) ≤ (m : Int) := by omega
        have l1 : (m : Int) < (n : Int) := by omega
        have l2 : (m : Int) + 1 < (n : Int) := by omega
        have l3 : (m : Int) + 2 < (n : Int) := by omega
        have l4 : (0 : Int) ≤ (m : Int) + 1 := by omega
        have l5 : (0 : Int) ≤ (m : Int) + 2 := by omega
        have v1 : IntKind.i64.wrap ((m : Int) + 1) = (m : Int) + 1 := by rw [IntKind.wrap_i64]; omega
        have v2 : IntKind.i64.wrap ((m : Int) + 2) = (m : Int) + 2 := by rw [IntKind.wrap_i64]; omega
        have n1 : ((m : Int) + 1).toNat = m + 1 := by omega
        have n2 : ((m : Int) + 2).toNat = m + 2 := by omega
        go_cut [6] (fun s6 wx => ∃ g : Nat, s6 = .pointer (some ⟨g, 0, none⟩) ∧ Blk wx g 34 #[.int .i64 (x0 / 4 : Nat), .int .i64 (x0 % 4 : Nat), .int .i64 (x1 : Nat), .int .i64 (x2 : Nat)] ∧ Ext wr wx)
        case first =>
          go_region_held3 (fun w' => w'.cell? ⟨b, off + m, none⟩ = some (.int .u8 (x0 : Int)) ∧ w'.cell? ⟨b, off + (m + 1), none⟩ = some (.int .u8 (x1 : Int)) ∧ w'.cell? ⟨b, off + (m + 2), none⟩ = some (.int .u8 (x2 : Int)))
            (first | (refine ⟨?_, ?_, ?_⟩ <;> (refine Ext.cell (w := wr) ?_ (by assumption); ((repeat (first | with_reducible exact Ext.refl _ | with_reducible assumption | with_reducible refine Ext.alloc ?_ _ | with_reducible refine Ext.drew ?_ | with_reducible refine Ext.drewN ?_ _ | with_reducible refine Ext.setCell ?_ (by first | exact Nat.le_refl _ | assumption | (simp; done) | omega) _ | with_reducible refine Ext.trans ?_ (by with_reducible assumption))); done))) | fail)
            (first | fail)
          all_goals (go_wp2_with fail; go_meet)
          all_goals (rw [dec_vals x0 x1 x2 b0 b1 b2]; exact ⟨wr.heap.size, rfl, by ((repeat (first | (with_reducible refine Blk.new' _ _ _ ?_; first | rfl | simp) | with_reducible assumption | with_reducible refine Blk.alloc ?_ _ | with_reducible refine Blk.drew ?_ | with_reducible refine Blk.drewN ?_ _ | with_reducible refine Blk.ext ?_ (by with_reducible assumption))); done), by ((repeat (first | with_reducible exact Ext.refl _ | with_reducible assumption | with_reducible refine Ext.alloc ?_ _ | with_reducible refine Ext.drew ?_ | with_reducible refine Ext.drewN ?_ _ | with_reducible refine Ext.setCell ?_ (by first | exact Nat.le_refl _ | assumption | (simp; done) | omega) _ | with_reducible refine Ext.trans ?_ (by with_reducible assumption))); done)⟩)
        case rest =>
          obtain ⟨g, rfl, hb6, hx6⟩ := hcut
          clear v1 v2 n1 n2 q0 q1 q2
          have p0 : wc.cell? ⟨g, 0, none⟩ = some (.int .i64 (x0 / 4 : Nat)) := hb6.cell 0
          have p1 : wc.cell? ⟨g, 1, none⟩ = some (.int .i64 (x0 % 4 : Nat)) := hb6.cell 1
          have p2 : wc.cell? ⟨g, 2, none⟩ = some (.int .i64 (x1 : Nat)) := hb6.cell 2
          have p3 : wc.cell? ⟨g, 3, none⟩ = some (.int .i64 (x2 : Nat)) := hb6.cell 3
          have HOKK := hide (ok_nat HRA.out)
          generalize x0 / 4 = y0 at *
          generalize x0 % 4 = y1 at *
          by_cases hgood : (1 ≤ (y0 : Int) ∧ (y0 : Int) ≤ 9 ∧ 0 ≤ (y1 : Int) ∧ (y1 : Int) ≤ 3 ∧ 1 ≤ (x1 : Int) ∧ (x1 : Int) ≤ 16 ∧ 0 ≤ (x2 : Int) ∧ (x2 : Int) ≤ 63)
          · have HG := hide (HOKK.out.2 hgood)
            obtain ⟨o1, o2, o3, o4, o5, o6, o7, o8⟩ := hgood
            go_wp2_with fail
            refine (check_ok _ _ _ _ _ o1 o2 o3 o4 o5 o6 o7 o8).mono ?_
            rintro e w' ⟨rfl, rfl⟩
            obtain ⟨W2, hW2⟩ : ∃ W2, W2 = wc.alloc (recBox (y0 : Int) (y1 : Int) (x1 : Int) (x2 : Int)) := ⟨_, rfl⟩
            rw [← hW2]
            have hx2 : Ext wc W2 := by rw [hW2]; ((repeat (first | with_reducible exact Ext.refl _ | with_reducible assumption | with_reducible refine Ext.alloc ?_ _ | with_reducible refine Ext.drew ?_ | with_reducible refine Ext.drewN ?_ _ | with_reducible refine Ext.setCell ?_ (by first | exact Nat.le_refl _ | assumption | (simp; done) | omega) _ | with_reducible refine Ext.trans ?_ (by with_reducible assumption))); done)
            clear hW2
            replace p0 := hx2.cell p0
            replace p1 := hx2.cell p1
            replace p2 := hx2.cell p2
            replace p3 := hx2.cell p3
            have HXW := hide (hx.trans (hx6.trans hx2))
            have ho2 := (hx6.trans hx2).own ho
            have ho3 := ((Ext.refl W2).alloc (recBox (y0 : Int) (y1 : Int) (x1 : Int) (x2 : Int))).own ho2
            have hbn : Blk (W2.alloc (recBox (y0 : Int) (y1 : Int) (x1 : Int) (x2 : Int))) W2.heap.size 34 #[.int .i64 (y0 : Int), .int .i64 (y1 : Int), .int .i64 (x1 : Int), .int .i64 (x2 : Int)] := Blk.new _ _ _
            have hk3 : k ≤ 400 := by have := hmk.out; omega
            go_wp2_with (at_builtin; refine wpList_append_any _ rfl (.tmp 53) (.tmp 55) _ rfl w.heap.size 34 i0 _ 4 32 Try.underlying23 hi0 hz0 hz1 hz2 rfl (by omega) _ k _ rfl ho3 _ _ 1 1 _ rfl hbn.reads4 (by simp [Value.oneCell']) (by simp only [maxLen]; omega) (by omega) (by simp; have := HXW.out.size; omega) ?_; intro A4 c4 w4 ho4 hg4 ha4)
            have hx4 : Ext w w4 := ((HXW.out.alloc _).grown hg4 (fun k hk => (ho.lt k hk).1))
            have ho5 : w4.ownsRow w.heap.size 34 4 (.slice A4 (k + 1) c4) (k + 1) (recsV (recsAt bs (k + 1))) := by
              rw [recsAt_succ, recsV_append, HRA.out]
              exact ho4
            have HOK2 : Hid (∀ j, j < k + 1 → (recAt bs (3 * j)).Ok) := fun j hj => by
              by_cases e : j < k
              · exact HOK.out j e
              · obtain rfl : j = k := by omega
                exact HG.out
            clear ho4 ho3 hbn ho2 ha4 hg4 p0 p1 p2 p3
            go_roundw
            case rel => exact ⟨k + 1, m + 3, A4, c4, by have := hmk.out; show m + 3 = 3 * (k + 1); omega, by omega, by go_num, rfl, ho5, hx4, HOK2.out⟩
            case measure => simp [intOf]; omega
          · have HG := hide (fun h => hgood (HOKK.out.1 h))
            go_wp2_with fail
            refine (check_bad _ _ _ _ _ hgood).mono ?_
            clear hgood
            rintro e w' ⟨er, hne, rfl, rfl⟩
            have tne : ((er : Int) != 0) = true := by rw [bne_iff_ne]; exact hne
            have HNE := hide hne
            clear hne
            have HXW := hide ((hx.trans hx6).alloc (recBox (y0 : Int) (y1 : Int) (x1 : Int) (x2 : Int)))
            go_wp2
            go_ret2
            exact .inl ⟨⟨er, HNE.out, rfl⟩, fun _ => ⟨k, by have := hmk.out; omega, HG.out⟩, HXW.out⟩
      · go_wp2
        go_ret2
        obtain rfl : m = n := by omega
        have e := hmk.out
        have e2 : m / 3 = k := by omega
        refine .inr ⟨H3.out, ?_, ?_⟩
        · rw [e2]; exact HOK.out
        · rw [e2]; exact ⟨A1, c1, rfl, ho, hx⟩
end Go.Proofs.Ytcgcimnmngpoeaa
