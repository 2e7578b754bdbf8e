/- The walk of TraceRing. -/
import Derived.Test.YtngdhpjbfcgloaaRing
import Derived.Test.YtngdhpjbfcgloaaRingIdx
import Derived.Test.YtngdhpjbfcgloaaRest
import Derived.Deep.RegionHeld3
namespace Go.Proofs.Ytngdhpjbfcgloaa
open Go.RowKit
set_option linter.unusedVariables false

theorem edge_info : (Try.prog.info? 24).map (fun i => (i.zero, i.size, i.bytes)) = some (some (.agg #[.int .i64 0, .int .i64 0]), 2, 16) := by kernel_rfl
def I64 (n : Int) : Prop := -9223372036854775808 ≤ n ∧ n ≤ 9223372036854775807
def restN (n k : Int) : Nat := (restZ n k).toNat
theorem restN_lt (n k : Int) (hk : 0 < k) : (restN n k : Int) < k := by
  have h1 := restZ_lo n k (by omega)
  have h2 := restZ_hi n k (by omega)
  unfold restN
  omega
theorem rest_nat' (n k : Int) (w : World) (hn : -9223372036854775808 ≤ n) (hn' : n ≤ 9223372036854775807) (hk : 0 < k) (hk' : k ≤ 9223372036854775807) :
    Calls Try.prog 5 #[.int .i64 n, .int .i64 k] w fun e w' => e = .returned (.int .i64 (restN n k : Nat)) ∧ w = w' :=
  (rest_any n k w hn hn' hk hk').mono fun e w' ⟨he, hw⟩ => ⟨by rw [he]; exact ret_int (by have := restZ_lo n k hk; unfold restN; omega), hw⟩

abbrev EdgeI := Int × Int
def edgeIC (e : EdgeI) : List Value := [.int .i64 e.1, .int .i64 e.2]
def edgesIV (l : List EdgeI) : List Value := l.flatMap edgeIC
theorem edgeIC_len (e : EdgeI) : (edgeIC e).length = 2 := rfl
theorem edgeI_cells {w : World} {B n b off : Nat} {l : List EdgeI} (h : Reads w B 2 (some ⟨b, off, none⟩) n (edgesIV l)) (i : Nat) (hi : i < n) (hl : i < l.length) :
    w.cell? ⟨b, off + i * 2, none⟩ = some (.int .i64 l[i].1) ∧ w.cell? ⟨b, off + i * 2 + 1, none⟩ = some (.int .i64 l[i].2) :=
  ⟨Reads.elem edgeIC_len h i hl (by omega) 0 (by omega) rfl, Reads.elem edgeIC_len h i hl (by omega) 1 (by omega) rfl⟩
def nrmE (e : EdgeI) : EdgeD := (restN e.1 12, restN e.2 12)
section
variable {α β : Type}
/-- The first N of a list, turned. -/
def firsts (f : α → β) (N : Nat) (l : List α) : List β := (l.take N).map f
theorem firsts_lt (f : α → β) (N : Nat) (l : List α) (k : Nat) (hk : k < l.length) (h : k < N) : firsts f N (l.take (k + 1)) = firsts f N (l.take k) ++ [f l[k]] := by
  simp only [firsts, List.take_take]
  rw [Nat.min_eq_right (show k + 1 ≤ N by omega), Nat.min_eq_right (show k ≤ N by omega), List.take_succ_eq_append_getElem hk, List.map_append]
  rfl
theorem firsts_ge (f : α → β) (N : Nat) (l : List α) (k : Nat) (h : N ≤ k) : firsts f N (l.take (k + 1)) = firsts f N (l.take k) := by
  simp only [firsts, List.take_take]
  rw [Nat.min_eq_left (by omega), Nat.min_eq_left (by omega)]
theorem firsts_le (f : α → β) (N : Nat) (l : List α) : (firsts f N l).length ≤ N := by simp [firsts]; omega
theorem mem_firsts (f : α → β) (N : Nat) (l : List α) {y : β} (h : y ∈ firsts f N l) : ∃ x, y = f x := by
  obtain ⟨x, _, rfl⟩ := List.mem_map.1 h
  exact ⟨x, rfl⟩
end
def ERel (l : List EdgeI) (w : World) (n : Nat) (out i : Value) (wr : World) : Prop :=
  ∃ (k m : Nat) (A : Option Addr) (c : Nat), k ≤ n ∧ i = .int .i64 k ∧ out = .slice A m c ∧ m ≤ 40 ∧ wr.ownsRow w.heap.size 24 2 (.slice A m c) m (edgesV (firsts nrmE 40 (l.take k))) ∧ Ext w wr
abbrev edgeBox (a b : Int) : Obj := .cells #[.int .i64 a, .int .i64 b] 24
theorem take_reads {w : World} {B n : Nat} {A : Option Addr} {xs : List Nat} (h : Reads w B 1 A n (natsV xs)) (k : Nat) (hk : k ≤ n) : Reads w B 1 A k (natsV (xs.take k)) := by
  have hl := h.1
  rw [natsV_length] at hl
  refine ⟨by rw [natsV_length, List.length_take]; omega, fun hp => ?_⟩
  obtain ⟨ad, e, h1, h2⟩ := h.2 (by omega)
  refine ⟨ad, e, h1, fun j u hu => h2 j u ?_⟩
  rw [← natsV_take, List.getElem?_take] at hu
  split at hu
  · exact hu
  · cases hu
def RRel (w : World) (n : Nat) (i : Value) (wr : World) : Prop := ∃ k : Nat, k ≤ n ∧ i = .int .i64 k ∧ Ext w wr
theorem Blk.rowsF {w : World} {g : Nat} {t : TypeId} {cs : Array Value} (h : Blk w g t cs) (n size : Nat) (hs : cs.size = n * size) : Reads w w.heap.size size (some ⟨g, 0, none⟩) n cs.toList := by
  refine ⟨by simpa using hs, fun _ => ⟨_, rfl, h.lt, fun j u hu => ?_⟩⟩
  rw [add_lit, Nat.zero_add, h.cell]
  simpa using hu
theorem two_edges (w : World) : Ext w (w.alloc (.cells #[.int .i64 1, .int .i64 2, .int .i64 2, .int .i64 1] 24)) ∧ Reads (w.alloc (.cells #[.int .i64 1, .int .i64 2, .int .i64 2, .int .i64 1] 24)) (w.alloc (.cells #[.int .i64 1, .int .i64 2, .int .i64 2, .int .i64 1] 24)).heap.size 2 (some ⟨w.heap.size, 0, none⟩) 2 (edgesV [(1, 2), (2, 1)]) :=
  ⟨(Ext.refl w).alloc _, Blk.rowsF (Blk.new w 24 #[.int .i64 1, .int .i64 2, .int .i64 2, .int .i64 1]) 2 2 rfl⟩
set_option maxHeartbeats 8000000 in
set_option maxRecDepth 100000 in
theorem tracering_walk (l : List EdgeI) (fits : ∀ e ∈ l, I64 e.1 ∧ I64 e.2) (A : Option Addr) (n c : Nat) (w : World)
    (hr : Reads w w.heap.size 2 A n (edgesIV l)) (hnc : n ≤ c) (hc : c ≤ maxLen) :
    Calls Try.prog 3 #[.slice A n c] w fun e w' => e = .returned (.bool true) ∧ Ext w w' := by
  obtain ⟨j0, hj0, hy0, hy1, hy2⟩ := info_parts edge_info
  unfold maxLen at hc
  have HN := hide (show l.length = n from flat_len edgeIC_len (by omega) hr)
  have HR := hide hr
  have HF := hide fits
  clear hr fits
  go_enter Try.func3, Try.ntmps3
  go_wp2_with fail
  go_loopw [3, 15] (ERel l w n) (fun _ i _ => n - (intOf i).toNat)
  case atStart => exact ⟨0, 0, none, 0, Nat.zero_le _, rfl, rfl, Nat.zero_le _, World.ownsRow_nil _ _ _ _, Ext.refl _⟩
  case round =>
    obtain ⟨k, m, A1, c1, hk, rfl, rfl, hm, ho, hx⟩ := hrel
    have HO := hide ho
    have HX := hide hx
    clear ho hx
    by_cases hlt : k < n
    · obtain ⟨b, off, rfl, hb⟩ := HR.out.addr (by omega) (by omega)
      have hkl : k < l.length := by rw [HN.out]; exact hlt
      obtain ⟨q0, q1⟩ := edgeI_cells (HX.out.reads HR.out (Nat.le_refl _)) k hlt hkl
      obtain ⟨f1, f2⟩ := HF.out l[k] (List.getElem_mem hkl)
      have HT := hide (firsts_lt nrmE 40 l k hkl)
      have HTL := hide (show k < 40 → (firsts nrmE 40 (l.take k)).length = m ∧ m = k from fun h40 => by
        have h1 := HO.out.1
        have h2 : (firsts nrmE 40 (l.take k)).length = k := by simp [firsts]; omega
        have h3 := flat_length edgeC_len (firsts nrmE 40 (l.take k))
        unfold edgesV at h1
        omega)
      generalize l[k] = ed at *
      obtain ⟨e1, e2⟩ := ed
      dsimp only at q0 q1 f1 f2
      have F1 := hide f1
      have F2 := hide f2
      clear f1 f2
      by_cases h40 : k < 40
      · have hmk := (HTL.out h40).2
        have hm39 : m < 40 := by omega
        clear hmk
        go_upto_region 6 with fail
        obtain ⟨W, hW⟩ : ∃ W, W = wr.alloc (edgeBox e1 e2) := ⟨_, rfl⟩
        rw [← hW]
        have hxW : Ext wr W := by rw [hW]; ((repeat (first | with_reducible exact Ext.refl _ | with_reducible assumption | with_reducible refine Ext.alloc ?_ _ | with_reducible refine Ext.drew ?_ | with_reducible refine Ext.drewN ?_ _ | with_reducible refine Ext.setCell ?_ (by first | exact Nat.le_refl _ | assumption | (simp; done) | omega) _ | with_reducible refine Ext.trans ?_ (by with_reducible assumption))); done)
        have hbW : Blk W wr.heap.size 24 #[.int .i64 e1, .int .i64 e2] := by rw [hW]; exact Blk.new _ _ _
        clear hW
        have p0 : W.cell? ⟨wr.heap.size, 0, none⟩ = some (.int .i64 e1) := hbW.cell 0
        have p1 : W.cell? ⟨wr.heap.size, 1, none⟩ = some (.int .i64 e2) := hbW.cell 1
        have HXW := hide (HX.out.trans hxW)
        have HOW := hide (hxW.own HO.out)
        have hbW2 := (Blk.new W 24 #[.int .i64 (restN e1 12 : Nat), .int .i64 (restN e2 12 : Nat)]).drew
        go_region_held3 (fun w' => w'.cell? ⟨wr.heap.size, 0, none⟩ = some (.int .i64 e1) ∧ w'.cell? ⟨wr.heap.size, 1, none⟩ = some (.int .i64 e2))
          (first | (refine ⟨?_, ?_⟩ <;> (refine Ext.cell (w := W) ?_ (by assumption); ((repeat (first | with_reducible exact Ext.refl _ | with_reducible assumption | with_reducible refine Ext.alloc ?_ _ | with_reducible refine Ext.drew ?_ | with_reducible refine Ext.drewN ?_ _ | with_reducible refine Ext.setCell ?_ (by first | exact Nat.le_refl _ | assumption | (simp; done) | omega) _ | with_reducible refine Ext.trans ?_ (by with_reducible assumption))); done))) | (refine ⟨?_, ?_⟩ <;> (refine hg4.cell (Ext.cell (w := W) (by ((repeat (first | with_reducible exact Ext.refl _ | with_reducible assumption | with_reducible refine Ext.alloc ?_ _ | with_reducible refine Ext.drew ?_ | with_reducible refine Ext.drewN ?_ _ | with_reducible refine Ext.setCell ?_ (by first | exact Nat.le_refl _ | assumption | (simp; done) | omega) _ | with_reducible refine Ext.trans ?_ (by with_reducible assumption))); done)) (by assumption)) (fun e => by have := (HO.out.lt _ e.symm).2; simp at this))) | fail)
          (first
            | (go_at_call_of 5 (Value.int .i64 e1); refine (rest_nat' _ 12 _ F1.out.1 F1.out.2 (by omega) (by omega)).mono ?_; rintro e w' ⟨rfl, rfl⟩)
            | (go_at_call_of 5 (Value.int .i64 e2); refine (rest_nat' _ 12 _ F2.out.1 F2.out.2 (by omega) (by omega)).mono ?_; rintro e w' ⟨rfl, rfl⟩)
            | (refine step_append_any _ (by rfl) (.tmp 22) (.tmp 30) 22 (by rfl) w.heap.size 24 j0 _ 2 16 Try.underlying22 hj0 hy0 hy1 hy2 rfl (by omega) (.slice A1 m c1) m (edgesV (firsts nrmE 40 (l.take k))) (by rfl) (Ext.own (w := wr) (by ((repeat (first | with_reducible exact Ext.refl _ | with_reducible assumption | with_reducible refine Ext.alloc ?_ _ | with_reducible refine Ext.drew ?_ | with_reducible refine Ext.drewN ?_ _ | with_reducible refine Ext.setCell ?_ (by first | exact Nat.le_refl _ | assumption | (simp; done) | omega) _ | with_reducible refine Ext.trans ?_ (by with_reducible assumption))); done)) HO.out) _ (some ⟨W.heap.size, 0, none⟩) 1 1 [.int .i64 (restN e1 12 : Nat), .int .i64 (restN e2 12 : Nat)] (by rfl) (Blk.reads2 (by with_reducible exact hbW2)) (by simp [Value.oneCell']) (by simp only [maxLen]; omega) (by omega) (Nat.le_trans HXW.out.size (Ext.size (w := W) (by ((repeat (first | with_reducible exact Ext.refl _ | with_reducible assumption | with_reducible refine Ext.alloc ?_ _ | with_reducible refine Ext.drew ?_ | with_reducible refine Ext.drewN ?_ _ | with_reducible refine Ext.setCell ?_ (by first | exact Nat.le_refl _ | assumption | (simp; done) | omega) _ | with_reducible refine Ext.trans ?_ (by with_reducible assumption))); done)))) ?_; intro A4 c4 w4 ho4 hg4 ha4)
            | fail)
        clear hbW2 p0 p1
        have hx4 : Ext w w4 := Ext.grown ((HXW.out.alloc _).drew) hg4 (fun k hk => (HO.out.lt k hk).1)
        go_wp2_with fail
        go_roundw
        case rel => exact ⟨k + 1, m + 1, A4, c4, by omega, by go_num, rfl, by omega, by rw [HT.out h40, edgesV_append]; exact ho4, hx4⟩
        case measure => simp [intOf]; omega
      · have HXW := hide (HX.out.alloc (edgeBox e1 e2))
        have HOW := hide (((Ext.refl wr).alloc (edgeBox e1 e2)).own HO.out)
        go_wp2_with fail
        go_roundw
        case rel => exact ⟨k + 1, m, A1, c1, by omega, by go_num, rfl, hm, by rw [firsts_ge nrmE 40 l k (by omega)]; exact HOW.out, HXW.out⟩
        case measure => simp [intOf]; omega
    · obtain rfl : n = k := by omega
      have HOE := hide (show wr.ownsRow w.heap.size 24 2 (.slice A1 m c1) m (edgesV (firsts nrmE 40 l)) by have := HO.out; rwa [List.take_of_length_le (by rw [HN.out]; exact Nat.le_refl _)] at this)
      clear HO
      have HES := hide (show ∀ e ∈ firsts nrmE 40 l, e.1 < 64 ∧ e.2 < 64 from fun e he => by
        obtain ⟨x, rfl⟩ := mem_firsts _ _ _ he
        have h1 := restN_lt x.1 12 (by omega)
        have h2 := restN_lt x.2 12 (by omega)
        exact ⟨by show restN x.1 12 < 64; omega, by show restN x.2 12 < 64; omega⟩)
      generalize firsts nrmE 40 l = E at *
      generalize wr = w1 at *
      have HMF := hide (firsts_le nrmE 12 l)
      have HLE := hide (show E.length = m ∧ m ≤ 1000 by
        have h1 := HOE.out.1
        have h3 := flat_length edgeC_len E
        unfold edgesV at h1
        omega)
      have hm1000 := HLE.out.2
      have HRE := hide (Reads.of_own HOE.out)
      clear HMF hc
      go_wp2_with fail
      refine (ring_any E HES.out A1 m c1 w1.heap.size w1 HRE.out (Nat.le_refl _) hm1000).mono ?_
      rintro e w2 ⟨A2, c2, rfl, hr2, hc2, hc2', hok, hx2⟩
      have HR2 := hide hr2
      have HOK := hide hok
      have HX2 := hide hx2
      have HT2 := hide (two_edges w2)
      generalize ringR (nextL E) 64 0 = R at *
      have hR64 : R.length ≤ 64 := nodup_le 64 R hok.1 hok.2.1
      unfold maxLen at hc2'
      clear hr2 hok hx2
      go_wp2_with fail
      refine (ring_any [(1, 2), (2, 1)] (by simp) _ 2 2 _ _ HT2.out.2 (Nat.le_refl _) (by omega)).mono ?_
      rintro e w3 ⟨A3, c3, rfl, hr3, hc3, hc3', hok3, hx3⟩
      have HX3 := hide (HT2.out.1.trans hx3)
      rw [ring_two]
      clear hr3 hc3 hc3' hok3 hx3
      rw [show ([1, 2] : List Nat).length = 2 from rfl]
      go_wp2_with fail
      go_loopw [58] (RRel w3 R.length) (fun i _ => R.length - (intOf i).toNat)
      case atStart => exact ⟨0, Nat.zero_le _, rfl, Ext.refl _⟩
      case round =>
        obtain ⟨k2, hk2, rfl, hx5⟩ := hrel
        have HX5 := hide (HX3.out.trans hx5)
        have HX6 := hide hx5
        clear hx5
        by_cases hlt : k2 < R.length
        · have hrd := HX5.out.reads HR2.out (Nat.le_refl _)
          obtain ⟨b, off, rfl, -, -⟩ := hrd.at1 (by omega)
          have hml0 : (k2 + 1) % R.length < R.length := Nat.mod_lt _ (by omega)
          obtain ⟨nx, hnx⟩ : ∃ nx, (k2 + 1) % R.length = nx := ⟨_, rfl⟩
          have hm1 : ((k2 : Int) + 1) % (R.length : Int) = (nx : Int) := by rw [← hnx]; rfl
          have hml : nx < R.length := by rw [← hnx]; exact hml0
          have g1 := cells_nats hrd k2 hlt
          have g2 := cells_nats hrd _ hml
          obtain ⟨a, ha⟩ : ∃ a, R[k2]? = some a := ⟨_, List.getElem?_eq_getElem hlt⟩
          obtain ⟨d, hd⟩ : ∃ d, R[nx]? = some d := ⟨_, List.getElem?_eq_getElem hml⟩
          rw [List.getD_eq_getElem?_getD, ha] at g1
          rw [List.getD_eq_getElem?_getD, hd] at g2
          simp only [Option.getD_some] at g1 g2
          have hed := nextL_mem E a d (HOK.out.2.2 k2 a d ha (by rw [hnx]; exact hd))
          have HH := hide (has_edge E (a, d) hed A1 m c1 w1.heap.size wr ((HX2.out.trans HX5.out).reads HRE.out (Nat.le_refl _)) (HX2.out.trans HX5.out).size hm1000)
          have hni : a ∉ R.take k2 := by
            intro h
            obtain ⟨i, hi⟩ := List.mem_iff_getElem?.1 h
            rw [List.getElem?_take] at hi
            split at hi
            · rename_i hik
              exact List.pairwise_iff_getElem.1 HOK.out.1 i k2 (List.getElem?_eq_some_iff.1 hi).1 hlt hik (by rw [(List.getElem?_eq_some_iff.1 hi).2, (List.getElem?_eq_some_iff.1 ha).2])
            · cases hi
          have HNI := hide (fun (W : World) (hW : Ext wr W) => has_not (some ⟨b, off, none⟩) k2 c2 w2.heap.size (R.take k2) a W (by
            have := (HX5.out.trans hW).reads HR2.out (Nat.le_refl _)
            exact take_reads this k2 hk2) (by simp only [maxLen]; omega) hni)
          clear hrd ha hd hed hni hml0 hnx
          go_wp2_with fail
          refine HH.out.mono ?_
          rintro e w6 ⟨rfl, hx6⟩
          have HX7 := hide (HX6.out.trans hx6)
          have HNI2 := hide (HNI.out w6 hx6)
          clear hx6 HNI g1 g2
          go_wp2_with fail
          refine HNI2.out.mono ?_
          rintro e w7 ⟨rfl, rfl⟩
          go_wp2_with fail
          go_roundw
          case rel => exact ⟨k2 + 1, by omega, by go_num, HX7.out⟩
          case measure => simp [intOf]; omega
        · obtain rfl : R.length = k2 := by omega
          have HX7 := hide (HX.out.trans (HX2.out.trans HX5.out))
          go_wp2_with fail
          go_ret
          exact ⟨rfl, HX7.out⟩
end Go.Proofs.Ytngdhpjbfcgloaa
