/- The walk of RefsClosed. -/
import Derived.Test.YtlmcahgffakoiaaReach
import Derived.Test.YtlmcahgffakoiaaRest
import Derived.Deep.RegionHeld3
namespace Go.Proofs.Ytlmcahgffakoiaa
open Go.RowKit
set_option linter.unusedVariables false

theorem edge_info : (Try.prog.info? 34).map (fun i => (i.zero, i.size, i.bytes)) = some (some (.agg #[.int .i64 0, .int .i64 0]), 2, 16) := by kernel_rfl
def I64 (n : Int) : Prop := -9223372036854775808 ≤ n ∧ n ≤ 9223372036854775807
def restN (n k : Int) : Nat := (restZ n k).toNat
theorem restN_lt (n k : Int) (hk : 0 < k) : (restN n k : Int) < k := by
  have h1 := restZ_lo n k (by omega)
  have h2 := restZ_hi n k (by omega)
  unfold restN
  omega
theorem rest_nat (n k : Int) (w : World) (hn : -9223372036854775808 ≤ n) (hn' : n ≤ 9223372036854775807) (hk : 0 < k) (hk' : k ≤ 9223372036854775807) :
    Calls Try.prog 6 #[.int .i64 n, .int .i64 k] w fun e w' => e = .returned (.int .i64 (restN n k : Nat)) ∧ w = w' :=
  (rest_any n k w hn hn' hk hk').mono fun e w' ⟨he, hw⟩ => ⟨by rw [he]; exact ret_int (by have := restZ_lo n k hk; unfold restN; omega), hw⟩

abbrev EdgeI := Int × Int
def edgeIC (e : EdgeI) : List Value := [.int .i64 e.1, .int .i64 e.2]
def edgesIV (l : List EdgeI) : List Value := l.flatMap edgeIC
theorem edgeIC_len (e : EdgeI) : (edgeIC e).length = 2 := rfl
theorem edgeI_cells {w : World} {B n b off : Nat} {l : List EdgeI} (h : Reads w B 2 (some ⟨b, off, none⟩) n (edgesIV l)) (i : Nat) (hi : i < n) (hl : i < l.length) :
    w.cell? ⟨b, off + i * 2, none⟩ = some (.int .i64 l[i].1) ∧ w.cell? ⟨b, off + i * 2 + 1, none⟩ = some (.int .i64 l[i].2) :=
  ⟨Reads.elem edgeIC_len h i hl (by omega) 0 (by omega) rfl, Reads.elem edgeIC_len h i hl (by omega) 1 (by omega) rfl⟩
def nrmE (e : EdgeI) : EdgeD := (restN e.1 20, restN e.2 20)
def nrmF (z : Int) : Nat := restN z 20
section
variable {α β : Type}
/-- The first N of a list, turned. -/
def firsts (f : α → β) (N : Nat) (l : List α) : List β := (l.take N).map f
theorem firsts_lt (f : α → β) (N : Nat) (l : List α) (k : Nat) (hk : k < l.length) (h : k < N) : firsts f N (l.take (k + 1)) = firsts f N (l.take k) ++ [f l[k]] := by
  simp only [firsts, List.take_take]
  rw [Nat.min_eq_right (show k + 1 ≤ N by omega), Nat.min_eq_right (show k ≤ N by omega), List.take_succ_eq_append_getElem hk, List.map_append]
  rfl
theorem firsts_ge (f : α → β) (N : Nat) (l : List α) (k : Nat) (h : N ≤ k) : firsts f N (l.take (k + 1)) = firsts f N (l.take k) := by
  simp only [firsts, List.take_take]
  rw [Nat.min_eq_left (by omega), Nat.min_eq_left (by omega)]
theorem firsts_le (f : α → β) (N : Nat) (l : List α) : (firsts f N l).length ≤ N := by simp [firsts]; omega
theorem mem_firsts (f : α → β) (N : Nat) (l : List α) {y : β} (h : y ∈ firsts f N l) : ∃ x, y = f x := by
  obtain ⟨x, _, rfl⟩ := List.mem_map.1 h
  exact ⟨x, rfl⟩
end
theorem natsV_ints (xs : List Nat) : natsV xs = intsV (xs.map fun (x : Nat) => (x : Int)) := by simp [natsV, intsV]
theorem cast_inj {xs ys : List Nat} : (xs.map fun (x : Nat) => (x : Int)) = (ys.map fun (x : Nat) => (x : Int)) ↔ xs = ys :=
  ⟨fun h => List.map_inj_right (fun _ _ h => by omega) |>.1 h, fun h => by rw [h]⟩

theorem contains_yes (A : Option Addr) (n c B : Nat) (xs : List Nat) (v : Nat) (w : World) (hx : Reads w B 1 A n (natsV xs)) (hn : n ≤ maxLen) (hv : v ∈ xs) :
    Calls Try.prog 11 #[.slice A n c, .int .i64 (v : Int)] w fun e w' => e = .returned (.bool true) ∧ w = w' := by
  have H := hide (index_ints A n c B _ (v : Int) w (by rw [← natsV_ints]; exact hx) hn)
  have HV := hide hv
  clear hx hn hv
  go_enter Try.func11, Try.ntmps11
  go_wp2_with fail
  refine H.out.mono ?_
  rintro e w' ⟨z, rfl, hz, rfl⟩
  have h0 : 0 ≤ z := by
    rcases hz with ⟨i, _, rfl, _⟩ | ⟨_, hno⟩
    · omega
    · exact absurd (List.mem_map.2 ⟨v, HV.out, rfl⟩) hno
  clear hz
  go_wp2_with fail
  go_ret
  exact ⟨rfl, rfl⟩

theorem equal_yes (A : Option Addr) (n c B : Nat) (A' : Option Addr) (n' c' B' : Nat) (xs : List Nat) (w : World) (hx : Reads w B 1 A n (natsV xs)) (hy : Reads w B' 1 A' n' (natsV xs)) (hn : n ≤ maxLen) (hn' : n' ≤ maxLen) :
    Calls Try.prog 10 #[.slice A n c, .slice A' n' c'] w fun e w' => e = .returned (.bool true) ∧ Ext w w' :=
  (equal_ints A n c B (xs.map fun (x : Nat) => (x : Int)) A' n' c' B' (xs.map fun (x : Nat) => (x : Int)) w (by rw [← natsV_ints]; exact hx) (by rw [← natsV_ints]; exact hy) hn hn').mono fun e w' ⟨he, d, hw⟩ => ⟨by rw [he]; simp, by rw [hw]; exact (Ext.refl w).drewN d⟩
def ARel (w w1 : World) (n : Nat) (i : Value) (wr : World) : Prop := ∃ k : Nat, k ≤ n ∧ i = .int .i64 k ∧ wr = w1

def ERel (l : List EdgeI) (w : World) (n : Nat) (out i : Value) (wr : World) : Prop :=
  ∃ (k m : Nat) (A : Option Addr) (c : Nat), k ≤ n ∧ i = .int .i64 k ∧ out = .slice A m c ∧ m ≤ 40 ∧ wr.ownsRow w.heap.size 34 2 (.slice A m c) m (edgesV (firsts nrmE 40 (l.take k))) ∧ Ext w wr
def FRel (l : List Int) (w : World) (n : Nat) (out i : Value) (wr : World) : Prop :=
  ∃ (k m : Nat) (A : Option Addr) (c : Nat), k ≤ n ∧ i = .int .i64 k ∧ out = .slice A m c ∧ m ≤ 5 ∧ wr.ownsRow w.heap.size 3 1 (.slice A m c) m (natsV (firsts nrmF 5 (l.take k))) ∧ Ext w wr

theorem Blk.reads2 {w : World} {g : Nat} {t : TypeId} {a b : Value} (h : Blk w g t #[a, b]) : Reads w w.heap.size 2 (some ⟨g, 0, none⟩) 1 [a, b] := by
  refine ⟨by simp, fun _ => ⟨_, rfl, h.lt, fun j u hu => ?_⟩⟩
  rw [add_lit, Nat.zero_add, h.cell]
  simpa using hu
theorem own_nil {w : World} {base size n c : Nat} {e : TypeId} {A : Option Addr} {xs : List Value} (h : w.ownsRow base e size (.slice A n c) n xs) : A = none → n = 0 := by
  intro h0
  obtain ⟨A', c', hv, _, _, h3⟩ := own_form h
  injection hv with e1 e2 e3
  exact (h3 (e1.symm.trans h0)).1
abbrev edgeBox (a b : Int) : Obj := .cells #[.int .i64 a, .int .i64 b] 34

set_option maxHeartbeats 8000000 in
set_option maxRecDepth 100000 in
theorem closed_walk (l : List EdgeI) (fits : ∀ e ∈ l, I64 e.1 ∧ I64 e.2) (fr : List Int) (fitf : ∀ z ∈ fr, I64 z) (z : Int) (fitz : I64 z) (A : Option Addr) (n c : Nat) (A' : Option Addr) (n' c' : Nat) (w : World)
    (hr : Reads w w.heap.size 2 A n (edgesIV l)) (hnc : n ≤ c) (hc : c ≤ maxLen) (hr' : Reads w w.heap.size 1 A' n' (intsV fr)) (hnc' : n' ≤ c') (hc' : c' ≤ maxLen) :
    Calls Try.prog 4 #[.slice A n c, .slice A' n' c', .int .i64 z] w fun e w' => e = .returned (.bool true) ∧ Ext w w' := by
  obtain ⟨i0, hi0, hz0, hz1, hz2⟩ := info_parts int_info
  obtain ⟨j0, hj0, hy0, hy1, hy2⟩ := info_parts edge_info
  unfold maxLen at hc hc'
  have HN := hide (show l.length = n from flat_len edgeIC_len (by omega) hr)
  have HN' := hide (show fr.length = n' by have := hr'.1; rw [intsV_length] at this; omega)
  have HR := hide hr
  have HR' := hide hr'
  have HF := hide fits
  have HF' := hide fitf
  have HZ := hide fitz
  clear hr hr' fits fitf fitz
  go_enter Try.func4, Try.ntmps4
  go_wp2_with fail
  go_loopw [7, 25] (ERel l w n) (fun _ i _ => n - (intOf i).toNat)
  case atStart => exact ⟨0, 0, none, 0, Nat.zero_le _, rfl, rfl, Nat.zero_le _, World.ownsRow_nil _ _ _ _, Ext.refl _⟩
  case round =>
    obtain ⟨k, m, A1, c1, hk, rfl, rfl, hm, ho, hx⟩ := hrel
    have HO := hide ho
    have HX := hide hx
    clear ho hx
    by_cases hlt : k < n
    · obtain ⟨b, off, rfl, hb⟩ := HR.out.addr (by omega) (by omega)
      have hkl : k < l.length := by rw [HN.out]; exact hlt
      obtain ⟨q0, q1⟩ := edgeI_cells (HX.out.reads HR.out (Nat.le_refl _)) k hlt hkl
      obtain ⟨f1, f2⟩ := HF.out l[k] (List.getElem_mem hkl)
      have HT := hide (firsts_lt nrmE 40 l k hkl)
      have HTL := hide (show k < 40 → (firsts nrmE 40 (l.take k)).length = m ∧ m = k from fun h40 => by
        have h1 := HO.out.1
        have h2 : (firsts nrmE 40 (l.take k)).length = k := by simp [firsts]; omega
        have h3 := flat_length edgeC_len (firsts nrmE 40 (l.take k))
        unfold edgesV at h1
        omega)
      generalize l[k] = ed at *
      obtain ⟨e1, e2⟩ := ed
      dsimp only at q0 q1 f1 f2
      have F1 := hide f1
      have F2 := hide f2
      clear f1 f2
      by_cases h40 : k < 40
      · have hmk := (HTL.out h40).2
        have hm39 : m < 40 := by omega
        clear hmk
        go_upto_region 6 with fail
        obtain ⟨W, hW⟩ : ∃ W, W = wr.alloc (edgeBox e1 e2) := ⟨_, rfl⟩
        rw [← hW]
        have hxW : Ext wr W := by rw [hW]; ((repeat (first | with_reducible exact Ext.refl _ | with_reducible assumption | with_reducible refine Ext.alloc ?_ _ | with_reducible refine Ext.drew ?_ | with_reducible refine Ext.drewN ?_ _ | with_reducible refine Ext.setCell ?_ (by first | exact Nat.le_refl _ | assumption | (simp; done) | omega) _ | with_reducible refine Ext.trans ?_ (by with_reducible assumption))); done)
        have hbW : Blk W wr.heap.size 34 #[.int .i64 e1, .int .i64 e2] := by rw [hW]; exact Blk.new _ _ _
        clear hW
        have p0 : W.cell? ⟨wr.heap.size, 0, none⟩ = some (.int .i64 e1) := hbW.cell 0
        have p1 : W.cell? ⟨wr.heap.size, 1, none⟩ = some (.int .i64 e2) := hbW.cell 1
        have HXW := hide (HX.out.trans hxW)
        have HOW := hide (hxW.own HO.out)
        have hbW2 := (Blk.new W 34 #[.int .i64 (restN e1 20 : Nat), .int .i64 (restN e2 20 : Nat)]).drew
        go_region_held3 (fun w' => w'.cell? ⟨wr.heap.size, 0, none⟩ = some (.int .i64 e1) ∧ w'.cell? ⟨wr.heap.size, 1, none⟩ = some (.int .i64 e2))
          (first | (refine ⟨?_, ?_⟩ <;> (refine Ext.cell (w := W) ?_ (by assumption); ((repeat (first | with_reducible exact Ext.refl _ | with_reducible assumption | with_reducible refine Ext.alloc ?_ _ | with_reducible refine Ext.drew ?_ | with_reducible refine Ext.drewN ?_ _ | with_reducible refine Ext.setCell ?_ (by first | exact Nat.le_refl _ | assumption | (simp; done) | omega) _ | with_reducible refine Ext.trans ?_ (by with_reducible assumption))); done))) | (refine ⟨?_, ?_⟩ <;> (refine hg4.cell (Ext.cell (w := W) (by ((repeat (first | with_reducible exact Ext.refl _ | with_reducible assumption | with_reducible refine Ext.alloc ?_ _ | with_reducible refine Ext.drew ?_ | with_reducible refine Ext.drewN ?_ _ | with_reducible refine Ext.setCell ?_ (by first | exact Nat.le_refl _ | assumption | (simp; done) | omega) _ | with_reducible refine Ext.trans ?_ (by with_reducible assumption))); done)) (by assumption)) (fun e => by have := (HO.out.lt _ e.symm).2; simp at this))) | fail)
          (first
            | (go_at_call_of 6 (Value.int .i64 e1); refine (rest_nat _ 20 _ F1.out.1 F1.out.2 (by omega) (by omega)).mono ?_; rintro e w' ⟨rfl, rfl⟩)
            | (go_at_call_of 6 (Value.int .i64 e2); refine (rest_nat _ 20 _ F2.out.1 F2.out.2 (by omega) (by omega)).mono ?_; rintro e w' ⟨rfl, rfl⟩)
            | (refine step_append_any _ (by rfl) (.tmp 32) (.tmp 40) 32 (by rfl) w.heap.size 34 j0 _ 2 16 Try.underlying32 hj0 hy0 hy1 hy2 rfl (by omega) (.slice A1 m c1) m (edgesV (firsts nrmE 40 (l.take k))) (by rfl) (Ext.own (w := wr) (by ((repeat (first | with_reducible exact Ext.refl _ | with_reducible assumption | with_reducible refine Ext.alloc ?_ _ | with_reducible refine Ext.drew ?_ | with_reducible refine Ext.drewN ?_ _ | with_reducible refine Ext.setCell ?_ (by first | exact Nat.le_refl _ | assumption | (simp; done) | omega) _ | with_reducible refine Ext.trans ?_ (by with_reducible assumption))); done)) HO.out) _ (some ⟨W.heap.size, 0, none⟩) 1 1 [.int .i64 (restN e1 20 : Nat), .int .i64 (restN e2 20 : Nat)] (by rfl) (Blk.reads2 (by with_reducible exact hbW2)) (by simp [Value.oneCell']) (by simp only [maxLen]; omega) (by omega) (Nat.le_trans HXW.out.size (Ext.size (w := W) (by ((repeat (first | with_reducible exact Ext.refl _ | with_reducible assumption | with_reducible refine Ext.alloc ?_ _ | with_reducible refine Ext.drew ?_ | with_reducible refine Ext.drewN ?_ _ | with_reducible refine Ext.setCell ?_ (by first | exact Nat.le_refl _ | assumption | (simp; done) | omega) _ | with_reducible refine Ext.trans ?_ (by with_reducible assumption))); done)))) ?_; intro A4 c4 w4 ho4 hg4 ha4)
            | fail)
        clear hbW2 p0 p1
        have hx4 : Ext w w4 := Ext.grown ((HXW.out.alloc _).drew) hg4 (fun k hk => (HO.out.lt k hk).1)
        go_wp2_with fail
        go_roundw
        case rel => exact ⟨k + 1, m + 1, A4, c4, by omega, by go_num, rfl, by omega, by rw [HT.out h40, edgesV_append]; exact ho4, hx4⟩
        case measure => simp [intOf]; omega
      · have HXW := hide (HX.out.alloc (edgeBox e1 e2))
        have HOW := hide (((Ext.refl wr).alloc (edgeBox e1 e2)).own HO.out)
        go_wp2_with fail
        go_roundw
        case rel => exact ⟨k + 1, m, A1, c1, by omega, by go_num, rfl, hm, by rw [firsts_ge nrmE 40 l k (by omega)]; exact HOW.out, HXW.out⟩
        case measure => simp [intOf]; omega
    · obtain rfl : n = k := by omega
      have HOE := hide (show wr.ownsRow w.heap.size 34 2 (.slice A1 m c1) m (edgesV (firsts nrmE 40 l)) by have := HO.out; rwa [List.take_of_length_le (by rw [HN.out]; exact Nat.le_refl _)] at this)
      clear HO
      have HES := hide (show ∀ e ∈ firsts nrmE 40 l, e.1 < 64 ∧ e.2 < 64 from fun e he => by
        obtain ⟨x, rfl⟩ := mem_firsts _ _ _ he
        have h1 := restN_lt x.1 20 (by omega)
        have h2 := restN_lt x.2 20 (by omega)
        exact ⟨by show restN x.1 20 < 64; omega, by show restN x.2 20 < 64; omega⟩)
      generalize firsts nrmE 40 l = E at *
      generalize wr = w1 at *
      clear HF HR
      go_wp2_with fail
      go_loopw [10, 45] (FRel fr w1 n') (fun _ i _ => n' - (intOf i).toNat)
      case atStart => exact ⟨0, 0, none, 0, Nat.zero_le _, rfl, rfl, Nat.zero_le _, World.ownsRow_nil _ _ _ _, Ext.refl _⟩
      case round =>
        obtain ⟨k, m2, A2, c2, hk2, rfl, rfl, hm2, ho2, hx2⟩ := hrel
        have HO2 := hide ho2
        have HX2 := hide hx2
        clear ho2 hx2
        by_cases hlt2 : k < n'
        · obtain ⟨b, off, rfl, -, -⟩ := HR'.out.at1 (by omega)
          have hkl : k < fr.length := by rw [HN'.out]; exact hlt2
          have g1 : wr.cell? ⟨b, off + k, none⟩ = some (.int .i64 (fr.getD k 0)) := cells_ints ((HX.out.trans HX2.out).reads HR'.out (Nat.le_refl _)) k hlt2
          have hg : fr.getD k 0 = fr[k] := by simp [List.getD_eq_getElem?_getD, hkl]
          rw [hg] at g1
          have f1 := HF'.out fr[k] (List.getElem_mem hkl)
          have HT := hide (firsts_lt nrmF 5 fr k hkl)
          have HTL := hide (show k < 5 → m2 = k from fun h5 => by
            have h1 := HO2.out.1
            have h2 : (firsts nrmF 5 (fr.take k)).length = k := by simp [firsts]; omega
            rw [natsV_length] at h1
            omega)
          generalize fr[k] = y at *
          have F1 := hide f1
          clear f1 hg
          by_cases h5 : k < 5
          · have hmk := HTL.out h5
            have hm39 : m2 < 5 := by omega
            clear hmk
            go_wp2_with fail
            refine (rest_nat y 20 _ F1.out.1 F1.out.2 (by omega) (by omega)).mono ?_
            rintro e w' ⟨rfl, rfl⟩
            have HB7 := hide (Blk.new wr 3 #[.int .i64 (restN y 20 : Nat)])
            go_wp2_with (at_builtin; refine wpList_append_any _ rfl (.tmp 52) (.tmp 55) _ rfl w1.heap.size 3 i0 _ 1 8 Try.underlying22 hi0 hz0 hz1 hz2 rfl (by omega) _ m2 _ rfl (HO2.out.alloc _) _ _ 1 1 _ rfl HB7.out.reads (by simp [Value.oneCell']) (by simp only [maxLen]; omega) (by omega) (by have := HX2.out.size; simp; omega) ?_; intro A8 c8 w8 ho8 hg8 ha8)
            have HX8 := hide (show Ext w1 w8 from (HX2.out.alloc _).grown hg8 (fun j hj => (HO2.out.lt j hj).1))
            have HO8 := hide ho8
            clear ho8 hg8 ha8
            go_roundw
            case rel => exact ⟨k + 1, m2 + 1, A8, c8, by omega, by go_num, rfl, by omega, by rw [HT.out h5, natsV_append]; exact HO8.out, HX8.out⟩
            case measure => simp [intOf]; omega
          · go_wp2_with fail
            go_roundw
            case rel => exact ⟨k + 1, m2, A2, c2, by omega, by go_num, rfl, hm2, by rw [firsts_ge nrmF 5 fr k (by omega)]; exact HO2.out, HX2.out⟩
            case measure => simp [intOf]; omega
        · obtain rfl : n' = k := by omega
          have HOF := hide (show wr.ownsRow w1.heap.size 3 1 (.slice A2 m2 c2) m2 (natsV (firsts nrmF 5 fr)) by have := HO2.out; rwa [List.take_of_length_le (by rw [HN'.out]; exact Nat.le_refl _)] at this)
          clear HO2
          have HFS := hide (show ∀ f ∈ firsts nrmF 5 fr, f < 64 from fun f hf => by
            obtain ⟨x, rfl⟩ := mem_firsts _ _ _ hf
            have h1 := restN_lt x 20 (by omega)
            show restN x 20 < 64
            omega)
          generalize firsts nrmF 5 fr = F at *
          generalize wr = w2 at *
          have HOX := hide (HX2.out.own HOE.out)
          have HXW := hide (HX.out.trans HX2.out)
          clear HF' HR' HX HX2 HOE
          have h5F : m2 ≤ 5 := hm2
          go_wp2_with fail
          refine (reach_ok E F HES.out HFS.out A1 m c1 w2.heap.size A2 m2 c2 w2.heap.size w2 (Reads.of_own HOX.out) (Reads.of_own HOF.out) (Nat.le_refl _) (Nat.le_refl _) (by omega) (by omega) (own_nil HOF.out)).mono ?_
          rintro e w3 ⟨M1, A3, c3, n3, rfl, hn3, ho3, hl3, hx3⟩
          have HO3 := hide ho3
          have HL3 := hide hl3
          have HX3 := hide hx3
          clear ho3 hl3 hx3
          go_wp2_with fail
          refine (reach_ok E (setL M1 64) HES.out (fun f hf => ((mem_setL M1 64 f).1 hf).1) A1 m c1 w3.heap.size A3 n3 c3 w3.heap.size w3 (Reads.of_own (HX3.out.own HOX.out)) (Reads.of_own HO3.out) (Nat.le_refl _) (Nat.le_refl _) (by omega) (by omega) (own_nil HO3.out)).mono ?_
          rintro e w4 ⟨M2, A4, c4, n4, rfl, hn4, ho4, hl4, hx4⟩
          have HO4 := hide ho4
          have HL4 := hide hl4
          have HX4 := hide (HX3.out.trans hx4)
          have HX34 := hide hx4
          clear ho4 hl4 hx4
          go_wp2_with fail
          refine (iclone_any A2 m2 c2 w4.heap.size (natsV F) w4 (Reads.of_own (HX4.out.own HOF.out)) (natsV_one _) (Nat.le_refl _) (by omega) (own_nil HOF.out)).mono ?_
          rintro e w5 ⟨A5, c5, rfl, ho5, hx5⟩
          have HO5 := hide ho5
          have HX5 := hide hx5
          clear ho5 hx5
          go_wp2_with fail
          refine (rest_nat z 20 _ HZ.out.1 HZ.out.2 (by omega) (by omega)).mono ?_
          rintro e w' ⟨rfl, rfl⟩
          have HB6 := hide (Blk.new w5 3 #[.int .i64 (restN z 20 : Nat)])
          have hs5 : w4.heap.size ≤ w5.heap.size := HX5.out.size
          go_wp2_with (at_builtin; refine wpList_append_any _ rfl (.tmp 73) (.tmp 76) _ rfl w4.heap.size 3 i0 _ 1 8 Try.underlying22 hi0 hz0 hz1 hz2 rfl (by omega) _ m2 _ rfl (HO5.out.alloc _) _ _ 1 1 _ rfl HB6.out.reads (by simp [Value.oneCell']) (by simp only [maxLen]; omega) (by omega) (by simp; omega) ?_; intro A6 c6 w6 ho6 hg6 ha6)
          have HX6 := hide (show Ext w4 w6 from (HX5.out.alloc _).grown hg6 (fun j hj => (HO5.out.lt j hj).1))
          have HO6 := hide (show w6.ownsRow w4.heap.size 3 1 (.slice A6 (m2 + 1) c6) (m2 + 1) (natsV (F ++ [restN z 20])) by rw [natsV_append]; exact ho6)
          clear ho6 hg6 ha6 HO5 HX5 HB6
          refine (reach_ok E (F ++ [restN z 20]) HES.out (fun f hf => by
            rcases List.mem_append.1 hf with hf | hf
            · exact HFS.out f hf
            · rw [List.mem_singleton.1 hf]; have := restN_lt z 20 (by omega); omega) A1 m c1 w6.heap.size A6 (m2 + 1) c6 w6.heap.size w6 (Reads.of_own (HX6.out.own (HX4.out.own HOX.out))) (Reads.of_own HO6.out) (Nat.le_refl _) (Nat.le_refl _) (by omega) (by omega) (own_nil HO6.out)).mono ?_
          rintro e w7 ⟨M3, A7, c7, n7, rfl, hn7, ho7, hl7, hx7⟩
          have HO7 := hide ho7
          have HL7 := hide hl7
          have HX7 := hide (HX6.out.trans hx7)
          clear ho7 hl7 hx7 HO6 HX6
          have HB8 := hide (Blk.new w7 34 #[.int .i64 1, .int .i64 2])
          go_upto_region 18 with fail
          obtain ⟨W8, hW8⟩ : ∃ W8, W8 = (w7.alloc (edgeBox 1 2)).alloc (.cells #[.int .i64 1] 3) := ⟨_, rfl⟩
          have HB8 := hide (show Blk W8 w7.heap.size 34 #[.int .i64 1, .int .i64 2] by rw [hW8]; exact (Blk.new _ _ _).alloc _)
          have HB9 := hide (show Blk W8 (w7.heap.size + 1) 3 #[.int .i64 1] by rw [hW8]; exact Blk.new' _ _ _ (by simp))
          have HX8 := hide (show Ext w7 W8 by rw [hW8]; ((repeat (first | with_reducible exact Ext.refl _ | with_reducible assumption | with_reducible refine Ext.alloc ?_ _ | with_reducible refine Ext.drew ?_ | with_reducible refine Ext.drewN ?_ _ | with_reducible refine Ext.setCell ?_ (by first | exact Nat.le_refl _ | assumption | (simp; done) | omega) _ | with_reducible refine Ext.trans ?_ (by with_reducible assumption))); done))
          go_wp2_with fail
          rw [← hW8]
          clear hW8
          refine (reach_ok [(1, 2)] [1] (by simp) (by simp) (some ⟨w7.heap.size, 0, none⟩) 1 1 W8.heap.size (some ⟨w7.heap.size + 1, 0, none⟩) 1 1 W8.heap.size W8 HB8.out.reads2 HB9.out.reads (Nat.le_refl _) (Nat.le_refl _) (by omega) (by omega) (by simp)).mono ?_
          rintro e w9 ⟨M4, A9, c9, n9, rfl, hn9, ho9, hl9, hx9⟩
          have HO9 := hide (show w9.ownsRow W8.heap.size 3 1 (.slice A9 n9 c9) n9 (natsV [1, 2]) by rw [← hl9.one]; exact ho9)
          have HX9 := hide (HX7.out.trans (HX8.out.trans hx9))
          have HY9 := hide (HX8.out.trans hx9)
          clear ho9 hl9 hx9 HB8 HB9
          have HEQ := hide (show natsV (setL M2 64) = natsV (setL M1 64) by rw [setL_congr 64 (fun x _ => (HL3.out.again HL4.out x).symm)])
          have HB10 := hide (Blk.new w9 3 #[.int .i64 1, .int .i64 2])
          go_wp2_with fail
          refine (equal_yes A9 n9 c9 _ _ 2 2 _ [1, 2] _ (Reads.of_own (HO9.out.alloc _)) HB10.out.reads (by simp only [maxLen]; omega) (by simp [maxLen])).mono ?_
          rintro e w10 ⟨rfl, hx10⟩
          have HX10 := hide (HX9.out.trans (((Ext.refl w9).alloc _).trans hx10))
          have HY10 := hide (HY9.out.trans (((Ext.refl w9).alloc _).trans hx10))
          have HX310 := hide (HX34.out.trans HX10.out)
          clear hx10 HB10 HO9
          go_wp2_with fail
          refine (equal_yes A3 n3 c3 _ A4 n4 c4 _ (setL M1 64) _ (Reads.of_own (HX310.out.own HO3.out)) (by rw [← HEQ.out]; exact Reads.of_own (HX10.out.own HO4.out)) (by simp only [maxLen]; omega) (by simp only [maxLen]; omega)).mono ?_
          rintro e w11 ⟨rfl, hx11⟩
          have HX11 := hide (HX10.out.trans hx11)
          have HY11 := hide (HY10.out.trans hx11)
          clear hx11
          go_wp2_with fail
          refine (iclone_any A2 m2 c2 w11.heap.size (natsV F) w11 (Reads.of_own (HX11.out.own (HX4.out.own HOF.out))) (natsV_one _) (Nat.le_refl _) (by omega) (own_nil HOF.out)).mono ?_
          rintro e w12 ⟨A12, c12, rfl, ho12, hx12⟩
          have HO12 := hide ho12
          have HX12 := hide (HX11.out.trans hx12)
          have hs12 : w11.heap.size ≤ w12.heap.size := hx12.size
          have HXX := hide hx12
          have HO3' := hide ((HX34.out.trans HX12.out).own HO3.out)
          clear ho12 hx12
          go_wp2_with (at_builtin; refine wpList_append_any _ rfl (.tmp 115) (.tmp 116) _ rfl w11.heap.size 3 i0 _ 1 8 Try.underlying22 hi0 hz0 hz1 hz2 rfl (by omega) _ m2 _ rfl HO12.out _ A3 n3 c3 _ rfl (Reads.of_own HO3'.out) (natsV_one _) (by simp only [maxLen]; omega) (by omega) hs12 ?_; intro A13 c13 w13 ho13 hg13 ha13)
          have HX13 := hide (show Ext w11 w13 from HXX.out.grown hg13 (fun j hj => (HO12.out.lt j hj).1))
          have HR13 := hide (show Reads w13 w13.heap.size 1 A13 (m2 + n3) (natsV (F ++ setL M1 64)) by rw [natsV_append]; exact Reads.of_own ho13)
          have HC7 := hide (show Reads w13 w13.heap.size 1 A7 n7 (natsV (setL M3 64)) from Reads.of_own ((HY11.out.trans HX13.out).own HO7.out))
          have HC3 := hide (show Reads w13 w13.heap.size 1 A3 n3 (natsV (setL M1 64)) from Reads.of_own ((HX34.out.trans (HX11.out.trans HX13.out)).own HO3.out))
          have HXE := hide (show Ext w w13 from HXW.out.trans (HX4.out.trans (HX11.out.trans HX13.out)))
          have HALL := hide (show ∀ k (h : k < (F ++ setL M1 64).length), (F ++ setL M1 64)[k] ∈ setL M3 64 ∧ (F ++ setL M1 64)[k] ∈ setL M1 64 from fun k h => by
            have hM : M1 (F ++ setL M1 64)[k] = true := by
              rcases List.mem_append.1 (List.getElem_mem h) with hf | hf
              · exact HL3.out.1 _ hf
              · exact ((mem_setL _ _ _).1 hf).2
            have h64 := HL3.out.2.2.1 _ hM
            exact ⟨(mem_setL _ _ _).2 ⟨h64, HL3.out.more HL7.out (fun f hf => by simp [hf]) _ hM⟩, (mem_setL _ _ _).2 ⟨h64, hM⟩⟩)
          have HLL := hide (show (F ++ setL M1 64).length = m2 + n3 by have := HR13.out.1; rw [natsV_length] at this; omega)
          clear ho13 hg13 ha13
          go_loopw [119] (ARel w w13 (m2 + n3)) (fun i _ => m2 + n3 - (intOf i).toNat)
          case atStart => exact ⟨0, Nat.zero_le _, rfl, rfl⟩
          case round =>
            obtain ⟨k, hk, rfl, rfl⟩ := hrel
            by_cases hlt3 : k < m2 + n3
            · obtain ⟨b, off, rfl, -, -⟩ := HR13.out.at1 (by omega)
              have g1 := cells_nats HR13.out k hlt3
              have hkl : k < (F ++ setL M1 64).length := by rw [HLL.out]; exact hlt3
              have hg : (F ++ setL M1 64).getD k 0 = (F ++ setL M1 64)[k] := by simp only [List.getD_eq_getElem?_getD, List.getElem?_eq_getElem hkl, Option.getD_some]
              have HM := hide (HALL.out k hkl)
              rw [hg] at g1
              clear hg
              generalize (F ++ setL M1 64)[k] = x at *
              go_wp2_with fail
              refine (contains_yes A7 n7 c7 _ _ x _ HC7.out (by simp only [maxLen]; omega) HM.out.1).mono ?_
              rintro e w' ⟨rfl, rfl⟩
              go_wp2_with fail
              refine (contains_yes A3 n3 c3 _ _ x _ HC3.out (by simp only [maxLen]; omega) HM.out.2).mono ?_
              rintro e w' ⟨rfl, rfl⟩
              go_wp2_with fail
              go_roundw
              case rel => exact ⟨k + 1, by omega, by go_num, rfl⟩
              case measure => simp [intOf]; omega
            · obtain rfl : k = m2 + n3 := by omega
              go_wp2_with fail
              go_ret
              exact ⟨rfl, HXE.out⟩
end Go.Proofs.Ytlmcahgffakoiaa
