/- slices.Values and slices.AppendSeq on strings: what is ranged over is gathered. Plain theorems, no condition. -/
import Derived.Test.YtjmonkacijncbaaGreatDoorTlPick
import Derived.RangeFuncBox
import Derived.RangeFuncLeaves
import Derived.Shelf.Abstract
import Derived.OwnWalkIn
import Derived.TacticsInMore
import Derived.LoopNIn
import Derived.LoopIn
import Derived.Maps.AppendAt
namespace Go.Proofs.YtjmonkacijncbaaGreatDoor
open Go.RowKit Go.Shelf
set_option linter.unusedVariables false

attribute [local go_sem] Oper.semAt_some

def some_til (L : List Bs) (k : Nat) : List Bs := (List.range k).map fun j => L[j]?.getD []
theorem til_succ (L : List Bs) (k : Nat) : some_til L (k + 1) = some_til L k ++ [L[k]?.getD []] := by simp [some_til, List.range_succ]
theorem til_length (L : List Bs) (k : Nat) : (some_til L k).length = k := by simp [some_til]
theorem til_take (L : List Bs) {k : Nat} (hk : k ≤ L.length) : some_til L k = L.take k := by
  apply List.ext_getElem
  · simp [some_til, hk]
  · intro i h1 h2
    have : i < L.length := by simp [some_til] at h1; omega
    simp [some_til, this]
theorem til_all (L : List Bs) : some_til L L.length = L := by rw [til_take L (Nat.le_refl _), List.take_length]
/-- The values of a slice, one after the other, handed to whatever body keeps what lay below n₀. -/
def SliceAt (n₀ : Nat) (W : World) (sv : Value) (L : List Bs) : Prop :=
  (∃ a c, sv = .slice a 0 c ∧ L = []) ∨ ∃ b off cap, sv = .slice (some ⟨b, off, none⟩) L.length cap ∧ b < n₀ ∧ ∀ j, j < L.length → W.cell? ⟨b, off + j, none⟩ = some (.string (str (L[j]?.getD [])))
set_option maxRecDepth 100000 in
set_option maxHeartbeats 4000000 in
theorem each_in (F : Fence) (n : Nat) (hf : F.fn 106) (hro : F.round = none) (hn : 1 ≤ n) (l Bs' n₀ b off cap : Nat) (L : List Bs) (hreach : L.length ≤ 1000000) (hb : b < n₀) (J Jx : List Bs → World → Prop)
    (hY : ∀ pre x W, J pre W → pre.length < L.length → YieldAt F (n - 1) Tryz.prog l #[.string (str x)] W fun e W' =>
      (e = .returned (.bool true) ∧ J (pre ++ [x]) W' ∧ Below n₀ W W') ∨ (e = .returned (.bool false) ∧ Jx (pre ++ [x]) W'))
    (W : World) (hBs : W.cell? ⟨Bs', 0, none⟩ = some (.slice (some ⟨b, off, none⟩) L.length cap)) (hc : ∀ j, j < L.length → W.cell? ⟨b, off + j, none⟩ = some (.string (str (L[j]?.getD [])))) (h0 : J [] W) :
    CallsIn F n Tryz.prog 106 #[.func (.yield l) #[] #[], .pointer (some ⟨Bs', 0, none⟩)] W fun e W' => (∃ v, e = .returned v) ∧
      ((∃ ys, ys = some_til L L.length ∧ J ys W') ∨ (∃ pre, (∃ k, k ≤ L.length ∧ pre = some_til L k) ∧ Jx pre W')) := by
  generalize hlen : L.length = len at *
  refine callsIn_of_wp Tryz.func106 rfl hf ?_ hro
  simp only [Tryz.ntmps106, List.size_toArray, List.length_cons, List.length_nil, Nat.reduceAdd, Nat.reduceSub, Array.replicate_succ, Array.replicate_zero, List.push_toArray, List.append_toArray, List.nil_append, List.cons_append]
  gi_wp2
  gi_loopw [7] (fun i wr => ∃ k : Nat, k ≤ len ∧ i = .int .i64 k ∧ J (some_til L k) wr ∧ Below n₀ W wr)
    (fun i _ => len - (intOf i).toNat)
  case atStart => exact ⟨0, Nat.zero_le _, rfl, h0, Below.refl _ _⟩
  case round =>
    obtain ⟨k, hk, rfl, hJs, hnx⟩ := hrel
    have hcx : k < len → wr.cell? ⟨b, off + k, none⟩ = some (.string (str (L[k]?.getD []))) := fun h => (hnx.cell (p := ⟨b, off + k, none⟩) hb).trans (hc k h)
    by_cases hlt : k < len
    · obtain ⟨fn, tmps, assign, body, hy, hR⟩ := hY _ (L[k]?.getD []) wr hJs (by rw [til_length]; exact hlt)
      have hcx' := hcx hlt
      have hts := til_succ L k
      generalize L[k]?.getD [] = x at *
      gi_wp2
      refine hR.mono ?_
      rintro e W3 (⟨rfl, hJ3, hk3⟩ | ⟨rfl, hJx3⟩)
      · gi_wp2
        go_roundw
        case rel => exact ⟨k + 1, by omega, by simp, by rw [hts]; exact hJ3, hnx.trans hk3⟩
        case measure => simp [intOf]; omega
      · gi_wp2
        refine bodyPost_ret (results_none rfl _ _ _) rfl ?_
        exact ⟨⟨_, rfl⟩, .inr ⟨_, ⟨k + 1, by omega, hts.symm⟩, hJx3⟩⟩
    · obtain rfl : k = len := by omega
      gi_wp2
      go_end0
      exact ⟨⟨_, rfl⟩, .inl ⟨_, rfl, hJs⟩⟩
set_option maxRecDepth 100000 in
set_option maxHeartbeats 4000000 in
theorem none_in (F : Fence) (n : Nat) (a : Option Addr) (c : Nat) (hf : F.fn 106) (hro : F.round = none) (l Bs' : Nat) (J : List Bs → World → Prop) (W : World) (hBs : W.cell? ⟨Bs', 0, none⟩ = some (.slice a 0 c)) (h0 : J [] W) :
    CallsIn F n Tryz.prog 106 #[.func (.yield l) #[] #[], .pointer (some ⟨Bs', 0, none⟩)] W fun e W' => (∃ v, e = .returned v) ∧ J [] W' := by
  refine callsIn_of_wp Tryz.func106 rfl hf ?_ hro
  simp only [Tryz.ntmps106, List.size_toArray, List.length_cons, List.length_nil, Nat.reduceAdd, Nat.reduceSub, Array.replicate_succ, Array.replicate_zero, List.push_toArray, List.append_toArray, List.nil_append, List.cons_append]
  gi_wp2
  gi_loopw [7] (fun i wr => i = .int .i64 0 ∧ J [] wr) (fun _ _ => 0)
  case atStart => exact ⟨rfl, h0⟩
  case round =>
    obtain ⟨rfl, hJs⟩ := hrel
    gi_wp2
    go_end0
    exact ⟨⟨_, rfl⟩, hJs⟩
theorem SliceAt.below {n₀ : Nat} {A B : World} (h : Below n₀ A B) {sv : Value} {L : List Bs} : SliceAt n₀ A sv L → SliceAt n₀ B sv L
  | .inl e => .inl e
  | .inr ⟨b, off, cap, e, hb, hc⟩ => .inr ⟨b, off, cap, e, hb, fun j hj => (h.cell (p := ⟨b, off + j, none⟩) hb).trans (hc j hj)⟩
theorem vals_stops (F : Fence) (n : Nat) (hf : F.fn 106) (hro : F.round = none) (hn : 1 ≤ n) (Bs' n₀ : Nat) (sv : Value) (L : List Bs) (hreach : L.length ≤ 1000000) (w : World) (hBs : Bs' < w.heap.size) (hn₀ : n₀ ≤ w.heap.size)
    (hc : w.cell? ⟨Bs', 0, none⟩ = some sv) (hI : SliceAt n₀ w sv L) :
    SeqStopsK F n Tryz.prog 106 #[.pointer (some ⟨Bs', 0, none⟩)] (fun x : Bs => #[Value.string (str x)]) (Below n₀) (fun ys => ys = L) (fun pre => pre <+: L) L.length w := fun l J Jx W hW _ _ hY h0 => by
  have hc' := (hW.cell (p := ⟨Bs', 0, none⟩) hBs).trans hc
  rcases hI.below (hW.mono hn₀) with ⟨a, c, rfl, rfl⟩ | ⟨b, off, cap, rfl, hb, hcs⟩
  · exact (none_in F n a c hf hro l Bs' J W hc' h0).mono fun e W' ⟨he, hj⟩ => ⟨he, .inl ⟨_, rfl, hj⟩⟩
  · refine (each_in F n hf hro hn l Bs' n₀ b off cap L hreach hb J Jx hY W hc' hcs h0).mono ?_
    rintro e W' ⟨he, ⟨ys, rfl, hj⟩ | ⟨pre, ⟨k, hk, rfl⟩, hj⟩⟩
    · exact ⟨he, .inl ⟨_, til_all L, hj⟩⟩
    · exact ⟨he, .inr ⟨_, by rw [til_take L hk]; exact List.take_prefix _ _, hj⟩⟩
set_option maxRecDepth 100000 in
set_option maxHeartbeats 4000000 in
theorem gather_in (F : Fence) (n : Nat) (h3 : F.fn 125) (h5 : F.fn 106) (hro : F.round = none) (hn : 3 ≤ n) (Bs' : Nat) (sv : Value) (L : List Bs) (hlen : L.length ≤ 1000000) (w : World) (hBs : Bs' < w.heap.size) (hc : w.cell? ⟨Bs', 0, none⟩ = some sv) (hI : SliceAt w.heap.size w sv L) :
    CallsIn F n Tryz.prog 125 #[.slice none 0 0, .func (.func 106) #[] #[.pointer (some ⟨Bs', 0, none⟩)]] w fun e W' => ∃ v, e = .returned v ∧ W'.ownsRow w.heap.size 9 1 v L.length (strsV L) ∧ Below w.heap.size w W' := by
  have h1 : 1 ≤ n := by omega
  obtain ⟨i0, hi, hz0, hz1, hz2⟩ := info_parts strg_info
  refine callsIn_of_wp_marks Tryz.func125 rfl h3 ?_ hro
  simp only [Tryz.ntmps125, List.size_toArray, List.length_cons, List.length_nil, Nat.reduceAdd, Nat.reduceSub, Array.replicate_succ, Array.replicate_zero, List.push_toArray, List.append_toArray, List.nil_append, List.cons_append]
  gi_wp2
  have bO := Boxed.new w 30 (.slice none 0 0)
  have hB0 : Below w.heap.size w (w.alloc (.cells #[.slice none 0 0] 30)) := (Below.refl _ w).alloc (Nat.le_refl _) _
  have hc2 : (w.alloc (.cells #[.slice none 0 0] 30)).cell? ⟨Bs', 0, none⟩ = some sv := (hB0.cell (p := ⟨Bs', 0, none⟩) hBs).trans hc
  refine wpIn_rangeFunc_ownG hro h1 (gf := 106) (lb := #[.pointer (some ⟨Bs', 0, none⟩)]) rfl h5 (enters_of Tryz.func106 (by kernel_rfl) rfl)
    (vals_stops F (n - 1) h5 hro (by omega) Bs' w.heap.size sv L hlen _ (by simp; omega) (by simp) hc2 (hI.below hB0)) belowK_t (belowK_b (by simp)) (Below.refl _ _) (fun _ => rfl)
    (fun pre W => (∃ v, Boxed W w.heap.size 30 v ∧ W.ownsRow w.heap.size 9 1 v pre.length (strsV pre) ∧ True) ∧ Below w.heap.size w W)
    (fun _ _ _ => False)
    (OwnFrom.and (Own.from (holdsRow_own w.heap.size w.heap.size 30 9 1 (fun pre => pre.length) (fun pre => strsV pre) (fun pre v => True)) _) (ownFrom_below (Nat.le_refl _) (by simp)))
    (fun _ _ _ _ _ hs _ _ => hs)
    ⟨⟨_, bO, World.ownsRow_nil _ _ _ _, trivial⟩, hB0⟩
    (fun x => { tmps := #[.slice none 0 0, .func (.func 106) #[] #[.pointer (some ⟨Bs', 0, none⟩)], .pointer (some ⟨w.heap.size, 0, none⟩), undef, .slice none 0 0, .string (str x), .func (.func 106) #[] #[.pointer (some ⟨Bs', 0, none⟩)], .string (str x), undef, undef, undef, undef, undef], defers := [] }) ?assign ?body ?done ?stop
  case assign =>
    intro l x W K hK
    gi_wp2
    exact hK
  case body =>
    rintro l pre x W ⟨⟨v, hv, hrow, -⟩, hB⟩ hlt
    have hc := hv.cell
    gi_wp2_with (gi_at_builtin; refine wpListIn_append_own _ rfl _ _ 30 rfl w.heap.size 9 i0 (.string ⟨#[]⟩) 1 16 Tryz.underlying30 hi hz0 hz1 hz2 rfl (by decide) _ _ _ rfl (hrow.alloc _) ⟨W.heap.size, 0, none⟩ 1 1 [.string (str x)] rfl rfl (cell_one_new _ _ _) (by simp [Value.oneCell']) (by simp only [maxLen]; omega) (by omega) (by have := hB.size; simp; omega) ?_; intro v' w1 hown' hgrow _; obtain ⟨g', cap', rfl⟩ := ownsRow_succ hown'; obtain ⟨hv1, hv2, hr2, hk2, hb2⟩ := hv.appended (by decide) hrow hB.size (Nat.le_refl _) hown' hgrow; have hc1 := hv1.cell; have hf1 := hv1.frozen)
    exact ⟨hk2.from _, hb2, ⟨_, hv2, by rw [strsV_append, List.length_append]; exact hr2, trivial⟩, hB.trans hb2⟩
  case done =>
    rintro D ys W hD rfl ⟨⟨v, hv, hrow, -⟩, hB⟩ hK
    have hc := hv.cell
    gi_wp2
    refine ⟨by simp, .inl ⟨_, _, rfl, run_takeDeferred hK, ?_⟩⟩
    exact ⟨_, results_tmp rfl _ _ _, v, rfl, ownsRow_putObj hrow _ hK rfl, hB.trans (belowK_b (w := w) (Nat.le_refl _) W D _ _ (by simp at hD; omega) hK rfl rfl)⟩
  case stop =>
    rintro D c pre W _ _ h _
    exact h.elim
theorem sliceAt_of {w : World} {B n : Nat} {A : Option Addr} {L : List Bs} (h : Reads w B 1 A n (strsV L)) (c : Nat) : SliceAt B w (.slice A n c) L := by
  have hl := args_len h
  rcases Nat.eq_zero_or_pos n with h0 | h0
  · subst h0
    exact .inl ⟨A, c, rfl, List.eq_nil_of_length_eq_zero hl.symm⟩
  · obtain ⟨b, off, rfl, hb, hc⟩ := h.at1 h0
    refine .inr ⟨b, off, c, by rw [hl], hb, fun j hj => ?_⟩
    rw [hc j (by omega)]
    simp [strsV, hj]
theorem vals_any (A : Option Addr) (n c : Nat) (w : World) : Calls Tryz.prog 78 #[.slice A n c] w fun e w' => e = .returned (.func (.func 106) #[] #[.pointer (some ⟨w.heap.size, 0, none⟩)]) ∧ w' = w.alloc (.cells #[.slice A n c] 30) := by
  go_enter Tryz.func78, Tryz.ntmps78
  go_wp2_with fail
  go_ret
  exact ⟨rfl, rfl⟩
theorem gather_any (Bs' : Nat) (sv : Value) (L : List Bs) (hlen : L.length ≤ 1000000) (w : World) (hBs : Bs' < w.heap.size) (hc : w.cell? ⟨Bs', 0, none⟩ = some sv) (hI : SliceAt w.heap.size w sv L) :
    Calls Tryz.prog 125 #[.slice none 0 0, .func (.func 106) #[] #[.pointer (some ⟨Bs', 0, none⟩)]] w fun e W' => ∃ v, e = .returned v ∧ W'.ownsRow w.heap.size 9 1 v L.length (strsV L) ∧ Below w.heap.size w W' :=
  callsIn_wide.1 (gather_in Fence.wide 3 trivial trivial rfl (by omega) Bs' sv L hlen w hBs hc hI)
set_option maxHeartbeats 4000000 in
set_option maxRecDepth 100000 in
theorem sorted_any (Bs' : Nat) (sv : Value) (L : List Bs) (hlen : L.length ≤ 1000000) (w : World) (hBs : Bs' < w.heap.size) (hc : w.cell? ⟨Bs', 0, none⟩ = some sv) (hI : SliceAt w.heap.size w sv L) :
    Calls Tryz.prog 77 #[.func (.func 106) #[] #[.pointer (some ⟨Bs', 0, none⟩)]] w fun e w' => ∃ A c, e = .returned (.slice A L.length c) ∧ w'.ownsRow w.heap.size 9 1 (.slice A L.length c) L.length (strsV (sortS L)) ∧ Ext w w' := by
  have HG := hide (gather_any Bs' sv L hlen w hBs hc hI)
  have HC := hide (show Calls Tryz.prog 105 #[.func (.func 106) #[] #[.pointer (some ⟨Bs', 0, none⟩)]] w fun e w' => ∃ A c, e = .returned (.slice A L.length c) ∧ w'.ownsRow w.heap.size 9 1 (.slice A L.length c) L.length (strsV L) ∧ Ext w w' from by
    clear hc hI hBs
    go_enter Tryz.func105, Tryz.ntmps105
    go_wp2_with fail
    refine HG.out.mono ?_
    rintro e w1 ⟨v, rfl, ho, hb⟩
    obtain ⟨A, c, rfl, -⟩ := own_form ho
    have HO := hide ho
    have HX := hide (Ext.of hb)
    clear ho hb
    go_wp2_with fail
    go_ret
    exact ⟨A, c, rfl, HO.out, HX.out⟩)
  clear hc hI hBs HG
  go_enter Tryz.func77, Tryz.ntmps77
  go_wp2_with fail
  refine HC.out.mono ?_
  rintro e w1 ⟨A, c, rfl, ho, hx⟩
  have HO := hide ho
  have HX := hide hx
  clear ho hx
  go_wp2_with fail
  refine (ssort_own A L.length c _ L w w1 HO.out HX.out (Nat.le_refl _) hlen).mono ?_
  rintro e w2 ⟨rfl, ho2, hx2⟩
  have HO2 := hide ho2
  have HX2 := hide hx2
  clear ho2 hx2
  go_wp2_with fail
  go_ret
  exact ⟨A, c, rfl, HO2.out, HX2.out⟩
set_option maxHeartbeats 4000000 in
set_option maxRecDepth 100000 in
theorem pick_sort : PickAt [115, 111, 114, 116] [] sortS := by
  intro L w A n c B A' m c' B' hL hra hB hrl hB' hmc hm _
  have hml : L.length = m := (args_len hrl).symm
  have HML := hide hml
  have HRL := hide hrl
  obtain rfl := args_len hra
  clear hL hrl hra
  show Calls _ _ #[.string ⟨#[115, 111, 114, 116]⟩, .slice A 0 c, .slice A' m c'] w _
  have HX1 := hide ((Ext.refl w).alloc (.cells #[.slice A 0 c] 30))
  go_enter Tryz.func45, Tryz.ntmps45
  go_wp2_with fail
  refine (vals_any A' m c' _).mono ?_
  rintro e w2 ⟨rfl, hw2⟩
  have HX2 := hide (show Ext w w2 from by rw [hw2]; exact HX1.out.alloc _)
  have HB2 := hide (show Blk w2 (w.alloc (.cells #[.slice A 0 c] 30)).heap.size 30 #[.slice A' m c'] from by rw [hw2]; exact Blk.new _ _ _)
  clear hw2
  rw [show (w.alloc (.cells #[.slice A 0 c] 30)).heap.size = w.heap.size + 1 by simp] at HB2
  have HS := hide (sorted_any (w.heap.size + 1) (.slice A' m c') L (by omega) w2 HB2.out.lt (HB2.out.cell 0) (sliceAt_of ((HX2.out.reads HRL.out hB').more (Nat.le_trans hB' HX2.out.size)) c'))
  rw [hml] at HS
  have hle := HX2.out.size
  go_wp2_with fail
  refine HS.out.mono ?_
  rintro e w3 ⟨A3, c3, rfl, ho3, hx3⟩
  have HO3 := hide ho3
  have HX3 := hide (HX2.out.trans hx3)
  clear ho3 hx3
  go_wp2_with fail
  go_ret
  exact lsout_own HO3.out HX3.out (by unfold sortS; rw [List.length_mergeSort]; exact HML.out)
end Go.Proofs.YtjmonkacijncbaaGreatDoor
