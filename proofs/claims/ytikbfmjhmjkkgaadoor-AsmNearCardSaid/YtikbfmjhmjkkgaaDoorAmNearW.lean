/- The walk of AsmNear (printed by gen_nearw.py). -/
import Derived.Test.YtikbfmjhmjkkgaaDoorAmNearP
import Derived.Test.YtikbfmjhmjkkgaaDoorAmNeedsW
namespace Go.Proofs.YtikbfmjhmjkkgaaDoor
open Go.RowKit
set_option linter.unusedVariables false

def NrRel (w : World) (a b : Nat) (v5 v17 : Value) (wr : World) : Prop :=
  ∃ (k : Nat) (A5 : Option Addr) (c5 : Nat), k ≤ 31 ∧ v17 = .int .i64 (k : Int) ∧ v5 = .slice A5 k c5 ∧ wr.ownsRow w.heap.size 9 1 (.slice A5 k c5) k (strsV ((List.range k).map (nrLine a b))) ∧ Ext w wr
theorem nr_next (a b k : Nat) : (List.range (k + 1)).map (nrLine a b) = (List.range k).map (nrLine a b) ++ [nrLine a b k] := by rw [List.range_succ, List.map_append]; rfl
theorem i16_wrap (y : Nat) (e : Int) (h : (y : Int) = e % 65536) (h1 : -32768 ≤ e) (h2 : e ≤ 32767) : IntKind.i16.wrap (y : Int) = e := by
  have hw : ∀ n : Int, IntKind.i16.wrap n = (n + 32768) % 65536 - 32768 := by
    intro n
    simp [IntKind.wrap, IntKind.bits, IntKind.signed]
    split <;> omega
  rw [hw]; omega
set_option maxHeartbeats 16000000 in
set_option maxRecDepth 100000 in
theorem near_walk (za zb : Int) (ha : -9223372036854775808 ≤ za ∧ za ≤ 9223372036854775807) (hb : -9223372036854775808 ≤ zb ∧ zb ≤ 9223372036854775807) (w : World) (hL : LibOk w) :
    Calls Tryd.prog 3 #[.int .i64 za, .int .i64 zb] w fun e w' => e = .returned (.bool true) ∧ Ext w w' := by
  obtain ⟨i0, hi0, hz0, hz1, hz2⟩ := info_parts string_info
  obtain ⟨a, hqa⟩ : ∃ a : Nat, restZ za 30 = (a : Int) := Int.eq_ofNat_of_zero_le (restZ_lo za 30 (by omega))
  obtain ⟨b, hqb⟩ : ∃ b : Nat, restZ zb 30 = (b : Int) := Int.eq_ofNat_of_zero_le (restZ_lo zb 30 (by omega))
  have ha30 : a < 30 := by have := restZ_hi za 30 (by omega); omega
  have hb30 : b < 30 := by have := restZ_hi zb 30 (by omega); omega
  have HRA := hide (fun W => rest_any za 30 W ha.1 ha.2 (by omega) (by omega))
  have HRB := hide (fun W => rest_any zb 30 W hb.1 hb.2 (by omega) (by omega))
  rw [hqa] at HRA
  rw [hqb] at HRB
  have HL := hide hL
  clear hqa hqb ha hb hL
  go_enter Tryd.func3, Tryd.ntmps3
  go_wp2_with fail
  refine (HRA.out _).mono ?_
  rintro e w1 ⟨rfl, hw1⟩
  subst hw1
  go_wp2_with fail
  refine (HRB.out _).mono ?_
  rintro e w1 ⟨rfl, hw1⟩
  subst hw1
  go_wp2_with fail
  go_loopw [5, 17] (NrRel w a b) (fun _ v _ => 31 - (intOf v).toNat)
  case atStart => exact ⟨0, none, 0, Nat.zero_le _, rfl, rfl, World.ownsRow_nil _ _ _ _, Ext.refl _⟩
  case round =>
    obtain ⟨k, A5, c5, hk, rfl, rfl, ho, hx⟩ := hrel
    have HO := hide ho
    have HX := hide hx
    clear ho hx
    by_cases hlt : k < 31
    · by_cases ea : k = a
      · by_cases eb : k = b
        · have t1 : ((k : Int) == (a : Int)) = true := by simp; omega
          have t1' : (k == a) = true := by simp; omega
          have t1'' : decide (k = a) = true := decide_eq_true ea
          have t2 : ((k : Int) == (b : Int)) = true := by simp; omega
          have t2'' : decide (k = b) = true := decide_eq_true eb
          have HLN := hide (show nrLine a b k = [104, 101, 114, 101, 58, 32, 106, 117, 109, 112, 32, 104, 101, 114, 101] from by unfold nrLine baseT; rw [if_pos eb, if_pos ea]; rfl)
          have hs0 : ∀ W : World, (Op.stringOp .add (⟨#[104, 101, 114, 101, 58, 32]⟩ : ByteArray) (⟨#[106, 117, 109, 112, 32, 104, 101, 114, 101]⟩ : ByteArray)).run Tryd.prog W = .ok (.string (str [104, 101, 114, 101, 58, 32, 106, 117, 109, 112, 32, 104, 101, 114, 101])) W := fun W => by rw [show str [104, 101, 114, 101, 58, 32, 106, 117, 109, 112, 32, 104, 101, 114, 101] = (⟨#[104, 101, 114, 101, 58, 32]⟩ : ByteArray) ++ (⟨#[106, 117, 109, 112, 32, 104, 101, 114, 101]⟩ : ByteArray) from (str_append [104, 101, 114, 101, 58, 32] [106, 117, 109, 112, 32, 104, 101, 114, 101]).symm]; exact run_string_add_sum W _ _ (by decide)
          have HS1 := hide (Blk.new wr 9 #[.string (str [104, 101, 114, 101, 58, 32, 106, 117, 109, 112, 32, 104, 101, 114, 101])]).reads
          have HXA := hide ((Ext.refl wr).alloc (.cells #[.string (str [104, 101, 114, 101, 58, 32, 106, 117, 109, 112, 32, 104, 101, 114, 101])] 9))
          clear ea eb
          go_wp2_with (at_builtin; refine wpList_append_any _ rfl (.tmp 28) (.tmp 30) 23 rfl w.heap.size 9 i0 _ 1 16 Tryd.underlying23 hi0 hz0 hz1 hz2 rfl (by omega) _ k (strsV ((List.range k).map (nrLine a b))) rfl (HXA.out.own HO.out) _ _ 1 1 [.string (str [104, 101, 114, 101, 58, 32, 106, 117, 109, 112, 32, 104, 101, 114, 101])] rfl HS1.out (by simp [Value.oneCell']) (by simp only [maxLen]; omega) (by omega) (Nat.le_trans HX.out.size HXA.out.size) ?_; intro A6 c6 w6 ho6 hg6 ha6; have HO6 := hide ho6; have HX6 := hide ((HX.out.trans HXA.out).grown hg6 (fun j hj => ((HXA.out.own HO.out).lt j hj).1)); clear ho6 hg6 ha6)
          go_roundw
          case rel => exact ⟨k + 1, A6, c6, by omega, by go_num, rfl, by rw [nr_next, strsV_app, HLN.out]; exact HO6.out, HX6.out⟩
          case measure => simp [intOf]; omega
        · have t1 : ((k : Int) == (a : Int)) = true := by simp; omega
          have t1' : (k == a) = true := by simp; omega
          have t1'' : decide (k = a) = true := decide_eq_true ea
          have t2 : ((k : Int) == (b : Int)) = false := by simp; omega
          have t2'' : decide (k = b) = false := decide_eq_false eb
          have HLN := hide (show nrLine a b k = [106, 117, 109, 112, 32, 104, 101, 114, 101] from by unfold nrLine baseT; rw [if_neg eb, if_pos ea]; rfl)
          have HS1 := hide (Blk.new wr 9 #[.string ⟨#[106, 117, 109, 112, 32, 104, 101, 114, 101]⟩]).reads
          have HXA := hide ((Ext.refl wr).alloc (.cells #[.string ⟨#[106, 117, 109, 112, 32, 104, 101, 114, 101]⟩] 9))
          clear ea eb
          go_wp2_with (at_builtin; refine wpList_append_any _ rfl (.tmp 28) (.tmp 30) 23 rfl w.heap.size 9 i0 _ 1 16 Tryd.underlying23 hi0 hz0 hz1 hz2 rfl (by omega) _ k (strsV ((List.range k).map (nrLine a b))) rfl (HXA.out.own HO.out) _ _ 1 1 [.string ⟨#[106, 117, 109, 112, 32, 104, 101, 114, 101]⟩] rfl HS1.out (by simp [Value.oneCell']) (by simp only [maxLen]; omega) (by omega) (Nat.le_trans HX.out.size HXA.out.size) ?_; intro A6 c6 w6 ho6 hg6 ha6; have HO6 := hide ho6; have HX6 := hide ((HX.out.trans HXA.out).grown hg6 (fun j hj => ((HXA.out.own HO.out).lt j hj).1)); clear ho6 hg6 ha6)
          go_roundw
          case rel => exact ⟨k + 1, A6, c6, by omega, by go_num, rfl, by rw [nr_next, strsV_app, HLN.out]; exact HO6.out, HX6.out⟩
          case measure => simp [intOf]; omega
      · by_cases eb : k = b
        · have t1 : ((k : Int) == (a : Int)) = false := by simp; omega
          have t1' : (k == a) = false := by simp; omega
          have t1'' : decide (k = a) = false := decide_eq_false ea
          have t2 : ((k : Int) == (b : Int)) = true := by simp; omega
          have t2'' : decide (k = b) = true := decide_eq_true eb
          have HLN := hide (show nrLine a b k = [104, 101, 114, 101, 58, 32, 97, 100, 100, 32, 114, 49, 32, 114, 50] from by unfold nrLine baseT; rw [if_pos eb, if_neg ea]; rfl)
          have hs0 : ∀ W : World, (Op.stringOp .add (⟨#[104, 101, 114, 101, 58, 32]⟩ : ByteArray) (⟨#[97, 100, 100, 32, 114, 49, 32, 114, 50]⟩ : ByteArray)).run Tryd.prog W = .ok (.string (str [104, 101, 114, 101, 58, 32, 97, 100, 100, 32, 114, 49, 32, 114, 50])) W := fun W => by rw [show str [104, 101, 114, 101, 58, 32, 97, 100, 100, 32, 114, 49, 32, 114, 50] = (⟨#[104, 101, 114, 101, 58, 32]⟩ : ByteArray) ++ (⟨#[97, 100, 100, 32, 114, 49, 32, 114, 50]⟩ : ByteArray) from (str_append [104, 101, 114, 101, 58, 32] [97, 100, 100, 32, 114, 49, 32, 114, 50]).symm]; exact run_string_add_sum W _ _ (by decide)
          have HS1 := hide (Blk.new wr 9 #[.string (str [104, 101, 114, 101, 58, 32, 97, 100, 100, 32, 114, 49, 32, 114, 50])]).reads
          have HXA := hide ((Ext.refl wr).alloc (.cells #[.string (str [104, 101, 114, 101, 58, 32, 97, 100, 100, 32, 114, 49, 32, 114, 50])] 9))
          clear ea eb
          go_wp2_with (at_builtin; refine wpList_append_any _ rfl (.tmp 28) (.tmp 30) 23 rfl w.heap.size 9 i0 _ 1 16 Tryd.underlying23 hi0 hz0 hz1 hz2 rfl (by omega) _ k (strsV ((List.range k).map (nrLine a b))) rfl (HXA.out.own HO.out) _ _ 1 1 [.string (str [104, 101, 114, 101, 58, 32, 97, 100, 100, 32, 114, 49, 32, 114, 50])] rfl HS1.out (by simp [Value.oneCell']) (by simp only [maxLen]; omega) (by omega) (Nat.le_trans HX.out.size HXA.out.size) ?_; intro A6 c6 w6 ho6 hg6 ha6; have HO6 := hide ho6; have HX6 := hide ((HX.out.trans HXA.out).grown hg6 (fun j hj => ((HXA.out.own HO.out).lt j hj).1)); clear ho6 hg6 ha6)
          go_roundw
          case rel => exact ⟨k + 1, A6, c6, by omega, by go_num, rfl, by rw [nr_next, strsV_app, HLN.out]; exact HO6.out, HX6.out⟩
          case measure => simp [intOf]; omega
        · have t1 : ((k : Int) == (a : Int)) = false := by simp; omega
          have t1' : (k == a) = false := by simp; omega
          have t1'' : decide (k = a) = false := decide_eq_false ea
          have t2 : ((k : Int) == (b : Int)) = false := by simp; omega
          have t2'' : decide (k = b) = false := decide_eq_false eb
          have HLN := hide (show nrLine a b k = [97, 100, 100, 32, 114, 49, 32, 114, 50] from by unfold nrLine baseT; rw [if_neg eb, if_neg ea]; rfl)
          have HS1 := hide (Blk.new wr 9 #[.string ⟨#[97, 100, 100, 32, 114, 49, 32, 114, 50]⟩]).reads
          have HXA := hide ((Ext.refl wr).alloc (.cells #[.string ⟨#[97, 100, 100, 32, 114, 49, 32, 114, 50]⟩] 9))
          clear ea eb
          go_wp2_with (at_builtin; refine wpList_append_any _ rfl (.tmp 28) (.tmp 30) 23 rfl w.heap.size 9 i0 _ 1 16 Tryd.underlying23 hi0 hz0 hz1 hz2 rfl (by omega) _ k (strsV ((List.range k).map (nrLine a b))) rfl (HXA.out.own HO.out) _ _ 1 1 [.string ⟨#[97, 100, 100, 32, 114, 49, 32, 114, 50]⟩] rfl HS1.out (by simp [Value.oneCell']) (by simp only [maxLen]; omega) (by omega) (Nat.le_trans HX.out.size HXA.out.size) ?_; intro A6 c6 w6 ho6 hg6 ha6; have HO6 := hide ho6; have HX6 := hide ((HX.out.trans HXA.out).grown hg6 (fun j hj => ((HXA.out.own HO.out).lt j hj).1)); clear ho6 hg6 ha6)
          go_roundw
          case rel => exact ⟨k + 1, A6, c6, by omega, by go_num, rfl, by rw [nr_next, strsV_app, HLN.out]; exact HO6.out, HX6.out⟩
          case measure => simp [intOf]; omega
    · obtain rfl : k = 31 := by omega
      have HTL := hide (nrText_len a b)
      have HRD := hide (nr_read a b ha30 hb30)
      obtain ⟨x, hx1, hx2, hx3, hx4, hx5⟩ := place_facts a b ha30 hb30
      have HCA := hide (show (nrCode a b)[a]? = some x from by rw [nrCode_at a b ha30, hx1])
      have HPL := hide (fun W => place_any x (4 * a) (4 * b) W hx2 (by omega) (by omega))
      rw [hx3, show placeE (4 * a) (4 * b) = 0 from by unfold placeE; rw [if_pos (by omega)]] at HPL
      have HJ := hide (join_any ((List.range 31).map (nrLine a b)) A5 31 c5 wr.heap.size wr (Reads.of_own HO.out) (Nat.le_refl _) (by simp) (by obtain ⟨A', c', hv, hnc, -, -⟩ := own_form HO.out; injection hv with hA _ hc; omega) (by omega) (Nat.le_trans HTL.out (by decide)) (by omega))
      have HTX := hide (show Lib.join ((List.range 31).map (nrLine a b)) [10] = nrText a b from rfl)
      rw [HTX.out] at HJ
      obtain ⟨d, hd⟩ : ∃ d : Int, (b : Int) - a = d := ⟨_, rfl⟩
      obtain ⟨e4, he4⟩ : ∃ e : Int, 4 * d = e := ⟨_, rfl⟩
      obtain ⟨y, hy⟩ : ∃ y : Nat, x % 65536 = y := ⟨_, rfl⟩
      obtain ⟨pa, hpa⟩ : ∃ p : Nat, 4 * a = p := ⟨_, rfl⟩
      obtain ⟨pb, hpb⟩ : ∃ p : Nat, 4 * b = p := ⟨_, rfl⟩
      have f1 : bits BinOp.and IntKind.u32 (x : Int) 65535 = (y : Int) := by rw [and16 _ (by omega) (by omega)]; omega
      have f2 : IntKind.i16.wrap (y : Int) = e4 := i16_wrap y e4 (by rw [← hy, hx5, hd, he4]) (by omega) (by omega)
      have f2b : wrap64 e4 = e4 := by unfold wrap64; omega
      have f3 : IntKind.i64.wrap ((b : Int) - (a : Int)) = d := by rw [hd, IntKind.wrap_i64]; omega
      have f3' : wrap64 ((b : Int) - (a : Int)) = d := by rw [hd]; unfold wrap64; omega
      have f4 : IntKind.i64.wrap (4 * d) = e4 := by rw [he4, IntKind.wrap_i64]; omega
      have f4' : wrap64 (4 * d) = e4 := by rw [he4]; unfold wrap64; omega
      have f5 : (x : Int) / 16777216 = 19 := by omega
      have f6 : IntKind.i64.wrap (4 * (a : Int)) = (pa : Int) := by rw [IntKind.wrap_i64]; omega
      have f7 : IntKind.i64.wrap (4 * (b : Int)) = (pb : Int) := by rw [IntKind.wrap_i64]; omega
      rw [hpa, hpb] at HPL
      have hai : (a : Int) < 31 := by omega
      have hai0 : (0 : Int) ≤ (a : Int) := by omega
      have HF := hide (show True from trivial)
      clear hx1 hx2 hx3 hx4 hx5 hd he4 hy hpa hpb hlt
      go_wp2_with fail
      refine HJ.out.mono ?_
      rintro e w1 ⟨rfl, hx1⟩
      have HX1 := hide (HX.out.trans hx1)
      have HRE := hide (read_any (nrText a b) w1 HTL.out (HL.out.ext HX1.out))
      rw [HRD.out.1] at HRE
      clear hx1
      go_wp2_with fail
      refine HRE.out.mono ?_
      rintro e w2 ⟨B1, d1, B2, d2, B3, d3, rfl, hr1, hr2, hr3, hx2⟩
      rw [HRD.out.2] at hr1 hr2 hr3
      rw [HRD.out.2]
      dsimp only at hr1 hr2 hr3 ⊢
      rw [nrCode_len] at hr1 ⊢
      have HX2 := hide (HX1.out.trans hx2)
      obtain ⟨g1, rfl, hg1⟩ := own_addrA hr1 (by omega)
      have hcc := own_cell hr1 a (u := .int .u32 (x : Int)) (by rw [u32V, List.getElem?_map, HCA.out]; rfl)
      have HCC := hide hcc.1
      clear hr1 hr2 hr3 hx2 hcc hg1
      go_upto_region 14 with fail
      have HB3 := hide (Blk.new w2 unT #[.slice (some ⟨g1, 0, none⟩) 31 d1, .slice B2 1 d2, .slice B3 0 d3])
      have HXA := hide ((Ext.refl w2).alloc (.cells #[.slice (some ⟨g1, 0, none⟩) 31 d1, .slice B2 1 d2, .slice B3 0 d3] unT))
      generalize w2.alloc (.cells #[.slice (some ⟨g1, 0, none⟩) 31 d1, .slice B2 1 d2, .slice B3 0 d3] unT) = w3 at *
      obtain ⟨g3, hg3⟩ : ∃ x, w2.heap.size = x := ⟨_, rfl⟩
      rw [hg3] at HB3
      try rw [hg3]
      have HXF := hide (HX2.out.trans HXA.out)
      have y0 := HB3.out.cell 0
      have y2 := HB3.out.cell 2
      have yc := HXA.out.cell HCC.out
      clear hg3
      go_wp2_with fail
      refine (HPL.out _).mono ?_
      rintro e w4 ⟨rfl, hw4⟩
      subst hw4
      go_wp2_with fail
      go_ret
      exact ⟨by simp, HXF.out⟩
end Go.Proofs.YtikbfmjhmjkkgaaDoor

