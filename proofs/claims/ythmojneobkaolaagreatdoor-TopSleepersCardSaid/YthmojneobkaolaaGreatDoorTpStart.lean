/- kernel.Start on an empty file system. -/
import Derived.Test.YthmojneobkaolaaGreatDoorTpBootD
import Derived.Test.YthmojneobkaolaaGreatDoorTpAskAll
import Derived.Great.BuildSlice
namespace Go.Proofs.YthmojneobkaolaaGreatDoor
open Go.RowKit
set_option linter.unusedVariables false

set_option maxHeartbeats 8000000 in
set_option maxRecDepth 100000 in
theorem radd_first {b : Nat} {w : World} {hr : Nat} (h : RunN b w hr 0) (hbw : b ≤ w.heap.size) :
    Calls Tryz.prog 35 #[.pointer (some ⟨hr, 0, none⟩), .int .i64 1, .int .i64 1, .int .i64 10] w fun e w' => e = .returned (.int .i64 0) ∧ RunN b w' hr 1 ∧ KeepL b [114, 118] [] [] w w' := by
  obtain ⟨A, cp, tick, stamp, xs, h⟩ := h
  have hf := findA_any h (by omega) ((1 : Nat) : Int)
  have hv := value_ok
  have he := enter_any h (by omega) hbw ((1 : Nat) : Int)
  rw [show ((1 : Nat) : Int) = 1 from rfl] at hf he
  have HF := hide hf
  have HV := hide hv
  have HE := hide he
  clear h hf hv he
  go_enter Tryz.func35, Tryz.ntmps35
  go_wp2_with fail
  refine (HV.out w).mono ?_
  rintro e w1 ⟨rfl, rfl⟩
  go_wp2_with fail
  refine HF.out.mono ?_
  rintro e w1 ⟨⟨v, rfl, hv⟩, rfl⟩
  rcases hv with rfl | ⟨h0, a, rfl⟩
  · go_wp2_with fail
    refine HE.out.mono ?_
    rintro e w1 ⟨rfl, g, cp', ⟨tk, st, ys, hm⟩, hk⟩
    have HM := hide hm.any
    have HK := hide hk
    clear hm hk HE HF
    go_wp2_with fail
    go_ret
    exact ⟨rfl, ⟨_, _, _, _, _, HM.out⟩, HK.out⟩
  · omega
/-- A task that is none. -/
def taskZ : List Value := [.int .i64 0, .int .u32 0, .int .u32 0, .int .u32 0, .int .u32 0, .int .u32 0, .int .u32 0, .int .u32 0, .int .u32 0, .int .u32 0, .int .i64 0, .int .i64 0, .int .i64 0, .slice none 0 0, .int .i64 0, .int .i64 0, .int .i64 0, .slice none 0 0, .slice none 0 0] ++ (sigL 0 0 ++ [.bool false])
theorem taskZ_len : taskZ.length = 38 := rfl
def kerF (hq hw ho hp : Nat) (o : Nat) : Value :=
  if o = 0 then .int .i64 1 else if o = 1 then .pointer none else if o = 2 then .pointer none else if o = 3 then pV hq else if o = 4 then .pointer none else if o = 5 then pV hw else if o = 6 then pV ho else if o = 7 then pV hp
  else if o = 654 then .int .u32 0 else (taskZ[(o - 8) % 38]?).getD (.bool false)
def kerL (hq hw ho hp : Nat) : List Value := (List.range 655).map (kerF hq hw ho hp)
theorem kerL_arr {w : World} {g hq hw ho hp : Nat} (h : Blk w g 68 (kerL hq hw ho hp).toArray) : Arr w g 68 655 (kerF hq hw ho hp) :=
  ⟨_, h, by simp [kerL], fun o ho => by simp [kerL, ho]⟩
theorem cred6_size : (Tryz.prog.info? 52).map (·.size) = some 6 := by kernel_rfl
theorem KAt.base {b b' : Nat} {w : World} {H : Hn} {s : KSt} (h : KAt b w H s) (hb : b' ≤ b) : KAt b' w H s := by
  obtain ⟨T, h1, h2, h3, h4⟩ := h.ker
  obtain ⟨f, h5⟩ := h.space
  obtain ⟨m, h6, h7, A, cp, tick, stamp, xs, h8⟩ := h.run
  obtain ⟨A', n', cp', h9⟩ := h.wheel
  exact ⟨⟨T, h1, h2, own_mono h3 hb, h4⟩, h.proc, h.opn, ⟨f, h5.box, by have := h5.ge; omega, by have := h5.gem; omega, h5.map, h5.inner, h5.full⟩, ⟨m, h6, h7, A, cp, tick, stamp, xs, h8.box, by have := h8.ge; omega, own_mono h8.row hb, h8.kind⟩, ⟨A', n', cp', h9.box, by have := h9.ge; omega, own_mono h9.row hb, h9.small, h9.nows⟩, ⟨by have := h.ge.1; omega, by have := h.ge.2.1; omega, by have := h.ge.2.2; omega⟩, by have := h.bw; omega⟩
/-- While the kernel starts. -/
structure StK (w0 W : World) (hk hw ho hp : Nat) (F : Nat → Value) : Prop where
  arr : Arr W hk 68 655 F
  x : Ext w0 W
  wh : Blk W hw 108 #[.int .u32 0, .slice none 0 0]
  op : OpenAt W ho
  pr : ProcAt W hp 1
  ge : w0.heap.size ≤ hk ∧ w0.heap.size ≤ hw ∧ w0.heap.size ≤ ho ∧ w0.heap.size ≤ hp
section
variable {w0 W W' : World} {hk hw ho hp : Nat} {F : Nat → Value}
theorem StK.keep {L : List TypeId} {M : List Nat} (h : StK w0 W hk hw ho hp F) (k : KeepL w0.heap.size L [] M W W') (h1 : 68 ∉ L) (h2 : 108 ∉ L) (h3 : 180 ∉ L) (h4 : 185 ∉ L) : StK w0 W' hk hw ho hp F := by
  obtain ⟨cs, hb, hs, hc⟩ := h.arr
  exact ⟨⟨cs, k.blk hb h1 (by simp), hs, hc⟩, k.ext h.x (Nat.le_refl _), k.blk h.wh h2 (by simp), h.op.keep k h3 rfl, h.pr.keep k h4 rfl, h.ge⟩
theorem StK.ext (h : StK w0 W hk hw ho hp F) (k : Ext W W') : StK w0 W' hk hw ho hp F := h.keep (KeepL.of k _ [] [] []) (by simp) (by simp) (by simp) (by simp)
theorem StK.kset (h : StK w0 W hk hw ho hp F) (i : Nat) (v : Value) : KeepL w0.heap.size [68] [] [] W (W.setCell ⟨hk, i, none⟩ v) := by
  obtain ⟨cs, hb, hs, hc⟩ := h.arr
  exact KeepL.set hb (.inl (by simp)) h.ge.1 _ _
theorem StK.set (h : StK w0 W hk hw ho hp F) (i : Nat) (hi : i < 655) (v : Value) : StK w0 (W.setCell ⟨hk, i, none⟩ v) hk hw ho hp (updN F i v) := by
  have k := h.kset i v
  exact ⟨h.arr.set i hi v, k.ext h.x (Nat.le_refl _), k.blk h.wh (by decide) (by simp), h.op.keep k (by decide) rfl, h.pr.keep k (by decide) rfl, h.ge⟩
theorem StK.ksets (h : StK w0 W hk hw ho hp F) (o : Nat) (vs : List Value) : KeepL w0.heap.size [68] [] [] W (W.setCells hk o vs) := by
  obtain ⟨cs, hb, hs, hc⟩ := h.arr
  exact KeepL.row hb (.inl (by simp)) h.ge.1 (setCells_grown _ _ _ _)
theorem StK.sets (h : StK w0 W hk hw ho hp F) (o : Nat) (vs : List Value) (ho' : o + vs.length ≤ 655) : StK w0 (W.setCells hk o vs) hk hw ho hp (fun i => if o ≤ i ∧ i < o + vs.length then (vs[i - o]?).getD (.bool false) else F i) := by
  have k := h.ksets o vs
  obtain ⟨cs, hb, hs, hc⟩ := h.arr
  refine ⟨⟨_, hb.setCells vs o, by rw [arrSet_size]; exact hs, fun i hi => ?_⟩, k.ext h.x (Nat.le_refl _), k.blk h.wh (by decide) (by simp), h.op.keep k (by decide) rfl, h.pr.keep k (by decide) rfl, h.ge⟩
  rw [arrSet_get _ _ _ (by omega)]
  dsimp only
  split
  · rw [List.getElem?_eq_getElem (by omega)]
    rfl
  · exact hc i hi
end
section
variable {b : Nat} {w : World} {hd rs rn : Nat} {wv : Value} {nw : Nat} {S : Nat → Bt} {nd : Nat → Nat} {hs : Nat → Int}
set_option maxHeartbeats 400000 in
set_option maxRecDepth 100000 in
theorem start_ok (h : DiskAt b w hd rs rn wv nw S) (hB : Boot S nd hs) :
    Calls Tryz.prog 10 #[.int .i64 1, .int .i64 64, .int .i64 64, .pointer (some ⟨hd, 0, none⟩)] w fun e w' => ∃ H, e = .returned (.tuple #[pV H.hk, .int .i64 0]) ∧ KAt w.heap.size w' H ks0 ∧ Ext w w' := by
  have HD := hide h
  have HBT := hide hB
  clear h hB
  go_enter Tryz.func10, Tryz.ntmps10
  go_wp2_with fail
  refine (pipenew_ok _).mono ?_
  rintro e w1 ⟨hq, rfl, hgq, hx1⟩
  have HX1 := hide hx1
  clear hgq hx1
  go_wp2_with fail
  refine (wheelnew_ok _).mono ?_
  rintro e w2 ⟨hw, rfl, hbw2, hgw2, hx2⟩
  have HX2 := hide (HX1.out.trans hx2)
  have HW2 := hide hbw2
  have HGW := hide (show w.heap.size ≤ hw from Nat.le_trans HX1.out.size hgw2)
  clear hbw2 hgw2 hx2 HX1
  go_wp2_with fail
  refine (opennew_ok _).mono ?_
  rintro e w3 ⟨ho, rfl, hop3, hgo3, hx3⟩
  have HX3 := hide (HX2.out.trans hx3)
  have HW3 := hide (HW2.out.ext hx3)
  have HO3 := hide hop3
  have HGO := hide (show w.heap.size ≤ ho from Nat.le_trans HX2.out.size hgo3)
  clear hop3 hgo3 hx3 HX2 HW2
  go_wp2_with fail
  refine (procnew_ok _).mono ?_
  rintro e w4 ⟨hp, rfl, hpa4, hgp4, hx4⟩
  have HX4 := hide (HX3.out.trans hx4)
  have HW4 := hide (HW3.out.ext hx4)
  have HO4 := hide (HO3.out.keep (KeepL.of hx4 w.heap.size [] [] []) (by simp) rfl)
  have HP4 := hide hpa4
  have HGP := hide (show w.heap.size ≤ hp from Nat.le_trans HX3.out.size hgp4)
  clear hpa4 hgp4 hx4 HX3 HW3 HO3
  go_upto_region 2 with (refine wpList_buildTo rfl _ _ rfl _ rfl (kerL hq hw ho hp).toArray (by kernel_rfl) ?_)
  have hxk := (Ext.refl w4).alloc (.cells (kerL hq hw ho hp).toArray 68)
  have HK := hide (show StK w (w4.alloc (.cells (kerL hq hw ho hp).toArray 68)) w4.heap.size hw ho hp (kerF hq hw ho hp) from ⟨kerL_arr (Blk.new w4 _ _), HX4.out.trans hxk, HW4.out.ext hxk, HO4.out.keep (KeepL.of hxk w.heap.size [] [] []) (by simp) rfl, HP4.out.keep (KeepL.of hxk w.heap.size [] [] []) (by simp) rfl, ⟨HX4.out.size, HGW.out, HGO.out, HGP.out⟩⟩)
  obtain ⟨hk, hhk⟩ : ∃ hk, w4.heap.size = hk := ⟨_, rfl⟩
  rw [hhk] at HK ⊢
  clear hhk hxk HX4 HW4 HO4 HP4 HGW HGO HGP
  change Code.wp _ _ _ _ (w4.alloc (.cells (kerL hq hw ho hp).toArray 68))
  generalize w4.alloc _ = W at *
  go_wp2_with fail
  refine (runnew_ok _).mono ?_
  rintro e w5 ⟨hr, rfl, hgr, hrn, hx5⟩
  have HRN := hide (hrn w.heap.size (Nat.le_trans HK.out.x.size hgr))
  have HK5 := hide (HK.out.ext hx5)
  clear hgr hrn hx5 HK
  have c4 : w5.cell? ⟨hk, 4, none⟩ = some (.pointer none) := HK5.out.arr.cell 4 (by omega)
  have f4 := HK5.out.arr.frozen 4
  have HK6 := hide (HK5.out.set 4 (by omega) (pV hr))
  have HRN6 := hide (HRN.out.keep (HK5.out.kset 4 (pV hr)) (by decide) (by decide) rfl)
  go_upto_region 4 with fail
  change Code.wp _ _ _ _ (w5.setCell ⟨hk, 4, none⟩ (pV hr))
  clear c4 f4 HK5 HRN
  generalize w5.setCell _ _ = W6 at *
  go_wp2_with fail
  refine (spacenew_ok _).mono ?_
  rintro e w7 ⟨hm, bm, rfl, hgm, hgb, hsp, hx7⟩
  have HSP := hide (hsp w.heap.size HK6.out.x.size)
  have HK7 := hide (HK6.out.ext hx7)
  have HRN7 := hide (HRN6.out.keep (KeepL.of hx7 w.heap.size [] [] []) (by simp) (by simp) rfl)
  clear hgm hgb hsp hx7 HK6 HRN6
  have c1 : w7.cell? ⟨hk, 1, none⟩ = some (.pointer none) := HK7.out.arr.cell 1 (by omega)
  have f1 := HK7.out.arr.frozen 1
  have HK8 := hide (HK7.out.set 1 (by omega) (pV hm))
  have HRN8 := hide (HRN7.out.keep (HK7.out.kset 1 (pV hm)) (by decide) (by decide) rfl)
  have HSP8 := hide (HSP.out.keep (HK7.out.kset 1 (pV hm)) (by decide) (by simp))
  go_upto_region 7 with fail
  change Code.wp _ _ _ _ (w7.setCell ⟨hk, 1, none⟩ (pV hm))
  clear c1 f1 HK7 HRN7 HSP
  generalize w7.setCell _ _ = W8 at *
  go_wp2_with fail
  refine (mount_ok (HD.out.ext HK8.out.x) HBT.out).mono ?_
  rintro e w9 ⟨⟨hf, hl, tm, rfl, hfs⟩, hx9⟩
  have HK9 := hide (HK8.out.ext hx9)
  have HRN9 := hide (HRN8.out.keep (KeepL.of hx9 w.heap.size [] [] []) (by simp) (by simp) rfl)
  have HSP9 := hide (HSP8.out.ext hx9)
  clear hfs hx9 HK8 HRN8 HSP8
  have c2 : w9.cell? ⟨hk, 2, none⟩ = some (.pointer none) := HK9.out.arr.cell 2 (by omega)
  have f2 := HK9.out.arr.frozen 2
  have HK10 := hide (HK9.out.set 2 (by omega) (pV hf))
  have HRN10 := hide (HRN9.out.keep (HK9.out.kset 2 (pV hf)) (by decide) (by decide) rfl)
  have HSP10 := hide (HSP9.out.keep (HK9.out.kset 2 (pV hf)) (by decide) (by simp))
  go_upto_region 10 with fail
  change Code.wp _ _ _ _ (w9.setCell ⟨hk, 2, none⟩ (pV hf))
  clear c2 f2 HK9 HRN9 HSP9
  generalize w9.setCell _ _ = W10 at *
  have c1 : W10.cell? ⟨hk, 1, none⟩ = some (pV hm) := HK10.out.arr.cell 1 (by omega)
  have HMK := hide (spacemake_ok HSP10.out (by omega))
  go_wp2_with fail
  refine HMK.out.mono ?_
  rintro e w11 ⟨rfl, hsp11, hk11⟩
  rw [show ((0 : Nat) : Int) + 1 = 1 from rfl]
  have HK11 := hide (HK10.out.keep hk11 (by simp) (by simp) (by simp) (by simp))
  have HRN11 := hide (HRN10.out.keep hk11 (by simp) (by simp) rfl)
  have HSP11 := hide hsp11
  clear hsp11 hk11 HMK HK10 HRN10 HSP10 c1
  have c46 : w11.cell? ⟨hk, 46, none⟩ = some (.int .i64 0) := HK11.out.arr.cell 46 (by omega)
  have f46 := HK11.out.arr.frozen 46
  have HK12 := hide (HK11.out.set 46 (by omega) (.int .i64 1))
  have HRN12 := hide (HRN11.out.keep (HK11.out.kset 46 (.int .i64 1)) (by decide) (by decide) rfl)
  have HSP12 := hide (HSP11.out.keep (HK11.out.kset 46 (.int .i64 1)) (by decide) (by simp))
  go_upto_region 14 with fail
  change Code.wp _ _ _ _ (w11.setCell ⟨hk, 46, none⟩ (.int .i64 1))
  clear c46 f46 HK11 HRN11 HSP11
  generalize w11.setCell _ _ = W12 at *
  have c56 : W12.cell? ⟨hk, 56, none⟩ = some (.int .i64 0) := HK12.out.arr.cell 56 (by omega)
  have f56 := HK12.out.arr.frozen 56
  have HK13 := hide (HK12.out.set 56 (by omega) (.int .i64 1))
  have HRN13 := hide (HRN12.out.keep (HK12.out.kset 56 (.int .i64 1)) (by decide) (by decide) rfl)
  have HSP13 := hide (HSP12.out.keep (HK12.out.kset 56 (.int .i64 1)) (by decide) (by simp))
  go_upto_region 17 with fail
  change Code.wp _ _ _ _ (W12.setCell ⟨hk, 56, none⟩ (.int .i64 1))
  clear c56 f56 HK12 HRN12 HSP12
  generalize W12.setCell _ _ = W13 at *
  have HT := hide (show W13.there hk 57 6 by
    obtain ⟨cs, hb, hs', hc⟩ := HK13.out.arr
    exact hb.there_ 57 6 (by omega))
  have HCS := hide cred6_size
  go_upto_region 18 with ((with_reducible refine wpList_store_mid rfl 52 (.tmp 79) (.tmp 77) rfl hk 57 #[.int .i64 0, .int .i64 0, .slice none 0 0, .int .i64 127, .int .i64 0, .int .i64 0] rfl ?_ ?_ ?_ (by simp [Value.oneCell']) ?_); (exact rfl); (exact HT.out); (exact HCS.out))
  have HK14 := hide (HK13.out.sets 57 [.int .i64 0, .int .i64 0, .slice none 0 0, .int .i64 127, .int .i64 0, .int .i64 0] (by simp))
  have HRN14 := hide (HRN13.out.keep (HK13.out.ksets 57 [.int .i64 0, .int .i64 0, .slice none 0 0, .int .i64 127, .int .i64 0, .int .i64 0]) (by decide) (by decide) rfl)
  have HSP14 := hide (HSP13.out.keep (HK13.out.ksets 57 [.int .i64 0, .int .i64 0, .slice none 0 0, .int .i64 127, .int .i64 0, .int .i64 0]) (by decide) (by simp))
  change Code.wp _ _ _ _ (W13.setCells hk 57 [.int .i64 0, .int .i64 0, .slice none 0 0, .int .i64 127, .int .i64 0, .int .i64 0])
  clear HK13 HRN13 HSP13 HT
  generalize W13.setCells _ _ _ = W14 at *
  have hxc := (Ext.refl W14).alloc (.cells #[.int .i64 1] 3)
  have HK15 := hide (HK14.out.ext hxc)
  have HRN15 := hide (HRN14.out.keep (KeepL.of hxc w.heap.size [] [] []) (by simp) (by simp) rfl)
  have HSP15 := hide (HSP14.out.ext hxc)
  have HCW := hide (own_lit W14 #[.int .i64 1] 3 1 w.heap.size HK14.out.x.size (by simp [maxLen]) rfl)
  have c63 : (W14.alloc (.cells #[.int .i64 1] 3)).cell? ⟨hk, 63, none⟩ = some (.slice none 0 0) := HK15.out.arr.cell 63 (by omega)
  have f63 := HK15.out.arr.frozen 63
  go_upto_region 19 with fail
  obtain ⟨gc, hgc⟩ : ∃ gc, W14.heap.size = gc := ⟨_, rfl⟩
  rw [hgc] at HCW ⊢
  change Code.wp _ _ _ _ ((W14.alloc (.cells #[.int .i64 1] 3)).setCell ⟨hk, 63, none⟩ (.slice (some ⟨gc, 0, none⟩) 1 1))
  clear hgc c63 hxc HK14 HRN14 HSP14
  generalize W14.alloc _ = W15 at *
  have HK16 := hide (HK15.out.set 63 (by omega) (.slice (some ⟨gc, 0, none⟩) 1 1))
  have HRN16 := hide (HRN15.out.keep (HK15.out.kset 63 (.slice (some ⟨gc, 0, none⟩) 1 1)) (by decide) (by decide) rfl)
  have HSP16 := hide (HSP15.out.keep (HK15.out.kset 63 (.slice (some ⟨gc, 0, none⟩) 1 1)) (by decide) (by simp))
  have HCW16 := hide ((HK15.out.kset 63 (.slice (some ⟨gc, 0, none⟩) 1 1)).own HCW.out (by decide) (fun _ _ => by simp))
  clear f63 HK15 HRN15 HSP15 HCW
  generalize W15.setCell _ _ = W16 at *
  have c4 : W16.cell? ⟨hk, 4, none⟩ = some (pV hr) := HK16.out.arr.cell 4 (by omega)
  have HAD := hide (radd_first HRN16.out HK16.out.x.size)
  go_wp2_with fail
  refine HAD.out.mono ?_
  rintro e w17 ⟨rfl, hrn17, hk17⟩
  have HK17 := hide (HK16.out.keep hk17 (by decide) (by decide) (by decide) (by decide))
  have HSP17 := hide (HSP16.out.keep hk17 (by decide) (by simp))
  have HCW17 := hide (hk17.own HCW16.out (by decide) (fun _ _ => by simp))
  have HRN17 := hide hrn17
  clear hrn17 hk17 HAD HK16 HRN16 HSP16 HCW16 c4
  go_wp2_with fail
  go_ret2
  refine ⟨⟨hk, hm, bm, hf, hq, hr, hw, ho, hp, .slice (some ⟨gc, 0, none⟩) 1 1⟩, rfl, ⟨⟨fun p => if p = 1 then tkL 1 (.slice none 0 0) (.slice (some ⟨gc, 0, none⟩) 1 1) else taskZ, ?_, rfl, HCW17.out, fun p h1 h2 => ?_⟩, HK17.out.pr, HK17.out.op, HSP17.out, ⟨1, by omega, by show 1 ≤ 1; omega, HRN17.out⟩, ⟨none, 0, 0, HK17.out.wh, HK17.out.ge.2.1, World.ownsRow_nil _ _ _ _, fun q hq => (by cases hq), by show 0 ≤ _; omega⟩, ⟨HK17.out.ge.1, HK17.out.ge.2.2.2, HK17.out.ge.2.2.1⟩, HK17.out.x.size⟩, HK17.out.x⟩
  · obtain ⟨cs, hb, hs', hc⟩ := HK17.out.arr
    refine ⟨cs, hb, hs', fun j hj => ?_, ?_, fun p hp17 => ?_⟩
    · rw [hc j (by omega)]
      rcases (show j = 0 ∨ j = 1 ∨ j = 2 ∨ j = 3 ∨ j = 4 ∨ j = 5 ∨ j = 6 ∨ j = 7 by omega) with rfl | rfl | rfl | rfl | rfl | rfl | rfl | rfl <;> rfl
    · rw [hc 654 (by omega)]
      rfl
    · dsimp only
      by_cases hp1 : p = 1
      · subst hp1
        rw [if_pos rfl]
        refine ⟨rfl, fun j hj => ?_⟩
        rw [hc _ (by omega)]
        rcases (show j = 0 ∨ j = 1 ∨ j = 2 ∨ j = 3 ∨ j = 4 ∨ j = 5 ∨ j = 6 ∨ j = 7 ∨ j = 8 ∨ j = 9 ∨ j = 10 ∨ j = 11 ∨ j = 12 ∨ j = 13 ∨ j = 14 ∨ j = 15 ∨ j = 16 ∨ j = 17 ∨ j = 18 ∨ j = 19 ∨ j = 20 ∨ j = 21 ∨ j = 22 ∨ j = 23 ∨ j = 24 ∨ j = 25 ∨ j = 26 ∨ j = 27 ∨ j = 28 ∨ j = 29 ∨ j = 30 ∨ j = 31 ∨ j = 32 ∨ j = 33 ∨ j = 34 ∨ j = 35 ∨ j = 36 ∨ j = 37 by omega) with rfl | rfl | rfl | rfl | rfl | rfl | rfl | rfl | rfl | rfl | rfl | rfl | rfl | rfl | rfl | rfl | rfl | rfl | rfl | rfl | rfl | rfl | rfl | rfl | rfl | rfl | rfl | rfl | rfl | rfl | rfl | rfl | rfl | rfl | rfl | rfl | rfl | rfl <;> rfl
      · rw [if_neg hp1]
        refine ⟨rfl, fun j hj => ?_⟩
        rw [hc _ (by omega)]
        obtain ⟨i, hi⟩ : ∃ i, 8 + p * 38 + j = i := ⟨_, rfl⟩
        rw [hi]
        have h1 : i < 46 ∨ 84 ≤ i := by omega
        have h2 : 8 ≤ i := by omega
        have h3 : i < 654 := by omega
        have hj' : (i - 8) % 38 = j := by omega
        dsimp only [updN, List.length_cons, List.length_nil]
        rw [if_neg (by omega), if_neg (by omega), if_neg (by omega), if_neg (by omega), if_neg (by omega), if_neg (by omega), if_neg (by omega)]
        unfold kerF
        rw [if_neg (by omega), if_neg (by omega), if_neg (by omega), if_neg (by omega), if_neg (by omega), if_neg (by omega), if_neg (by omega), if_neg (by omega), if_neg (by omega), hj', List.getElem?_eq_getElem (show j < taskZ.length from hj)]
        rfl
  · obtain rfl : p = 1 := by have : ks0.n = 1 := rfl; omega
    exact tkL_task 1 (.slice none 0 0) (.slice (some ⟨gc, 0, none⟩) 1 1)
end
end Go.Proofs.YthmojneobkaolaaGreatDoor
