/- The walk of BindEnough. -/
import Derived.Test.YtljlniehbenefaaDoorBdPull
import Derived.Test.YtljlniehbenefaaDoorBdApartW
import Derived.Test.YtljlniehbenefaaDoorObEq
namespace Go.Proofs.YtljlniehbenefaaDoor
open Go.RowKit
set_option linter.unusedVariables false

theorem PartsRd.ext_ {w w' : World} {A : Option Addr} {n : Nat} {l : List RawP} (h : PartsRd w A n l) (hx : Ext w w') : PartsRd w' A n l := ⟨(hx.reads h.row (Nat.le_refl _)).more hx.size, fun r hr => (h.each r hr).ext hx, h.nb⟩
set_option maxHeartbeats 4000000 in
set_option maxRecDepth 100000 in
theorem nclos_no (x : NmD) (s : Bs) (gs : Nat) (w : World) (hne : x.name ≠ s) (hc : w.cell? ⟨gs, 0, none⟩ = some (.string (str s))) :
    Calls Tryd.prog 13 #[.agg #[.string (str x.name), .int .i64 x.wh, .int .i64 x.pos, .bool x.weak], .pointer (some ⟨gs, 0, none⟩)] w fun e w' => e = .returned (.bool false) ∧ Ext w w' := by
  obtain ⟨nm, wh, pos, wk⟩ := x
  dsimp only at hne
  have hx := (Ext.refl w).alloc (.cells #[.string (str nm), .int .i64 wh, .int .i64 pos, .bool wk] nmT)
  have HX := hide hx
  have hb := Blk.new w nmT #[.string (str nm), .int .i64 wh, .int .i64 pos, .bool wk]
  have hc2 := hx.cell hc
  clear hx hc
  go_enter Tryd.func13, Tryd.ntmps13
  go_upto_region 1 with fail
  generalize w.alloc (.cells #[.string (str nm), .int .i64 wh, .int .i64 pos, .bool wk] nmT) = W at *
  generalize w.heap.size = g at *
  have p0 : W.cell? ⟨g, 0, none⟩ = some (.string (str nm)) := hb.cell 0
  have hne2 : str nm ≠ str s := fun h => hne (str_inj h)
  have t1 : ((str nm).toList == (str s).toList) = false := str_ne_list hne2
  have t3 : decide (str nm = str s) = false := decide_eq_false hne2
  clear hb hne hne2
  go_wp2_with fail
  go_ret
  exact ⟨rfl, HX.out⟩
def NxRel (w : World) (n : Nat) (v8 : Value) (wr : World) : Prop := ∃ i : Nat, i ≤ n ∧ v8 = .int .i64 i ∧ Ext w wr
set_option maxHeartbeats 4000000 in
set_option maxRecDepth 100000 in
theorem index_names_no (A : Option Addr) (n c B : Nat) (l : List NmD) (s : Bs) (gs : Nat) (w : World) (hr : Reads w B 4 A n (l.flatMap nmC)) (hB : B ≤ w.heap.size) (hn : n ≤ 1000) (hno : ∀ x ∈ l, x.name ≠ s) (hc : w.cell? ⟨gs, 0, none⟩ = some (.string (str s))) :
    Calls Tryd.prog 30 #[.slice A n c, .func (.func 13) #[] #[.pointer (some ⟨gs, 0, none⟩)]] w fun e w' => e = .returned (.int .i64 (-1)) ∧ Ext w w' := by
  have hl : l.length = n := flat_len nmC_len (by omega) hr
  have HR := hide hr
  have HC := hide hc
  have HNO := hide hno
  clear hr hc hno
  go_enter Tryd.func30, Tryd.ntmps30
  go_wp2_with fail
  go_loopw [8] (NxRel w n) (fun i _ => n - (intOf i).toNat)
  case atStart => exact ⟨0, Nat.zero_le _, rfl, Ext.refl _⟩
  case round =>
    obtain ⟨i, hi, rfl, hx⟩ := hrel
    have HX := hide hx
    clear hx
    by_cases hlt : i < n
    · have hil : i < l.length := by omega
      obtain ⟨b, off, rfl, -⟩ := HR.out.addr (by omega) (by omega)
      have q0 := HX.out.cell (Reads.elem nmC_len HR.out i hil (by omega) 0 (by omega) rfl)
      have q1 := HX.out.cell (Reads.elem nmC_len HR.out i hil (by omega) 1 (by omega) rfl)
      have q2 := HX.out.cell (Reads.elem nmC_len HR.out i hil (by omega) 2 (by omega) rfl)
      have q3 := HX.out.cell (Reads.elem nmC_len HR.out i hil (by omega) 3 (by omega) rfl)
      rw [Nat.add_zero] at q0
      have HCL := hide (nclos_no l[i] s gs wr (HNO.out _ (List.getElem_mem hil)) (HX.out.cell HC.out))
      generalize l[i] = x at *
      obtain ⟨nm, wh, pos, wk⟩ := x
      dsimp only at q0 q1 q2 q3 HCL
      go_upto_region 4 with fail
      go_wp2_with fail
      refine HCL.out.mono ?_
      rintro e w5 ⟨rfl, hx5⟩
      have HX5 := hide (HX.out.trans hx5)
      clear hx5
      go_wp2_with fail
      go_roundw
      case rel => exact ⟨i + 1, by omega, by go_num, HX5.out⟩
      case measure => simp [intOf]; omega
    · obtain rfl : i = n := by omega
      go_wp2_with fail
      go_ret
      exact ⟨rfl, HX.out⟩
set_option maxHeartbeats 4000000 in
set_option maxRecDepth 100000 in
theorem contains_names_no (A : Option Addr) (n c B : Nat) (l : List NmD) (s : Bs) (gs : Nat) (w : World) (hr : Reads w B 4 A n (l.flatMap nmC)) (hB : B ≤ w.heap.size) (hn : n ≤ 1000) (hno : ∀ x ∈ l, x.name ≠ s) (hc : w.cell? ⟨gs, 0, none⟩ = some (.string (str s))) :
    Calls Tryd.prog 12 #[.slice A n c, .func (.func 13) #[] #[.pointer (some ⟨gs, 0, none⟩)]] w fun e w' => e = .returned (.bool false) ∧ Ext w w' := by
  have HI := hide (index_names_no A n c B l s gs w hr hB hn hno hc)
  clear hr hc hno
  go_enter Tryd.func12, Tryd.ntmps12
  go_wp2_with fail
  refine HI.out.mono ?_
  rintro e w1 ⟨rfl, hx⟩
  have HX := hide hx
  clear hx
  go_wp2_with fail
  go_ret
  exact ⟨rfl, HX.out⟩
def farS : Bs := [102, 97, 114]
def farO : ObD := ⟨[0], [], [], [⟨0, farS, 3⟩]⟩
theorem far_lacks (v : ObV) : lacksP [(farO, v)] = [farS] := rfl
theorem far_chk : ChkOk farO := by
  refine ⟨by decide, by decide, by decide, by decide, fun n hn => (by cases hn), by decide, fun n hn => ?_, by decide⟩
  rw [show farO.needs = [⟨0, farS, 3⟩] from rfl, List.mem_singleton] at hn
  subst hn
  exact ⟨by decide, by decide, by decide, by decide, by decide, by decide⟩
theorem far_sm : ObSm farO := by
  refine ⟨by decide, by decide, by decide, by decide, by decide, fun n hn => (by cases hn), fun n hn => ?_⟩
  rw [show farO.needs = [⟨0, farS, 3⟩] from rfl, List.mem_singleton] at hn
  subst hn
  exact ⟨by decide, by decide, by decide, by decide⟩
set_option maxHeartbeats 16000000 in
set_option maxRecDepth 100000 in
theorem enough_walk (A0 : Option Addr) (n0 c0 : Nat) (l0 : List RawP) (A1 : Option Addr) (n1 c1 : Nat) (l1 : List RawP) (w : World) (h0 : PartsRd w A0 n0 l0) (h1 : PartsRd w A1 n1 l1) :
    Calls Tryd.prog 3 #[.slice A0 n0 c0, .slice A1 n1 c1] w fun e w' => e = .returned (.bool true) ∧ Ext w w' := by
  have HP0 := hide h0
  have HP1 := hide h1
  have HOB := hide (objects_any A0 n0 c0 l0 w h0)
  clear h0 h1
  go_enter Tryd.func3, Tryd.ntmps3
  go_wp2_with fail
  refine HOB.out.mono ?_
  rintro e w1 ⟨ps, B1, d1, rfl, hacc, hst⟩
  have hf := facts_of HP0.out hacc
  have HG1 := hide (hst.good hf.chk hf.sm)
  have HX1 := hide hst.ext
  have hp6 := hf.len
  have HOB2 := hide (objects_any A1 n1 c1 l1 w1 (HP1.out.ext_ hst.ext))
  clear hacc hst hf HOB
  go_wp2_with fail
  refine HOB2.out.mono ?_
  rintro e w2 ⟨lib, B2, d2, rfl, hacc, hst⟩
  have hf := facts_of HP1.out hacc
  have HG2 := hide (hst.good hf.chk hf.sm)
  have HX2 := hide (HX1.out.trans hst.ext)
  have HGA := hide (HG1.out.ext hst.ext)
  have hl6 := hf.len
  have HPU := hide (pull_any B1 ps.length d1 ps B2 lib.length d2 lib w2 HGA.out HG2.out (by omega))
  clear hacc hst hf HOB2 HG1 HX1
  go_wp2_with fail
  refine HPU.out.mono ?_
  rintro e w3 ⟨acc, B3, d3, picks, rfl, hacc, hpl, hen, hg3, hx3⟩
  have HACC := hide hacc
  have HEN := hide hen
  have HG3 := hide hg3
  have HX3 := hide (HX2.out.trans hx3)
  have HGB := hide (HGA.out.ext hx3)
  have HGC := hide (HG2.out.ext hx3)
  have hal : ps.length ≤ acc.length := by have := congrArg List.length hacc; rw [List.length_map, List.length_map, List.length_append] at this; omega
  have hal2 : acc.length ≤ ps.length + lib.length := by have := congrArg List.length hacc; rw [List.length_map, List.length_map, List.length_append] at this; omega
  clear hacc hen hg3 hx3 HPU HG2 HX2 HGA
  go_wp2_with fail
  have hb0 := ((Blk.new w3 31 #[.int .u32 0]).alloc (.cells #[.int .i64 0, .string ⟨#[102, 97, 114]⟩, .int .i64 3] neT)).alloc (.cells #[.slice (some ⟨w3.heap.size, 0, none⟩) 1 1, .slice none 0 0, .slice none 0 0, .slice (some ⟨w3.heap.size + 1, 0, none⟩) 1 1] obT)
  have hb1 := (Blk.new' (w3.alloc (.cells #[.int .u32 0] 31)) neT #[.int .i64 0, .string ⟨#[102, 97, 114]⟩, .int .i64 3] (g := w3.heap.size + 1) (by simp)).alloc (.cells #[.slice (some ⟨w3.heap.size, 0, none⟩) 1 1, .slice none 0 0, .slice none 0 0, .slice (some ⟨w3.heap.size + 1, 0, none⟩) 1 1] obT)
  have hb2 := Blk.new' ((w3.alloc (.cells #[.int .u32 0] 31)).alloc (.cells #[.int .i64 0, .string ⟨#[102, 97, 114]⟩, .int .i64 3] neT)) obT #[.slice (some ⟨w3.heap.size, 0, none⟩) 1 1, .slice none 0 0, .slice none 0 0, .slice (some ⟨w3.heap.size + 1, 0, none⟩) 1 1] (g := w3.heap.size + 1 + 1) (by simp)
  have HXW := hide ((((Ext.refl w3).alloc (.cells #[.int .u32 0] 31)).alloc (.cells #[.int .i64 0, .string ⟨#[102, 97, 114]⟩, .int .i64 3] neT)).alloc (.cells #[.slice (some ⟨w3.heap.size, 0, none⟩) 1 1, .slice none 0 0, .slice none 0 0, .slice (some ⟨w3.heap.size + 1, 0, none⟩) 1 1] obT))
  generalize ((w3.alloc (.cells #[.int .u32 0] 31)).alloc (.cells #[.int .i64 0, .string ⟨#[102, 97, 114]⟩, .int .i64 3] neT)).alloc (.cells #[.slice (some ⟨w3.heap.size, 0, none⟩) 1 1, .slice none 0 0, .slice none 0 0, .slice (some ⟨w3.heap.size + 1, 0, none⟩) 1 1] obT) = W at *
  generalize w3.heap.size = g at *
  have HGO := hide (show Good W (some ⟨g + 1 + 1, 0, none⟩) 1 [(farO, ⟨some ⟨g, 0, none⟩, 1, 1, none, 0, 0, none, 0, 0, some ⟨g + 1, 0, none⟩, 1, 1⟩)] from
    ⟨rfl, hb2.rowsF' 1 4 rfl, fun p hp => by
      rw [List.mem_singleton] at hp
      subst hp
      exact ⟨hb0.rowsF' 1 1 rfl, ⟨rfl, fun h => absurd h (Nat.lt_irrefl 0)⟩, ⟨rfl, fun h => absurd h (Nat.lt_irrefl 0)⟩, hb1.rowsF' 1 3 rfl, rfl, rfl, rfl, rfl⟩, fun p hp => by rw [List.mem_singleton] at hp; subst hp; exact far_chk, fun p hp => by rw [List.mem_singleton] at hp; subst hp; exact far_sm⟩)
  have HLK := hide (lacks_any (some ⟨g + 1 + 1, 0, none⟩) 1 1 _ W HGO.out (by omega))
  rw [far_lacks] at HLK
  clear hb0 hb1 hb2
  refine HLK.out.mono ?_
  rintro e w4 ⟨A5, d5, rfl, -, hx4⟩
  have HX4 := hide ((HX3.out.trans HXW.out).trans hx4)
  have HG4 := hide ((HG3.out.ext HXW.out).ext hx4)
  have HGB4 := hide ((HGB.out.ext HXW.out).ext hx4)
  have HGC4 := hide ((HGC.out.ext HXW.out).ext hx4)
  have HLX := hide (lacks_any B3 acc.length d3 acc w4 HG4.out (by omega))
  have HLE := hide (show (lacksP acc).length ≤ 480 from lacksP_len HG4.out.chk (by omega))
  clear hx4 HLK HGO HG3 HGB HGC HX3 HXW
  rw [show ([farS] : List Bs).length = 1 from rfl]
  generalize lacksP acc = L at *
  go_wp2_with fail
  refine HLX.out.mono ?_
  rintro e w5 ⟨A6, d6, rfl, ho6, hx5⟩
  have HR6 := hide (Reads.of_own ho6)
  have HX5 := hide (HX4.out.trans hx5)
  have HG5 := hide (HG4.out.ext hx5)
  have HGB5 := hide (HGB4.out.ext hx5)
  have HGC5 := hide (HGC4.out.ext hx5)
  have hLE := HLE.out
  clear ho6 hx5 HLX HG4 HGB4 HGC4 HX4 HLE
  have t1 : decide (acc.length < ps.length) = false := decide_eq_false (by omega)
  have t2 : decide ((ps.length : Int) + (lib.length : Int) < (acc.length : Int)) = false := decide_eq_false (by omega)
  go_wp2_with fail
  go_loopw [74] (NxRel w5 ps.length) (fun i _ => ps.length - (intOf i).toNat)
  case atStart => exact ⟨0, Nat.zero_le _, rfl, Ext.refl _⟩
  case round =>
    obtain ⟨i, hi, rfl, hx⟩ := hrel
    have HX := hide hx
    clear hx
    by_cases hlt : i < ps.length
    · obtain ⟨bo, oo, o, v, hi', rfl, hpi, hrd, hck, hsm, q0, q1, q2, q3⟩ := (HGB5.out.ext HX.out).at_ i hlt
      obtain ⟨bx, ox, o2, u, hi2, rfl, hpi2, hrd2, hck2, hsm2, r0, r1, r2, r3⟩ := (HG5.out.ext HX.out).at_ i (by omega)
      have he : o2 = o := by
        have h1 : (acc.map Prod.fst)[i]? = ((ps ++ picks).map Prod.fst)[i]? := by rw [HACC.out]
        rw [List.getElem?_map, List.getElem?_map, List.getElem?_eq_getElem hi2, hpi2, List.getElem?_append_left hi', List.getElem?_eq_getElem hi', hpi] at h1
        simpa using h1
      subst he
      obtain ⟨C1, m1, e1, C2, m2, e2, C3, m3, e3, C4, m4, e4⟩ := v
      obtain ⟨D1, k1, f1, D2, k2, f2, D3, k3, f3, D4, k4, f4⟩ := u
      dsimp only at q0 q1 q2 q3 r0 r1 r2 r3
      have HSA := hide (same_any o2 _ _ wr.drew (hrd2.ext ((Ext.refl wr).drew)) (hrd.ext ((Ext.refl wr).drew)) hsm)
      clear hrd hrd2 hck hck2 hsm hsm2 hpi hpi2
      go_upto_region 14 with fail
      go_region_held3 (fun w' => w'.cell? ⟨bo, oo + i * 4, none⟩ = some (.slice C1 m1 e1) ∧ w'.cell? ⟨bo, oo + i * 4 + 1, none⟩ = some (.slice C2 m2 e2) ∧ w'.cell? ⟨bo, oo + i * 4 + 2, none⟩ = some (.slice C3 m3 e3) ∧ w'.cell? ⟨bo, oo + i * 4 + 3, none⟩ = some (.slice C4 m4 e4) ∧ w'.cell? ⟨bx, ox + i * 4, none⟩ = some (.slice D1 k1 f1) ∧ w'.cell? ⟨bx, ox + i * 4 + 1, none⟩ = some (.slice D2 k2 f2) ∧ w'.cell? ⟨bx, ox + i * 4 + 2, none⟩ = some (.slice D3 k3 f3) ∧ w'.cell? ⟨bx, ox + i * 4 + 3, none⟩ = some (.slice D4 k4 f4))
        (first | exact ⟨q0, q1, q2, q3, r0, r1, r2, r3⟩ | (refine ⟨Ext.cell (w := wr) ?_ q0, Ext.cell (w := wr) ?_ q1, Ext.cell (w := wr) ?_ q2, Ext.cell (w := wr) ?_ q3, Ext.cell (w := wr) ?_ r0, Ext.cell (w := wr) ?_ r1, Ext.cell (w := wr) ?_ r2, Ext.cell (w := wr) ?_ r3⟩ <;> ((repeat (first | with_reducible exact Ext.refl _ | with_reducible assumption | with_reducible refine Ext.alloc ?_ _ | with_reducible refine Ext.drew ?_ | with_reducible refine Ext.drewN ?_ _ | with_reducible refine Ext.setCell ?_ (by first | exact Nat.le_refl _ | assumption | (simp; done) | omega) _ | with_reducible refine Ext.trans ?_ (by with_reducible assumption))); done)) | fail)
        (first
          | (go_at_call_of 11 (Value.agg #[.slice D1 k1 f1, .slice D2 k2 f2, .slice D3 k3 f3, .slice D4 k4 f4]); refine HSA.out.mono ?_; rintro e w6 ⟨rfl, hx6⟩
             have HX6 := hide (HX.out.trans (((Ext.refl wr).drew).trans hx6)))
          | fail)
      go_wp2_with fail
      go_roundw
      case rel => exact ⟨i + 1, by omega, by go_num, HX6.out⟩
      case measure => simp [intOf]; omega
    · obtain rfl : i = ps.length := by omega
      go_wp2_with fail
      go_loopw [90] (NxRel w5 L.length) (fun i _ => L.length - (intOf i).toNat)
      case atStart => exact ⟨0, Nat.zero_le _, rfl, HX.out⟩
      case round =>
        obtain ⟨k, hk, rfl, hx⟩ := hrel
        have HX7 := hide hx
        clear hx HX
        by_cases hlt : k < L.length
        · obtain ⟨b, off, rfl, -, hcell⟩ := HR6.out.at1 (by omega)
          have q0 := HX7.out.cell (hcell k hlt)
          rw [show (strsV L)[k]'(by rw [strsV_len]; exact hlt) = .string (str L[k]) by simp [strsV]] at q0
          have HNO := hide (HEN.out L[k] (List.getElem_mem hlt))
          generalize L[k] = s at *
          have hxa := (Ext.refl wr).alloc (.cells #[.string (str s)] 9)
          have hb15 := Blk.new wr 9 #[.string (str s)]
          have HX8 := hide (HX7.out.trans hxa)
          clear hxa hcell
          go_upto_region 20 with fail
          generalize wr.alloc (.cells #[.string (str s)] 9) = W8 at *
          generalize wr.heap.size = g15 at *
          clear q0
          have HC15 := hide (show W8.cell? ⟨g15, 0, none⟩ = some (.string (str s)) from hb15.cell 0)
          clear hb15
          go_wp2_with fail
          go_loopw [96] (NxRel W8 lib.length) (fun i _ => lib.length - (intOf i).toNat)
          case atStart => exact ⟨0, Nat.zero_le _, rfl, Ext.refl _⟩
          case round =>
            obtain ⟨j, hj, rfl, hx⟩ := hrel
            have HX9 := hide hx
            clear hx
            by_cases hlt2 : j < lib.length
            · obtain ⟨bl, ol, o, v, hi', rfl, hpi, hrd, hck, hsm, q0, q1, q2, q3⟩ := (HGC5.out.ext (HX8.out.trans HX9.out)).at_ j hlt2
              obtain ⟨C1, m1, e1, C2, m2, e2, C3, m3, e3, C4, m4, e4⟩ := v
              dsimp only at q0 q1 q2 q3
              have hno : ∀ x ∈ o.names, x.name ≠ s := fun x hx e => by
                have h1 := HNO.out lib[j] (List.getElem_mem hi')
                rw [hpi] at h1
                have h2 : hasP o s = true := List.any_eq_true.2 ⟨x, hx, by simpa using e⟩
                dsimp only at h1
                rw [h1] at h2; cases h2
              have hxa := (Ext.refl wr).alloc (.cells #[.slice C1 m1 e1, .slice C2 m2 e2, .slice C3 m3 e3, .slice C4 m4 e4] obT)
              have hb17 := Blk.new wr obT #[.slice C1 m1 e1, .slice C2 m2 e2, .slice C3 m3 e3, .slice C4 m4 e4]
              have hm3 : m3 ≤ 1000 := by have := hck.nms; have := hrd.l3; dsimp only at this; omega
              have HCT := hide (contains_names_no C3 m3 e3 _ o.names s g15 _ (hrd.ext hxa).names (Nat.le_refl _) hm3 hno ((HX9.out.trans hxa).cell HC15.out))
              have HXA := hide (HX9.out.trans hxa)
              clear hrd hck hsm hpi hno hxa
              go_upto_region 23 with fail
              generalize wr.alloc (.cells #[.slice C1 m1 e1, .slice C2 m2 e2, .slice C3 m3 e3, .slice C4 m4 e4] obT) = W9 at *
              generalize wr.heap.size = g17 at *
              clear q0 q1 q2 q3
              have p2 : W9.cell? ⟨g17, 2, none⟩ = some (.slice C3 m3 e3) := hb17.cell 2
              clear hb17
              go_wp2_with fail
              refine HCT.out.mono ?_
              rintro e w9 ⟨rfl, hx9⟩
              have HXB := hide (HXA.out.trans hx9)
              clear hx9 HCT
              go_wp2_with fail
              go_roundw
              case rel => exact ⟨j + 1, by omega, by go_num, HXB.out⟩
              case measure => simp [intOf]; omega
            · obtain rfl : j = lib.length := by omega
              have HXB := hide (HX8.out.trans HX9.out)
              go_wp2_with fail
              go_roundw
              case rel => exact ⟨k + 1, by omega, by go_num, HXB.out⟩
              case measure => simp [intOf]; omega
        · obtain rfl : k = L.length := by omega
          have HXF := hide (HX5.out.trans HX7.out)
          go_wp2_with fail
          go_ret
          exact ⟨rfl, HXF.out⟩
end Go.Proofs.YtljlniehbenefaaDoor
