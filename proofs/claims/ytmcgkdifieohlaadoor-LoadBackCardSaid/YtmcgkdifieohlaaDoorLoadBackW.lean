/- The walk of LoadBack. -/
import Derived.Test.YtmcgkdifieohlaaDoorLoadPair
import Derived.Test.YtmcgkdifieohlaaDoorShelf
namespace Go.Proofs.YtmcgkdifieohlaaDoor
open Go.RowKit
set_option linter.unusedVariables false

/-- Page k of the three images: as it was, as it was read, as it was trimmed. -/
structure Three (p x y : PgD) : Prop where
  page : x.page = p.page
  rights : x.rights = p.rights
  xs : x.ds = trimZ p.ds
  ys : y.ds = trimZ p.ds
theorem trims_at {ps qs : List PgD} (h : Trims ps qs) : ∀ (i : Nat) (h1 : i < ps.length) (h2 : i < qs.length), TrimOf ps[i] qs[i] := by
  induction h with
  | nil => intro i h1 _; cases h1
  | @snoc ps qs p q ht h ih =>
    have hl := ht.len
    intro i h1 h2
    rcases Nat.lt_or_ge i ps.length with h3 | h3
    · rw [List.getElem_append_left h3, List.getElem_append_left (by omega)]
      exact ih i h3 (by omega)
    · have e : i = ps.length := by simp at h1; omega
      subst e
      rw [List.getElem_append_right (Nat.le_refl _), List.getElem_append_right (by omega)]
      simpa [hl] using h
theorem three_at {ps xs ys : List PgD} (hx : xs.map era = ps.map trimP) (hy : Trims ps ys) (i : Nat) (h1 : i < ps.length) (h2 : i < xs.length) (h3 : i < ys.length) : Three ps[i] xs[i] ys[i] := by
  have e := congrArg (fun l => l[i]?) hx
  simp only [List.getElem?_map, List.getElem?_eq_getElem h1, List.getElem?_eq_getElem h2, Option.map_some, Option.some.injEq] at e
  have t := trims_at hy i h1 h3
  have e1 := congrArg PgD.page e
  have e2 := congrArg PgD.rights e
  have e3 := congrArg PgD.ds e
  exact ⟨e1, e2, e3, t.ds⟩
def BackRel (w : World) (gi gx gy : Nat) (ci cx cy : Array Value) (n : Nat) (v60 : Value) (wr : World) : Prop := ∃ k : Nat, k ≤ n ∧ v60 = .int .i64 k ∧ Blk wr gi 29 ci ∧ Blk wr gx 29 cx ∧ Blk wr gy 29 cy ∧ Ext w wr
set_option maxHeartbeats 8000000 in
set_option maxRecDepth 100000 in
theorem lback_walk (A : Option Addr) (n c : Nat) (zs : List Int) (A' : Option Addr) (n' c' : Nat) (z : Int) (w : World)
    (hr : Reads w w.heap.size 1 A n (intsV zs)) (hz : ∀ x ∈ zs, -9223372036854775808 ≤ x ∧ x ≤ 9223372036854775807)
    (hn : n ≤ c) (hc : c ≤ maxLen) (hd : RowsAt w A' n') (hn' : n' ≤ c') (hc' : c' ≤ maxLen) (z1 : -9223372036854775808 ≤ z) (z2 : z ≤ 9223372036854775807) :
    Calls Tryd.prog 3 #[.agg #[.slice A n c, .slice A' n' c', .int .i64 z]] w fun e w' => e = .returned (.bool true) ∧ Ext w w' := by
  have HIM := hide (fun (w' : World) (hx : Ext w w') (h1 : Reads w' w'.heap.size 1 A n (intsV zs)) (h2 : RowsAt w' A' n') => image_any A n c zs A' n' c' z w' h1 hz hn hc h2 hn' hc' z1 z2)
  have HR := hide hr
  have HD := hide hd
  have hx1 : Ext w (w.alloc (.cells #[.slice A n c, .slice A' n' c', .int .i64 z] 25)) := by ((repeat (first | with_reducible exact Ext.refl _ | with_reducible assumption | with_reducible refine Ext.alloc ?_ _ | with_reducible refine Ext.drew ?_ | with_reducible refine Ext.drewN ?_ _ | with_reducible refine Ext.setCell ?_ (by first | exact Nat.le_refl _ | assumption | (simp; done) | omega) _ | with_reducible refine Ext.trans ?_ (by with_reducible assumption))); done)
  have HX1 := hide hx1
  clear hr hd hz hx1
  go_enter Tryd.func3, Tryd.ntmps3
  go_wp2_with fail
  refine (HIM.out _ HX1.out ((HX1.out.reads HR.out (Nat.le_refl _)).more HX1.out.size) (HD.out.keep HX1.out)).mono ?_
  rintro e w2 ⟨ps, m, Ap, cp, en0, rfl, hlen, ho2, him, hx2⟩
  obtain ⟨en, rfl⟩ : ∃ en1 : Nat, en0 = en1 := ⟨en0.toNat, by have := him.starts.2.2.1; omega⟩
  have hm14 : m ≤ 14 := by have := him.few; omega
  have HO := hide ho2
  have HI := hide him
  have HX2 := hide (HX1.out.trans hx2)
  have HX2' := hide hx2
  have HL := hide hlen
  have hb3 := Blk.new w2 29 #[.int .u32 (en : Int), .slice Ap m cp]
  have HXA := hide ((Ext.refl w2).alloc (.cells #[.int .u32 (en : Int), .slice Ap m cp] 29))
  clear ho2 him hx2 hlen HIM HR HD
  go_upto_region 2 with fail
  generalize w2.alloc (.cells #[.int .u32 (en : Int), .slice Ap m cp] 29) = W2 at *
  generalize w2.heap.size = gi at *
  have c0 : W2.cell? ⟨gi, 0, none⟩ = some (.int .u32 (en : Int)) := hb3.cell 0
  have c1 : W2.cell? ⟨gi, 1, none⟩ = some (.slice Ap m cp) := hb3.cell 1
  have HB3 := hide hb3
  have HXI := hide (HX2'.out.trans HXA.out)
  have HOI := hide (HXA.out.own HO.out)
  have HXW2 := hide (HX2.out.trans HXA.out)
  clear hb3 HO HX2 HX2' HXA
  go_wp2_with fail
  refine (imfile _ W2 ps Ap m cp W2.heap.size en HI.out HXI.out (Reads.of_own HOI.out) (Nat.le_refl _) (own_max HOI.out)).mono ?_
  rintro e w3 ⟨A3, n3, c3, rfl, ho3, hx3⟩
  have HO3 := hide ho3
  have HXW3 := hide (HXW2.out.trans hx3)
  have HX23 := hide hx3
  have HR3 := hide (show Reads w3 w3.heap.size 1 A3 n3 (bytesV (fileF en ps)) from Reads.of_own ho3)
  have HIS := hide HI.out.is
  obtain ⟨h3a, h3b⟩ := own_le ho3
  have H3B := hide h3b
  unfold maxLen at h3b
  clear ho3 hx3 c0 c1
  generalize fileF en ps = fs at *
  go_wp2_with fail
  refine (img_any A3 n3 c3 fs _ HR3.out h3a H3B.out).mono ?_
  rintro e w4 ⟨hx4, hh⟩
  have HXW4 := hide (HXW3.out.trans hx4)
  have HX24 := hide (HX23.out.trans hx4)
  clear hx4
  rcases hh with ⟨en', xs, Ax, k, cx, his, rfl, ho4, hr4⟩ | ⟨hno, rfl⟩
  case inr => exact absurd HIS.out (hno _ _)
  have hex : en' = en := by rw [his.entry, HIS.out.entry]
  have hxs : xs.map era = ps.map trimP := by
    have e1 := his.pages
    have e2 := HIS.out.pages
    rw [e1] at e2
    exact Option.some.inj e2
  subst hex
  have hxl : xs.length = k := flat_len pgC_len (by omega) (Reads.of_own ho4)
  have hkm : k = m := by have := congrArg List.length hxs; simp only [List.length_map] at this; rw [HL.out, hxl] at this; exact this
  subst hkm
  have HO4 := hide ho4
  have HR4 := hide hr4
  have HXS := hide hxs
  have HXL := hide hxl
  clear his ho4 hr4 hxs hxl HIS HR3 HO3
  have hb5 := Blk.new w4 29 #[.int .u32 (en' : Int), .slice Ax k cx]
  have HXB := hide ((Ext.refl w4).alloc (.cells #[.int .u32 (en' : Int), .slice Ax k cx] 29))
  go_upto_region 4 with fail
  generalize w4.alloc (.cells #[.int .u32 (en' : Int), .slice Ax k cx] 29) = W5 at *
  generalize w4.heap.size = gx at *
  have HX25 := hide (HX24.out.trans HXB.out)
  have HXW5 := hide (HXW4.out.trans HXB.out)
  have HB5 := hide hb5
  have hb35 := HB3.out.ext HX25.out
  have HB35 := hide hb35
  have c0 : W5.cell? ⟨gi, 0, none⟩ = some (.int .u32 (en' : Int)) := hb35.cell 0
  have c1 : W5.cell? ⟨gi, 1, none⟩ = some (.slice Ap k cp) := hb35.cell 1
  have HOI5 := hide (HX25.out.own HOI.out)
  have HO5 := hide (HXB.out.own HO4.out)
  have HPX := hide (fun q hq => HXB.out.own (HR4.out q hq).1 : ∀ q ∈ xs, PgOwn W5 w3.heap.size q)
  have HPI := hide (fun q hq => (HI.out.ok q hq).keep (HXI.out.trans HX25.out) : ∀ q ∈ ps, q.Ok W5)
  clear hb5 hb35 HXB HX24 HX23 HB3 HOI HO4 HR4
  go_wp2_with fail
  refine (trim_any ps Ap k cp W5.heap.size (en' : Int) W5 (Reads.of_own HOI5.out) (Nat.le_refl _) (fun p hp => by
    have o := HPI.out p hp
    exact PgD.Pre.rd ⟨o.num, o.mc, o.cm, o.reads, o.len⟩ o.m16) (by omega)).mono ?_
  rintro e w6 ⟨ys, Ay, cy, rfl, htr, ho6, hp6, hx6⟩
  have hyl : ys.length = k := by rw [htr.len]; exact HL.out
  have hb7 := Blk.new w6 29 #[.int .u32 (en' : Int), .slice Ay k cy]
  have HXC := hide ((Ext.refl w6).alloc (.cells #[.int .u32 (en' : Int), .slice Ay k cy] 29))
  have HXD := hide hx6
  have HO6 := hide ho6
  have HP6 := hide hp6
  have HTR := hide htr
  clear c0 c1 ho6 hp6 hx6 htr
  go_upto_region 5 with fail
  generalize w6.alloc (.cells #[.int .u32 (en' : Int), .slice Ay k cy] 29) = W7 at *
  generalize w6.heap.size = gy at *
  have HX57 := hide (HXD.out.trans HXC.out)
  have HB7 := hide hb7
  have hb57 := HB5.out.ext HX57.out
  have hb37 := HB35.out.ext HX57.out
  have d0 : W7.cell? ⟨gi, 0, none⟩ = some (.int .u32 (en' : Int)) := hb37.cell 0
  have d1 : W7.cell? ⟨gi, 1, none⟩ = some (.slice Ap k cp) := hb37.cell 1
  have d2 : W7.cell? ⟨gx, 0, none⟩ = some (.int .u32 (en' : Int)) := hb57.cell 0
  have d3 : W7.cell? ⟨gx, 1, none⟩ = some (.slice Ax k cx) := hb57.cell 1
  have d4 : W7.cell? ⟨gy, 1, none⟩ = some (.slice Ay k cy) := hb7.cell 1
  have HXW7 := hide (HXW5.out.trans HX57.out)
  have HB37 := hide hb37
  have HB57 := hide hb57
  have HRI := hide (show Reads W7 W7.heap.size 3 Ap k (pgsV ps) from Reads.of_own (HX57.out.own HOI5.out))
  have HRX := hide (show Reads W7 W7.heap.size 3 Ax k (pgsV xs) from Reads.of_own (HX57.out.own HO5.out))
  have HRY := hide (show Reads W7 W7.heap.size 3 Ay k (pgsV ys) from Reads.of_own (HXC.out.own HO6.out))
  have HDI := hide (fun q hq => (HPI.out q hq).keep HX57.out : ∀ q ∈ ps, q.Ok W7)
  have HDX := hide (fun q hq => HX57.out.own (HPX.out q hq) : ∀ q ∈ xs, PgOwn W7 w3.heap.size q)
  have HDY := hide (fun q hq => HXC.out.own (HP6.out q hq) : ∀ q ∈ ys, PgOwn W7 (W5.heap.size + 1 + 1 + 1) q)
  clear hb7 hb57 hb37 HPX HPI HP6 HO6 HO5 HOI5 HXC HXD HX57 HX25
  go_wp2_with fail
  clear d0 d1 d2 d3 d4
  go_loopw [60] (BackRel W7 gi gx gy #[.int .u32 (en' : Int), .slice Ap k cp] #[.int .u32 (en' : Int), .slice Ax k cx] #[.int .u32 (en' : Int), .slice Ay k cy] k) (fun i _ => k - (intOf i).toNat)
  case atStart => exact ⟨0, Nat.zero_le _, rfl, HB37.out, HB57.out, HB7.out, Ext.refl _⟩
  case round =>
    obtain ⟨i, hi, rfl, hb1, hb2, hb3, hx⟩ := hrel
    have HBI := hide hb1
    have HBX := hide hb2
    have HBY := hide hb3
    have HX := hide hx
    clear hb1 hb2 hb3 hx HB37 HB57 HB7
    by_cases hlt : i < k
    · have hpl := HL.out
      have hxl := HXL.out
      have hip : i < ps.length := by omega
      have hix : i < xs.length := by omega
      have hiy : i < ys.length := by omega
      obtain ⟨b1, o1, rfl, -⟩ := HRI.out.addr (by omega) (by omega)
      obtain ⟨b2, o2, rfl, -⟩ := HRX.out.addr (by omega) (by omega)
      obtain ⟨b3, o3, rfl, -⟩ := HRY.out.addr (by omega) (by omega)
      have p0 := HX.out.cell (Reads.elem pgC_len HRI.out i hip (by omega) 0 (by omega) rfl)
      have p1 := HX.out.cell (Reads.elem pgC_len HRI.out i hip (by omega) 1 (by omega) rfl)
      have p2 := HX.out.cell (Reads.elem pgC_len HRI.out i hip (by omega) 2 (by omega) rfl)
      have x0 := HX.out.cell (Reads.elem pgC_len HRX.out i hix (by omega) 0 (by omega) rfl)
      have x1 := HX.out.cell (Reads.elem pgC_len HRX.out i hix (by omega) 1 (by omega) rfl)
      have x2 := HX.out.cell (Reads.elem pgC_len HRX.out i hix (by omega) 2 (by omega) rfl)
      have y2 := HX.out.cell (Reads.elem pgC_len HRY.out i hiy (by omega) 2 (by omega) rfl)
      rw [Nat.add_zero] at p0 x0
      have h3 := three_at HXS.out HTR.out i hip hix hiy
      have hdi := HDI.out ps[i] (List.getElem_mem hip)
      have hdx := HDX.out xs[i] (List.getElem_mem hix)
      have hdy := HDY.out ys[i] (List.getElem_mem hiy)
      generalize ps[i] = q at *
      generalize xs[i] = u at *
      generalize ys[i] = v at *
      obtain ⟨q1, q2, qD, qm, qc, qds⟩ := q
      obtain ⟨u1, u2, uD, um, uc, uds⟩ := u
      obtain ⟨v1, v2, vD, vm, vc, vds⟩ := v
      obtain ⟨e1, e2, e3, e4⟩ := h3
      dsimp only at p0 p1 p2 x0 x1 x2 y2 e1 e2 e3 e4 hdi hdx hdy
      subst e1 e2 e3 e4
      have hqr := hdi.reads
      have hql := hdi.len
      have hq16 := hdi.m16
      dsimp only at hqr hql hq16
      have HXB := hide ((Ext.refl wr).alloc (.cells #[.int .i64 u1, .int .i64 u2, .slice qD qm qc] 39))
      have hbq := Blk.new wr 39 #[.int .i64 u1, .int .i64 u2, .slice qD qm qc]
      have HBX1 := hide (HBX.out.ext HXB.out)
      have z1 : (wr.alloc (.cells #[.int .i64 u1, .int .i64 u2, .slice qD qm qc] 39)).cell? ⟨gx, 1, none⟩ = some (.slice (some ⟨b2, o2, none⟩) k cx) := HBX1.out.cell 1
      have x0' := HXB.out.cell x0
      have x1' := HXB.out.cell x1
      have x2' := HXB.out.cell x2
      go_upto_region 10 with fail
      generalize wr.alloc (.cells #[.int .i64 u1, .int .i64 u2, .slice qD qm qc] 39) = W8 at *
      generalize wr.heap.size = gq at *
      have HXC := hide ((Ext.refl W8).alloc (.cells #[.int .i64 u1, .int .i64 u2, .slice uD um uc] 39))
      have hbz := Blk.new W8 39 #[.int .i64 u1, .int .i64 u2, .slice uD um uc]
      go_upto_region 11 with fail
      generalize W8.alloc (.cells #[.int .i64 u1, .int .i64 u2, .slice uD um uc] 39) = W9 at *
      generalize W8.heap.size = gz at *
      have HX9 := hide (HX.out.trans (HXB.out.trans HXC.out))
      have hbq9 := hbq.ext HXC.out
      have a0 : W9.cell? ⟨gq, 0, none⟩ = some (.int .i64 u1) := hbq9.cell 0
      have a1 : W9.cell? ⟨gq, 1, none⟩ = some (.int .i64 u2) := hbq9.cell 1
      have a2 : W9.cell? ⟨gq, 2, none⟩ = some (.slice qD qm qc) := hbq9.cell 2
      have a3 : W9.cell? ⟨gz, 0, none⟩ = some (.int .i64 u1) := hbz.cell 0
      have a4 : W9.cell? ⟨gz, 1, none⟩ = some (.int .i64 u2) := hbz.cell 1
      have a5 : W9.cell? ⟨gz, 2, none⟩ = some (.slice uD um uc) := hbz.cell 2
      have HBI9 := hide (HBI.out.ext (HXB.out.trans HXC.out))
      have HBX9 := hide (HBX.out.ext (HXB.out.trans HXC.out))
      have HBY9 := hide (HBY.out.ext (HXB.out.trans HXC.out))
      have a6 : W9.cell? ⟨gy, 1, none⟩ = some (.slice (some ⟨b3, o3, none⟩) k cy) := HBY9.out.cell 1
      have a7 := (HXB.out.trans HXC.out).cell y2
      have k1 : ∀ d : Nat, (convert 31 9 (.slice uD um uc)).run Tryd.prog (W9.drewN d) = .ok (.string (str (trimZ qds))) (W9.drewN d) := fun d => conv_str Tryd.underlying31 Tryd.underlying5 Tryd.underlying9 ((HX9.out.reads (Reads.of_own hdx) (Nat.le_refl _)).drewN d) uc
      have k2 : ∀ d : Nat, (convert 31 9 (.slice vD vm vc)).run Tryd.prog (W9.drewN d) = .ok (.string (str (trimZ qds))) (W9.drewN d) := fun d => conv_str Tryd.underlying31 Tryd.underlying5 Tryd.underlying9 ((HX9.out.reads (Reads.of_own hdy) (Nat.le_refl _)).drewN d) vc
      have k3 : ∀ d : Nat, (convert 31 9 (.slice qD qm qc)).run Tryd.prog (W9.drewN d) = .ok (.string (str qds)) (W9.drewN d) := fun d => conv_str Tryd.underlying31 Tryd.underlying5 Tryd.underlying9 ((HX9.out.reads hqr (Nat.le_refl _)).drewN d) qc
      have HTM := hide (fun W : World => show Calls Tryd.prog 8 #[.string (str qds), .string ⟨#[0]⟩] W (fun e w' => e = .returned (.string (str (trimZ qds))) ∧ w' = W) from (Tryd.strings_TrimRight_one (str qds) 0 (by decide) W (by rw [str_size]; omega)).mono fun e w' ⟨h1, h2⟩ => ⟨by rw [h1]; rfl, h2⟩)
      generalize str (trimZ qds) = ST at *
      generalize str qds = SQ at *
      clear p0 p1 p2 x0 x1 x2 x0' x1' x2' y2 z1 hdi hdx hdy hbq hbz hbq9 hqr hql hq16
      have hi0 : (0 : Int) ≤ (i : Int) := by omega
      have hi1 : (i : Int) < (k : Int) := by omega
      go_quiet ((go_at_call 8; exact Calls.quiet_of_same (HTM.out _)))
      have HXE := hide (HX9.out.drewN nq)
      have HBIE := hide (HBI9.out.ext ((Ext.refl W9).drewN nq))
      have HBXE := hide (HBX9.out.ext ((Ext.refl W9).drewN nq))
      have HBYE := hide (HBY9.out.ext ((Ext.refl W9).drewN nq))
      generalize W9.drewN nq = WE at *
      clear a0 a1 a2 a3 a4 a5 a6 a7 k1 k2 k3 HTM
      go_wp2_with fail
      go_roundw
      case rel => exact ⟨i + 1, by omega, by go_num, HBIE.out, HBXE.out, HBYE.out, HXE.out⟩
      case measure => simp [intOf]; omega
    · obtain rfl : i = k := by omega
      go_wp2_with fail
      go_ret
      exact ⟨rfl, HXW7.out.trans HX.out⟩
end Go.Proofs.YtmcgkdifieohlaaDoor
