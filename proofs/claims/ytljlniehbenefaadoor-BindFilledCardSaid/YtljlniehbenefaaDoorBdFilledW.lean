/- The walk of BindFilled. -/
import Derived.Test.YtljlniehbenefaaDoorBdKeptW
namespace Go.Proofs.YtljlniehbenefaaDoor
open Go.RowKit
set_option linter.unusedVariables false

theorem wrap_i16' (n : Int) (h : -32768 ≤ n) (h' : n < 32768) : IntKind.i16.wrap (n % 65536) = n := by
  simp only [IntKind.wrap, IntKind.bits, IntKind.signed] at *
  simp at *
  omega
theorem place_three (x a t : Int) : placeI x 3 a t = t := rfl
theorem place_high (x kind a t : Int) (hx : 0 ≤ x) (hk : kind ≠ 3) : placeI x kind a t / 65536 = x / 65536 := by
  unfold placeI placedI
  rw [if_neg hk]
  generalize (if kind = 1 then (t - a) % 4294967296 else t) = c
  omega
theorem place_two (x a t : Int) (ht : 0 ≤ t) (ht' : t < 30000) : placeI x 2 a t % 65536 = t := by
  show placedI x t % 65536 = t
  unfold placedI
  omega
theorem place_one (x a t : Int) : placeI x 1 a t % 65536 = (t - a) % 65536 := by
  show placedI x ((t - a) % 4294967296) % 65536 = _
  unfold placedI
  omega
set_option maxHeartbeats 16000000 in
set_option maxRecDepth 100000 in
theorem filled_walk (A : Option Addr) (n c : Nat) (l : List RawP) (w : World) (h : PartsRd w A n l) :
    Calls Tryd.prog 5 #[.slice A n c] w fun e w' => e = .returned (.bool true) ∧ Ext w w' := by
  have HP := hide h
  have HOB := hide (objects_any A n c l w h)
  clear h
  go_enter Tryd.func5, Tryd.ntmps5
  go_wp2_with fail
  refine HOB.out.mono ?_
  rintro e w1 ⟨ps, A1, c1, rfl, hacc, hst⟩
  have hf := facts_of HP.out hacc
  have HF := hide hf
  have HG := hide (hst.good hf.chk hf.sm)
  have HX1 := hide hst.ext
  have hn6 := hf.len
  have hfit := hf.fits
  have HFIT := hide hfit
  have HBC := hide (bytes_any A1 ps.length c1 ps w1 HG.out (by omega) hfit)
  clear hacc hst hf HOB
  go_wp2_with fail
  refine HBC.out.mono ?_
  rintro e w2 ⟨hx2, hcase⟩
  have HX2 := hide (HX1.out.trans hx2)
  have HG2 := hide (HG.out.ext hx2)
  have HSP := hide (spots_any A1 ps.length c1 ps w2 HG2.out (by omega) hfit)
  clear HBC HX1 HG
  obtain ⟨Ab, nb, cb, z, rfl, hz⟩ : ∃ Ab nb cb z, e = .returned (.tuple #[.slice Ab nb cb, .int .i64 z]) ∧ ((z = 4 ∨ z = 5) ∨ (z = 0 ∧ nb = endL ps ∧ ∃ S bs, placesP ps = some S ∧ bytesP ps S = some bs ∧ w2.ownsRow w1.heap.size 5 1 (.slice Ab nb cb) nb (bytesV bs))) := by
    rcases hcase with ⟨S, bs, Ab, cb, h1, h2, h3, rfl, h4⟩ | ⟨h1, rfl⟩ | ⟨S, h1, h2, rfl⟩
    · exact ⟨Ab, endL ps, cb, 0, rfl, .inr ⟨rfl, rfl, S, bs, h1, h2, h4⟩⟩
    · exact ⟨none, 0, 0, 5, rfl, .inl (.inr rfl)⟩
    · exact ⟨none, 0, 0, 4, rfl, .inl (.inl rfl)⟩
  clear hx2 hcase
  have HZ := hide hz
  clear hz
  go_wp2_with fail
  refine HSP.out.mono ?_
  rintro e w3 ⟨As, cs, rfl, ho3, hx3⟩
  have HRS := hide (Reads.of_own ho3)
  have HX3 := hide (HX2.out.trans hx3)
  have HG3 := hide (HG2.out.ext hx3)
  have HX23 := hide hx3
  have HPC := hide (places_any A1 ps.length c1 ps w3 HG3.out (by omega) hfit)
  clear ho3 hx3 HSP HX2 HG2
  go_wp2_with fail
  refine HPC.out.mono ?_
  rintro e w4x ⟨hx4, hpc⟩
  have HX4 := hide (HX3.out.trans hx4)
  have HG4 := hide (HG3.out.ext hx4)
  have HX24 := hide (HX23.out.trans hx4)
  have HRS4 := hide (hx4.reads HRS.out (Nat.le_refl _))
  obtain ⟨Ap, np, cp, zp, rfl, hzp⟩ : ∃ Ap np cp zp, e = .returned (.tuple #[.slice Ap np cp, .int .i64 zp]) ∧ ((zp = 5 ∧ placesP ps = none) ∨ (zp = 0 ∧ ∃ S, placesP ps = some S ∧ np = S.out.length ∧ w4x.ownsRow w3.heap.size plT 3 (.slice Ap np cp) np (S.out.flatMap plC))) := by
    rcases hpc with ⟨S, Ap, cp, h1, rfl, h2⟩ | ⟨h1, rfl⟩
    · exact ⟨Ap, _, cp, 0, rfl, .inr ⟨rfl, S, h1, rfl, h2⟩⟩
    · exact ⟨none, 0, 0, 5, rfl, .inl ⟨rfl, h1⟩⟩
  have HZ34 := hide hx4.size
  clear hx4 hpc HRS HX3 HG3 HX23 HPC
  have HZP := hide hzp
  clear hzp
  go_wp2_with fail
  refine (linked_ok w4x).mono ?_
  rintro e w5 ⟨rfl, hx5⟩
  have HX5 := hide (HX4.out.trans hx5)
  have HG5 := hide (HG4.out.ext hx5)
  have HX25 := hide (HX24.out.trans hx5)
  have HRS5 := hide (hx5.reads HRS4.out HZ34.out)
  have HZ35 := hide (Nat.le_trans HZ34.out hx5.size)
  rcases HZ.out with hz | ⟨rfl, rfl, S, bs, hS, hbp, hob⟩
  case inl =>
    clear HZ HZP hx5
    rcases hz with rfl | rfl
    all_goals
      go_wp2_with fail
      go_ret
      exact ⟨rfl, HX5.out⟩
  case inr =>
    obtain ⟨rfl, hnp, hop⟩ : zp = 0 ∧ np = S.out.length ∧ w4x.ownsRow w3.heap.size plT 3 (.slice Ap np cp) np (S.out.flatMap plC) := by
      rcases HZP.out with ⟨-, h1⟩ | ⟨h0, S', h1, h2, h3⟩
      · rw [hS] at h1; cases h1
      · rw [hS] at h1
        injection h1 with h1
        subst h1
        exact ⟨h0, h2, h3⟩
    subst hnp
    have HBP := hide hbp
    have HS := hide hS
    have HRP := hide (hx5.reads (Reads.of_own hop) (Nat.le_refl _))
    have HAD := hide (places_addr hS HF.out.chk (by omega) hfit)
    have hmx : S.out.length ≤ maxLen := (Nat.le_trans (own_le hop).1 (own_le hop).2)
    unfold maxLen at hmx
    have HRB := hide (HX25.out.reads (Reads.of_own hob) (Nat.le_refl _))
    have hnb := own_le hob
    have HZ2 := hide HX25.out.size
    clear hbp hob hS hop HZ HZP hx5 HX25 HX24 HX4 HG4 HRS4
    obtain ⟨N, hN⟩ : ∃ N, endL ps = N := ⟨_, rfl⟩
    have HN := hide hN
    rw [hN] at hfit HRB hnb ⊢
    clear hN
    have hmm := @run_makeMap Tryd.prog
    have HM0 := hide (MapSI.made w5)
    have HXM := hide ((Ext.refl w5).alloc (.map #[] 0))
    go_upto_region 9 with fail
    go_upto_region 10 with fail
    clear hmm
    generalize w5.alloc (.map #[] 0) = W1 at *
    generalize hgm : w5.heap.size = gm at *
    go_wp2_with fail
    go_loopw [62] (By1Rel w5 gm S.out) (fun i _ => S.out.length - (intOf i).toNat)
    case atStart => exact ⟨0, Nat.zero_le _, rfl, HM0.out, HXM.out⟩
    case round =>
      obtain ⟨k, hk, rfl, hm, hx⟩ := hrel
      have HM := hide hm
      have HX := hide hx
      clear hm hx HM0 HXM
      by_cases hlt : k < S.out.length
      · obtain ⟨b, off, rfl, -⟩ := HRP.out.addr (by omega) (by omega)
        have q0 := HX.out.cell (Reads.elem plC_len HRP.out k hlt (by omega) 0 (by omega) rfl)
        have q1 := HX.out.cell (Reads.elem plC_len HRP.out k hlt (by omega) 1 (by omega) rfl)
        have q2 := HX.out.cell (Reads.elem plC_len HRP.out k hlt (by omega) 2 (by omega) rfl)
        rw [Nat.add_zero] at q0
        have haz := HAD.out _ (List.getElem_mem hlt)
        have HNX := hide (atF_next S.out k hlt)
        generalize S.out[k] = x at *
        obtain ⟨nm, part, az⟩ := x
        dsimp only at q0 q1 q2 haz HNX
        have hb9 := Blk.new wr plT #[.string (str nm), .int .i64 (part : Int), .int .i64 az]
        have hx9 := (Ext.refl wr).alloc (.cells #[.string (str nm), .int .i64 (part : Int), .int .i64 az] plT)
        obtain ⟨W11, hrun1, hm11, hg11⟩ := (HM.out.ext hx9).store (show k < maxLen by simp only [maxLen]; omega) nm (by simp only [maxLen]; omega) az (by omega) (by omega)
        rw [← HNX.out] at hm11
        have HM11 := hide hm11
        have HX11 := hide ((HX.out.trans hx9).grown hg11 (fun j hj => by injection hj with hj; omega))
        clear hm11 hg11 hx9 HX HM
        go_upto_region 13 with fail
        generalize wr.alloc (.cells #[.string (str nm), .int .i64 (part : Int), .int .i64 az] plT) = W9 at *
        generalize wr.heap.size = gp at *
        have p0 : W9.cell? ⟨gp, 0, none⟩ = some (.string (str nm)) := hb9.cell 0
        have p2 : W9.cell? ⟨gp, 2, none⟩ = some (.int .i64 az) := hb9.cell 2
        clear q0 q1 q2 hb9
        go_wp2_with fail
        go_roundw
        case rel => exact ⟨k + 1, by omega, by go_num, HM11.out, HX11.out⟩
        case measure => simp [intOf]; omega
      · obtain rfl : k = S.out.length := by omega
        have HZ35 := hide (show w3.heap.size ≤ w5.heap.size by rw [hgm]; exact HZ35.out)
        have HZ2 := hide (show w2.heap.size ≤ w5.heap.size by rw [hgm]; exact HZ2.out)
        have HAT := hide (atF_bd HAD.out)
        have HM2 := hide (show MapSI wr gm S.out.length (atF S.out) by have := HM.out; rwa [List.take_length] at this)
        have HX6 := hide (HX5.out.trans HX.out)
        have HG6 := hide (HG5.out.ext HX.out)
        have HRS6 := hide (HX.out.reads HRS5.out HZ35.out)
        have HRB6 := hide (HX.out.reads HRB.out HZ2.out)
        have HZ6 := hide (Nat.le_trans HZ2.out HX.out.size)
        clear HM HRP HAD HX HX5 HG5 HRS5 HRB HZ2 hgm hlt
        generalize S.out.length = K at *
        obtain ⟨at_, hat⟩ : ∃ at_, atF S.out = at_ := ⟨_, rfl⟩
        have HA := hide hat
        rw [hat] at HM2 HAT
        clear hat
        go_wp2_with fail
        go_loopw [74] (Kp1Rel wr ps.length) (fun i _ => ps.length - (intOf i).toNat)
        case atStart => exact ⟨0, Nat.zero_le _, rfl, Ext.refl _⟩
        case round =>
          obtain ⟨i, hi, rfl, hx⟩ := hrel
          have HX := hide hx
          clear hx
          by_cases hlt : i < ps.length
          · obtain ⟨b, off, o, v, hi', rfl, hpi, hrd, hck, hsm, q0, q1, q2, q3⟩ := (HG6.out.ext HX.out).at_ i hlt
            obtain ⟨hbl, W, hW, hWl, hWb, hWd⟩ := bytesP_spec HBP.out i hi'
            have hcf := code_fits ps i hi'
            rw [HN.out] at hbl hcf
            rw [hpi] at hW hWl hcf
            rw [HA.out] at hW
            clear hWd
            obtain ⟨bs', os, rfl, -⟩ := HRS6.out.addr (by omega) (by omega)
            have hsl : i < (spotsL ps).length := by simp [spotsL]; omega
            have s0 := HX.out.cell (Reads.elem spC_len HRS6.out i hsl (by omega) 0 (by omega) rfl)
            rw [Nat.add_zero, show (spotsL ps)[i] = (cAt ps i, dAt ps i) by simp [spotsL]] at s0
            obtain ⟨B1, m1, d1, B2, m2, d2, B3, m3, d3, B4, m4, d4⟩ := v
            dsimp only at q0 q1 q2 q3 s0 hW hWl hcf
            have hl1 : o.code.length = m1 := hrd.l1
            have hl4 : o.needs.length = m4 := hrd.l4
            have hm1 : m1 ≤ 128 := by have := hck.code; omega
            have hm4 : m4 ≤ 40 := by have := hck.nds; omega
            have hcpos : 16 ≤ cAt ps i := by unfold cAt; omega
            have hx9 := (Ext.refl wr).alloc (.cells #[.slice B1 m1 d1, .slice B2 m2 d2, .slice B3 m3 d3, .slice B4 m4 d4] obT)
            have hb9 := Blk.new wr obT #[.slice B1 m1 d1, .slice B2 m2 d2, .slice B3 m3 d3, .slice B4 m4 d4]
            have HX9 := hide (HX.out.trans hx9)
            have HRD := hide (hrd.ext hx9)
            have HSM := hide hsm
            have HCK := hide hck
            have s0 := hx9.cell s0
            have HWB := hide hWb
            have HFL := hide (wordsP_fill o.needs o.code W hW hck.rising (fun x hx => by
              obtain ⟨-, -, -, h1, h2, h3⟩ := hck.needs x hx
              exact ⟨h1, h2, h3⟩))
            clear hrd hck hsm hpi hx9 hW hWb HX
            generalize cAt ps i = ca at *
            rw [hl1] at hWl hcf
            go_upto_region 18 with fail
            generalize wr.alloc (.cells #[.slice B1 m1 d1, .slice B2 m2 d2, .slice B3 m3 d3, .slice B4 m4 d4] obT) = W9 at *
            generalize wr.heap.size = gb at *
            clear q0 q1 q2 q3
            have p3 : W9.cell? ⟨gb, 3, none⟩ = some (.slice B4 m4 d4) := hb9.cell 3
            have HB9 := hide hb9
            have HS0 := hide s0
            clear hb9
            go_wp2_with fail
            clear s0 p3
            go_loopw [82] (Kp2Rel W9 m4 gb #[.slice B1 m1 d1, .slice B2 m2 d2, .slice B3 m3 d3, .slice B4 m4 d4]) (fun k _ => m4 - (intOf k).toNat)
            case atStart => exact ⟨0, Nat.zero_le _, rfl, HB9.out, Ext.refl _⟩
            case round =>
              obtain ⟨k, hk, rfl, hbx, hx⟩ := hrel
              have HBX := hide hbx
              have HX := hide hx
              clear hbx hx
              by_cases hlt2 : k < m4
              · have hkl : k < o.needs.length := by omega
                have hR4 := HX.out.reads HRD.out.needs (Nat.le_refl _)
                dsimp only at hR4
                obtain ⟨b4, o4, rfl, -⟩ := hR4.addr (by omega) (by omega)
                have q0 := Reads.elem neC_len hR4 k hkl (by omega) 0 (by omega) rfl
                have q1 := Reads.elem neC_len hR4 k hkl (by omega) 1 (by omega) rfl
                have q2 := Reads.elem neC_len hR4 k hkl (by omega) 2 (by omega) rfl
                rw [Nat.add_zero] at q0
                have hok := HCK.out.needs _ (List.getElem_mem hkl)
                have hnl := nameB_len hok.1
                have hfn := HFL.out _ (List.getElem_mem hkl)
                generalize o.needs[k] = x at *
                obtain ⟨pos, nm, kind⟩ := x
                obtain ⟨-, hk1, hk2, hp1, hp2, hp3⟩ := hok
                dsimp only at q0 q1 q2 hnl hk1 hk2 hp1 hp2 hp3 hfn
                obtain ⟨j, rfl⟩ : ∃ j : Nat, pos = 4 * (j : Int) := ⟨(pos / 4).toNat, by omega⟩
                have hj : j < m1 := by omega
                have hjc : j < o.code.length := by omega
                rw [show (4 * (j : Int)).toNat / 4 = j by omega] at hfn
                obtain ⟨tz, hat1, hwj⟩ := hfn
                obtain ⟨ht1, ht2⟩ := HAT.out nm tz hat1
                have hR1 := HRD.out.code
                dsimp only at hR1
                obtain ⟨b1, o1, rfl, -, hcell⟩ := hR1.at1 (by omega)
                have qc := HX.out.cell (hcell j hj)
                rw [show (codeV o.code)[j]'(by rw [codeV_len]; exact hjc) = .int .u32 ((o.code.getD j 0 : Nat) : Int) by simp [codeV, List.getD_eq_getElem?_getD, List.getElem?_eq_getElem hjc]] at qc
                have hxw : o.code.getD j 0 < 4294967296 := HSM.out.word _ (by rw [List.getD_eq_getElem?_getD, List.getElem?_eq_getElem hjc]; exact List.getElem_mem _)
                generalize o.code.getD j 0 = xw at *
                obtain ⟨m, hm⟩ : ∃ m, ca + 4 * j = m := ⟨_, rfl⟩
                have hmi : (ca : Int) + 4 * (j : Int) = (m : Int) := by omega
                have hmN : m + 4 ≤ N := by omega
                rw [hmi] at hwj
                have hpb := placeI_bd (xw : Int) kind (m : Int) tz (by omega) (by omega) ht1 ht2
                obtain ⟨pz, hpz⟩ : ∃ pz : Nat, placeI (xw : Int) kind (m : Int) tz = (pz : Int) := ⟨_, (Int.toNat_of_nonneg hpb.1).symm⟩
                have HK := hide (And.intro (show kind = 3 → (pz : Int) = tz from fun h => by subst h; rw [← hpz]; rfl) (And.intro (show kind ≠ 3 → (pz : Int) / 65536 = (xw : Int) / 65536 from fun h => by rw [← hpz]; exact place_high _ _ _ _ (by omega) h) (And.intro (show kind = 2 → (pz : Int) % 65536 = tz from fun h => by subst h; rw [← hpz]; exact place_two _ _ _ ht1 ht2) (show kind = 1 → (pz : Int) % 65536 = (tz - m) % 65536 from fun h => by subst h; rw [← hpz]; exact place_one _ _ _))))
                rw [hpz] at hwj hpb
                rw [Int.toNat_natCast] at hwj
                clear hpz
                have hkW : j < W.length := by omega
                have hWj : W[j] = pz := by rw [List.getElem?_eq_getElem hkW] at hwj; injection hwj
                have HB0 := hide (getD_of ((word_at HWB.out j hkW 0 (by omega)).trans (show (w4 W[j])[0]? = some ((w4 W[j]).getD 0 0) from rfl)))
                have HB1 := hide (getD_of ((word_at HWB.out j hkW 1 (by omega)).trans (show (w4 W[j])[1]? = some ((w4 W[j]).getD 1 0) from rfl)))
                have HB2 := hide (getD_of ((word_at HWB.out j hkW 2 (by omega)).trans (show (w4 W[j])[2]? = some ((w4 W[j]).getD 2 0) from rfl)))
                have HB3 := hide (getD_of ((word_at HWB.out j hkW 3 (by omega)).trans (show (w4 W[j])[3]? = some ((w4 W[j]).getD 3 0) from rfl)))
                rw [hm, hWj] at HB0 HB1 HB2 HB3
                have HJ := hide (w4_join pz (by omega))
                clear hWj hwj hR1 hcell hR4
                have hb10 := Blk.new wr neT #[.int .i64 (4 * (j : Int)), .string (str nm), .int .i64 kind]
                have hx10 := (Ext.refl wr).alloc (.cells #[.int .i64 (4 * (j : Int)), .string (str nm), .int .i64 kind] neT)
                have HX10 := hide (HX.out.trans hx10)
                have HBX10 := hide (HBX.out.ext hx10)
                have qc := hx10.cell qc
                clear hx10 HX HBX
                go_upto_region 21 with fail
                generalize wr.alloc (.cells #[.int .i64 (4 * (j : Int)), .string (str nm), .int .i64 kind] neT) = W10 at *
                generalize wr.heap.size = gn at *
                clear q0 q1 q2
                have HB10 := hide hb10
                have QC := hide qc
                have b0 : W10.cell? ⟨gn, 0, none⟩ = some (.int .i64 (4 * (j : Int))) := hb10.cell 0
                have s0 := HX10.out.cell HS0.out
                clear hb10 qc
                have hw2 : IntKind.i64.wrap ((ca : Int) + 4 * (j : Int)) = (m : Int) := by rw [IntKind.wrap_i64]; omega
                go_quiet (fail)
                have HXQ := hide ((Ext.refl W10).drewN nq)
                have HX11 := hide (HX10.out.trans HXQ.out)
                have HBX11 := hide (HBX10.out.ext HXQ.out)
                have HB11 := hide (HB10.out.ext HXQ.out)
                have QC11 := hide (HXQ.out.cell QC.out)
                clear s0 b0 hw2 HX10 HBX10 HB10 QC HXQ
                generalize W10.drewN nq = W11 at *
                have hmi0 : decide ((m : Int) < 0) = false := decide_eq_false (by omega)
                have hw4 : IntKind.i64.wrap ((m : Int) + 4) = (m : Int) + 4 := by rw [IntKind.wrap_i64]; omega
                have hg1 : decide ((N : Int) < (m : Int) + 4) = false := decide_eq_false (by omega)
                have hq4 : (4 * (j : Int)).tdiv 4 = (j : Int) := by rw [Int.tdiv_eq_ediv_of_nonneg (by omega)]; omega
                have hg2 : decide ((m1 : Int) ≤ (j : Int)) = false := decide_eq_false (by omega)
                have hg3 : decide (m1 ≤ j) = false := decide_eq_false (by omega)
                have b0 : W11.cell? ⟨gn, 0, none⟩ = some (.int .i64 (4 * (j : Int))) := HB11.out.cell 0
                have c0x : W11.cell? ⟨gb, 0, none⟩ = some (.slice (some ⟨b1, o1, none⟩) m1 d1) := HBX11.out.cell 0
                have hRB := (HX9.out.trans HX11.out).reads HRB6.out HZ6.out
                obtain ⟨bB, oB, rfl, -⟩ := hRB.at1 (by omega)
                have c0 := cells_of hRB m (by omega)
                have c1' := cells_of hRB (m + 1) (by omega)
                have c2' := cells_of hRB (m + 2) (by omega)
                have c3' := cells_of hRB (m + 3) (by omega)
                rw [show bs.getD m 0 = (w4 pz).getD 0 0 from HB0.out] at c0
                rw [HB1.out] at c1'
                rw [HB2.out] at c2'
                rw [HB3.out] at c3'
                have z0b := ((w4 pz).getD 0 0).toNat_lt
                have z1b := ((w4 pz).getD 1 0).toNat_lt
                have z2b := ((w4 pz).getD 2 0).toNat_lt
                have z3b := ((w4 pz).getD 3 0).toNat_lt
                clear HB0 HB1 HB2 HB3
                generalize ((w4 pz).getD 0 0).toNat = z0 at *
                generalize ((w4 pz).getD 1 0).toNat = z1 at *
                generalize ((w4 pz).getD 2 0).toNat = z2 at *
                generalize ((w4 pz).getD 3 0).toNat = z3 at *
                obtain ⟨j1, j2, j3⟩ := join4 z0 z1 z2 z3 z0b z1b z2b z3b
                obtain ⟨e1, he1⟩ : ∃ e1, m + 1 = e1 := ⟨_, rfl⟩
                obtain ⟨e2, he2⟩ : ∃ e2, m + 2 = e2 := ⟨_, rfl⟩
                obtain ⟨e3, he3⟩ : ∃ e3, m + 3 = e3 := ⟨_, rfl⟩
                rw [he1] at c1'
                rw [he2] at c2'
                rw [he3] at c3'
                have hi1 : (m : Int) + 1 = (e1 : Int) := by omega
                have hi2 : (m : Int) + 2 = (e2 : Int) := by omega
                have hi3 : (m : Int) + 3 = (e3 : Int) := by omega
                have hwi1 : IntKind.i64.wrap (e1 : Int) = (e1 : Int) := by rw [IntKind.wrap_i64]; omega
                have hwi2 : IntKind.i64.wrap (e2 : Int) = (e2 : Int) := by rw [IntKind.wrap_i64]; omega
                have hwi3 : IntKind.i64.wrap (e3 : Int) = (e3 : Int) := by rw [IntKind.wrap_i64]; omega
                have u0 : IntKind.u32.wrap (z0 : Int) = (z0 : Int) := by rw [IntKind.wrap_u32]; omega
                have u1 : IntKind.u32.wrap (z1 : Int) = (z1 : Int) := by rw [IntKind.wrap_u32]; omega
                have u2 : IntKind.u32.wrap (z2 : Int) = (z2 : Int) := by rw [IntKind.wrap_u32]; omega
                have u3 : IntKind.u32.wrap (z3 : Int) = (z3 : Int) := by rw [IntKind.wrap_u32]; omega
                have u4 : IntKind.u32.wrap ((z1 : Int) * 256) = (z1 : Int) * 256 := by rw [IntKind.wrap_u32]; omega
                have u5 : IntKind.u32.wrap ((z2 : Int) * 65536) = (z2 : Int) * 65536 := by rw [IntKind.wrap_u32]; omega
                have u6 : IntKind.u32.wrap ((z3 : Int) * 16777216) = (z3 : Int) * 16777216 := by rw [IntKind.wrap_u32]; omega
                have hN1 : e1 < N ∧ e2 < N ∧ e3 < N ∧ m < N := by omega
                obtain ⟨hN1, hN2, hN3, hN4⟩ := hN1
                have hj2 : (z0 : Int) + (z1 : Int) * 256 + (z2 : Int) * 65536 + (z3 : Int) * 16777216 = (pz : Int) := by have := HJ.out; omega
                clear HJ
                go_upto_region 24 with fail
                have HH := hide (show at_ nm = some tz ∧ 0 ≤ tz ∧ tz < 30000 ∧ 1 ≤ kind ∧ kind ≤ 3 ∧ j < m1 ∧ nm.length ≤ 12 ∧ xw < 4294967296 ∧ (pz : Int) ≤ 4294967295 ∧ m1 ≤ 128 ∧ m ≤ N ∧ k < m4 ∧ i < ps.length ∧ k < o.needs.length ∧ m4 ≤ 40 from ⟨hat1, ht1, ht2, hk1, hk2, hj, hnl.2, hxw, hpb.2, hm1, by omega, hlt2, hlt, hkl, hm4⟩)
                have HHN := hide (And.intro hfit hn6)
                clear hat1 ht1 ht2 hk1 hk2 hj hjc hnl hxw hpb hm1 hlt2 hlt hkl hm4 hp1 hp2 hp3 hmi hm hcf hbl hl1 hl4 hmN hkW hWl hcpos hsl hk hi hi' he1 he2 he3 z0b z1b z2b z3b b0 c0x hmi0 hw4 hg1 hq4 hg2 hg3 hRB hfit hn6 hmx
                go_quiet (fail)
                have HXQ := hide ((Ext.refl W11).drewN nq)
                have HX12 := hide (HX11.out.trans HXQ.out)
                have HBX12 := hide (HBX11.out.ext HXQ.out)
                have HB12 := hide (HB11.out.ext HXQ.out)
                have QC12 := HXQ.out.cell QC11.out
                clear c0 c1' c2' c3' hi1 hi2 hi3 hwi1 hwi2 hwi3 u0 u1 u2 u3 u4 u5 u6 j1 j2 j3 hj2 HX11 HBX11 HB11 QC11 HXQ hN1 hN2 hN3 hN4
                generalize W11.drewN nq = W12 at *
                obtain ⟨hat1, ht1, ht2, hk1, hk2, hj, hnl, hxw, hpb, hm1, hmN, hlt2, hlt, hkl, hm4⟩ := HH.out
                obtain ⟨hfit, hn6⟩ := HHN.out
                clear HH HHN
                have r0 : W12.cell? ⟨gn, 0, none⟩ = some (.int .i64 (4 * (j : Int))) := HB12.out.cell 0
                have r1 : W12.cell? ⟨gn, 1, none⟩ = some (.string (str nm)) := HB12.out.cell 1
                have r2 : W12.cell? ⟨gn, 2, none⟩ = some (.int .i64 kind) := HB12.out.cell 2
                have c0x : W12.cell? ⟨gb, 0, none⟩ = some (.slice (some ⟨b1, o1, none⟩) m1 d1) := HBX12.out.cell 0
                have hl := (HM2.out.ext (HX9.out.trans HX12.out)).look nm (by simp only [maxLen]; omega)
                rw [hat1] at hl
                obtain ⟨HK3, HKH, HK2, HK1⟩ := HK.out
                clear HK
                have f1 := and16b (pz : Int) (by omega) hpb
                have q4 : (4 * (j : Int)).tdiv 4 = (j : Int) := by rw [Int.tdiv_eq_ediv_of_nonneg (by omega)]; omega
                have f4 : IntKind.i64.wrap tz = tz := by rw [IntKind.wrap_i64]; omega
                rcases (show kind = 1 ∨ kind = 2 ∨ kind = 3 by omega) with rfl | rfl | rfl
                · have g1 := HK1 rfl
                  have g2 := HKH (by decide)
                  clear HK1 HKH HK2 HK3
                  rw [g1] at f1
                  have f2 := wrap_i16' (tz - m) (by omega) (by omega)
                  have f3 : IntKind.i64.wrap (tz - m) = tz - m := by rw [IntKind.wrap_i64]; omega
                  go_wp2_with fail
                  go_roundw
                  case rel => exact ⟨k + 1, by omega, by go_num, HBX12.out, HX12.out⟩
                  case measure => simp [intOf]; omega
                · have g1 := HK2 rfl
                  have g2 := HKH (by decide)
                  clear HK1 HKH HK2 HK3
                  rw [g1] at f1
                  go_wp2_with fail
                  go_roundw
                  case rel => exact ⟨k + 1, by omega, by go_num, HBX12.out, HX12.out⟩
                  case measure => simp [intOf]; omega
                · have g1 := HK3 rfl
                  clear HK1 HKH HK2 HK3 f1
                  have f2 : IntKind.u32.wrap tz = tz := by rw [IntKind.wrap_u32]; omega
                  rw [g1]
                  go_wp2_with fail
                  go_roundw
                  case rel => exact ⟨k + 1, by omega, by go_num, HBX12.out, HX12.out⟩
                  case measure => simp [intOf]; omega
              · obtain rfl : k = m4 := by omega
                go_wp2_with fail
                go_roundw
                case rel => exact ⟨i + 1, by omega, by go_num, HX9.out.trans HX.out⟩
                case measure => simp [intOf]; omega
          · obtain rfl : i = ps.length := by omega
            go_wp2_with fail
            go_ret
            exact ⟨rfl, HX6.out.trans HX.out⟩
end Go.Proofs.YtljlniehbenefaaDoor
