/- The contract of bind.Link. -/
import Derived.Test.YtljlniehbenefaaDoorBdLinkP
import Derived.Test.YtljlniehbenefaaDoorBdBytes
namespace Go.Proofs.YtljlniehbenefaaDoor
open Go.RowKit
set_option linter.unusedVariables false

def opL27 : Op := Op.load 67 (Operand.tmp 83)
theorem opL27_eq : opL27 = Op.load 67 (Operand.tmp 83) := rfl
theorem ext_atL {a b c : World} {r : Option Nat} (hg : b.grownBy c r) (h : Ext a b) : Ext a b := h
def LinkOut (w : World) (ps : List ObX) (e : Ending) (w' : World) : Prop :=
  Ext w w' ∧ ((∃ S bs pgs A c, placesP ps = some S ∧ bytesP ps S = some bs ∧ bs.length = endL ps ∧ 16 ≤ entryP S.out ∧ entryP S.out < 16 + (cLen ps : Int) ∧ PgsIs bs (upN (16 + cLen ps) 16) pgs ∧ endL ps ≤ 16 + 16 * pgs.length ∧ (0 < pgs.length → 16 + 16 * (pgs.length - 1) < endL ps)
      ∧ e = .returned (.tuple #[.agg #[.int .u32 (entryP S.out), .slice A pgs.length c], .int .i64 0]) ∧ Reads w' w'.heap.size 3 A pgs.length (pgsV pgs) ∧ (∀ p ∈ pgs, Reads w' w'.heap.size 1 p.D p.m (bytesV p.ds)) ∧ pgs.length ≤ maxLen)
    ∨ ((placesP ps = none ∨ ∃ S, placesP ps = some S ∧ (bytesP ps S = none ∨ ¬ (16 ≤ entryP S.out ∧ entryP S.out < 16 + (cLen ps : Int)))) ∧ ∃ z : Int, (z = 4 ∨ z = 5) ∧ e = .returned (.tuple #[.agg #[.int .u32 0, .slice none 0 0], .int .i64 z])))
def Lk1Rel (w1 : World) (ps : List ObX) (v8 v33 : Value) (wr : World) : Prop := ∃ k : Nat, k ≤ ps.length ∧ v33 = .int .i64 k ∧ v8 = .int .i64 (cLen (ps.take k) : Int) ∧ Ext w1 wr
def Lk2Rel (w2 : World) (gi : Nat) (l : List PlD) (v47 : Value) (wr : World) : Prop := ∃ k : Nat, k ≤ l.length ∧ v47 = .int .i64 k ∧ LkSt w2 gi (entryP (l.take k)) [] none 0 wr
def Lk3Rel (w2 : World) (gi : Nat) (en : Int) (bs : Bs) (code N : Nat) (v15 : Value) (wr : World) : Prop :=
  ∃ (pgs : List PgD) (A : Option Addr) (c : Nat), v15 = .int .i64 (16 + 16 * (pgs.length : Int)) ∧ (0 < pgs.length → 16 + 16 * (pgs.length - 1) < N) ∧ PgsIs bs code pgs ∧ LkSt w2 gi en pgs A c wr
theorem pg_info : (Tryd.prog.info? 88).map (fun i => (i.zero, i.size, i.bytes)) = some (some (.agg #[.int .i64 0, .int .i64 0, .slice none 0 0]), 3, 40) := by kernel_rfl
set_option maxHeartbeats 16000000 in
set_option maxRecDepth 100000 in
theorem link_any (A : Option Addr) (n c : Nat) (ps : List ObX) (w : World) (h : Good w A n ps) (hn : n ≤ 12) (hfit : endL ps ≤ 1024) :
    Calls Tryd.prog 21 #[.slice A n c] w (LinkOut w ps) := by
  obtain ⟨i0, hi0, hz0, hz1, hz2⟩ := info_parts pg_info
  obtain ⟨u0, hu0, hu1, hu2, hu3⟩ := info_parts u8_info2
  have HG := hide h
  have hpl := h.len
  have HFIT := hide hfit
  have HBC := hide (fun (W : World) (hx : Ext w W) => bytes_any A n c ps W (h.ext hx) hn hfit)
  have HPC := hide (fun (W : World) (hx : Ext w W) => places_any A n c ps W (h.ext hx) hn hfit)
  have HB0 := hide (Blk.new w imT #[.int .u32 0, .slice none 0 0])
  have HX0 := hide ((Ext.refl w).alloc (.cells #[.int .u32 0, .slice none 0 0] imT))
  clear h
  go_enter Tryd.func21, Tryd.ntmps21
  go_upto_region 1 with fail
  generalize w.alloc (.cells #[.int .u32 0, .slice none 0 0] imT) = W0 at *
  obtain ⟨g2, hg2⟩ : ∃ g2, w.heap.size = g2 := ⟨_, rfl⟩
  have HG2 := hide hg2
  rw [hg2] at HB0 ⊢
  clear hg2
  go_wp2_with fail
  refine (HBC.out _ HX0.out).mono ?_
  rintro e w1 ⟨hx1, hcase⟩
  have HX1 := hide (HX0.out.trans hx1)
  have HB1 := hide (HB0.out.ext hx1)
  clear hx1 HX0 HB0 HBC
  rcases hcase with ⟨S, bs, Ab, cb, hS, hB, hbl, rfl, ho1⟩ | hcase
  case inr =>
    have HR := hide (show (placesP ps = none ∨ ∃ S, placesP ps = some S ∧ (bytesP ps S = none ∨ ¬ (16 ≤ entryP S.out ∧ entryP S.out < 16 + (cLen ps : Int)))) ∧ ∃ z : Int, (z = 4 ∨ z = 5) ∧ e = .returned (.tuple #[.slice none 0 0, .int .i64 z]) by
      rcases hcase with ⟨h1, h2⟩ | ⟨S, h1, h2, h3⟩
      · exact ⟨.inl h1, 5, .inr rfl, h2⟩
      · exact ⟨.inr ⟨S, h1, .inl h2⟩, 4, .inl rfl, h3⟩)
    obtain ⟨hr1, z, hz, rfl⟩ := HR.out
    have HR1 := hide hr1
    have f0 := HB1.out.frozen 0
    have f1 := HB1.out.frozen 1
    have b0 : w1.cell? ⟨g2, 0, none⟩ = some (.int .u32 0) := HB1.out.cell 0
    have b1 : w1.cell? ⟨g2, 1, none⟩ = some (.slice none 0 0) := HB1.out.cell 1
    clear hcase HR hr1
    have HZ := hide hz
    have tz : (z == 0) = false := by rcases hz with rfl | rfl <;> rfl
    have tz2 : (!(z == 0)) = true := by rw [tz]; rfl
    clear hz
    go_wp2_with fail
    have hs9 := (HB1.out.set_ 0 (.int .u32 0)).set_ 1 (.slice none 0 0)
    have HX9 := hide ((HX1.out.setCell (p := ⟨g2, 0, none⟩) (by rw [HG2.out]; exact Nat.le_refl _) (.int .u32 0)).setCell (p := ⟨g2, 1, none⟩) (by rw [HG2.out]; exact Nat.le_refl _) (.slice none 0 0))
    generalize (w1.setCell ⟨g2, 0, none⟩ (.int .u32 0)).setCell ⟨g2, 1, none⟩ (.slice none 0 0) = W9 at *
    have y0 : W9.cell? ⟨g2, 0, none⟩ = some (.int .u32 0) := hs9.cell 0
    have y1 : W9.cell? ⟨g2, 1, none⟩ = some (.slice none 0 0) := hs9.cell 1
    exact bodyPost_ret (v := .tuple #[.agg #[.int .u32 0, .slice none 0 0], .int .i64 z]) (by simp [results, Tryd.results21, go_sem, y0, y1]) rfl ⟨HX9.out, .inr ⟨HR1.out, z, HZ.out, rfl⟩⟩
  case inl =>
    have HS := hide hS
    have HBY := hide hB
    have HBL := hide hbl
    have HRB := hide (Reads.of_own ho1)
    have HAD := hide (places_addr hS HG.out.chk (by omega) hfit)
    have hcb := cLen_bd HG.out.chk (by omega)
    obtain ⟨N, hN⟩ : ∃ N, endL ps = N := ⟨_, rfl⟩
    have HN := hide hN
    rw [hN] at hfit HFIT HBL HRB ⊢
    have hnb := own_le ho1
    rw [hN] at hnb
    have hPC := HPC.out w1 HX1.out
    have HPC1 := hide hPC
    clear hS hB hbl ho1 HPC hPC hN
    go_wp2_with fail
    refine HPC1.out.mono ?_
    rintro e w2 ⟨hx2, ⟨S', Ap, cp, hS', rfl, ho2⟩ | ⟨hS', rfl⟩⟩
    case inr => rw [HS.out] at hS'; cases hS'
    case inl =>
      rw [HS.out] at hS'
      injection hS' with hS'
      subst hS'
      have HX2 := hide (HX1.out.trans hx2)
      have HB2 := hide (HB1.out.ext hx2)
      have HRB2 := hide (hx2.reads HRB.out (Nat.le_refl _))
      have HZB := hide hx2.size
      have HRP := hide (Reads.of_own ho2)
      have hmx := own_le ho2
      clear hx2 ho2 HX1 HB1 HRB HPC1
      go_wp2_with fail
      go_loopw [8, 33] (Lk1Rel w2 ps) (fun _ i _ => n - (intOf i).toNat)
      case atStart => exact ⟨0, Nat.zero_le _, rfl, rfl, Ext.refl _⟩
      case round =>
        obtain ⟨k, hk, rfl, rfl, hx⟩ := hrel
        have HX := hide hx
        clear hx
        by_cases hlt : k < n
        · obtain ⟨b, off, o, v, hi', rfl, hpi, hrd, hck, hsm, q0, q1, q2, q3⟩ := HG.out.at_ k hlt
          obtain ⟨A1, n1, c1, A2, n2, c2, A3, n3, c3, A4, n4, c4⟩ := v
          have hl1 : o.code.length = n1 := hrd.l1
          have HNX := hide (show (cLen (ps.take (k + 1)) : Int) = (cLen (ps.take k) : Int) + 4 * (n1 : Int) by have h1 := cLen_next ps k hi'; rw [hpi] at h1; dsimp only at h1; omega)
          have hcl : cLen (ps.take k) ≤ 6144 := Nat.le_trans (sum_take_le (fun p : ObX => 4 * p.1.code.length) ps k) hcb
          have hn1 : n1 ≤ 128 := by have := hck.code; omega
          have q0 := (HX2.out.trans HX.out).cell q0
          have q1 := (HX2.out.trans HX.out).cell q1
          have q2 := (HX2.out.trans HX.out).cell q2
          have q3 := (HX2.out.trans HX.out).cell q3
          dsimp only at q0 q1 q2 q3
          have HXN := hide (HX.out.alloc (.cells #[.slice A1 n1 c1, .slice A2 n2 c2, .slice A3 n3 c3, .slice A4 n4 c4] obT))
          generalize cLen (ps.take k) = cl at *
          clear hpi hrd hck hsm HX
          go_wp2_with fail
          go_roundw
          case rel => exact ⟨k + 1, by omega, by go_num, by rw [HNX.out], HXN.out⟩
          case measure => simp [intOf]; omega
        · obtain rfl : k = n := by omega
          rw [List.take_of_length_le (by omega)]
          have HB3 := hide (HB2.out.ext HX.out)
          have HX3 := hide (HX2.out.trans HX.out)
          have HRB3 := hide (HX.out.reads HRB2.out HZB.out)
          have HRP3 := hide (HX.out.reads HRP.out (Nat.le_refl _))
          have HZ3 := hide (Nat.le_trans HZB.out HX.out.size)
          have HZP := hide HX.out.size
          have HUP := hide (fun W : World => calls_back (up_any (16 + cLen ps) 16 W (by omega) (by omega) (by omega)))
          have hub := (upN_bd (16 + cLen ps) 16 (by omega)).2
          clear HX HX2 HB2 HRB2 HRP HZB
          generalize hcl : cLen ps = cl at *
          have HCL := hide hcl
          clear hcl
          generalize wr = w3 at *
          have HL0 := hide (show LkSt w3 w3.heap.size (entryP (S.out.take 0)) [] none 0 (w3.alloc (.cells #[.int .u32 0, .slice none 0 0] imT)) from
            ⟨Blk.new _ _ _, World.ownsRow_nil _ _ _ _, (fun p hp => by cases hp), (Ext.refl w3).alloc _, Nat.le_refl _⟩)
          go_upto_region 12 with fail
          generalize w3.alloc (.cells #[.int .u32 0, .slice none 0 0] imT) = W3 at *
          generalize hgi : w3.heap.size = gi at HL0 ⊢
          have HGI := hide hgi
          clear hgi
          obtain ⟨hmx1, hmx2⟩ := hmx
          unfold maxLen at hmx2
          go_wp2_with fail
          go_loopw [47] (Lk2Rel w3 gi S.out) (fun i _ => S.out.length - (intOf i).toNat)
          case atStart => exact ⟨0, Nat.zero_le _, rfl, HL0.out⟩
          case round =>
            obtain ⟨k, hk, rfl, hst⟩ := hrel
            have HST := hide hst
            clear hst HL0
            by_cases hlt : k < S.out.length
            · obtain ⟨bp, op, rfl, -⟩ := HRP3.out.addr (by omega) (by omega)
              have hxl := HST.out.ext
              have q0 := hxl.cell (Reads.elem plC_len HRP3.out k hlt (by omega) 0 (by omega) rfl)
              have q1 := hxl.cell (Reads.elem plC_len HRP3.out k hlt (by omega) 1 (by omega) rfl)
              have q2 := hxl.cell (Reads.elem plC_len HRP3.out k hlt (by omega) 2 (by omega) rfl)
              rw [Nat.add_zero] at q0
              have haz := (HAD.out _ (List.getElem_mem hlt)).1
              have HNX := hide (entryP_next S.out k hlt)
              generalize S.out[k] = x at *
              obtain ⟨nm, part, az⟩ := x
              dsimp only at q0 q1 q2 haz HNX
              have hx9 := (Ext.refl wr).alloc (.cells #[.string (str nm), .int .i64 (part : Int), .int .i64 az] plT)
              have hb9 := Blk.new wr plT #[.string (str nm), .int .i64 (part : Int), .int .i64 az]
              have HST9 := hide (HST.out.to hx9)
              have hse := start_eq nm
              clear hx9 hxl HST
              go_upto_region 15 with fail
              generalize wr.alloc (.cells #[.string (str nm), .int .i64 (part : Int), .int .i64 az] plT) = W9 at *
              generalize wr.heap.size = gp at *
              have p0 : W9.cell? ⟨gp, 0, none⟩ = some (.string (str nm)) := hb9.cell 0
              have p2 : W9.cell? ⟨gp, 2, none⟩ = some (.int .i64 az) := hb9.cell 2
              have b0 : W9.cell? ⟨gi, 0, none⟩ = some (.int .u32 (entryP (S.out.take k))) := HST9.out.box.cell 0
              have f0 := HST9.out.box.frozen 0
              clear q0 q1 q2 hb9
              by_cases hnm : nm = startS
              · rw [decide_eq_true hnm] at hse
                have HSN := hide (show LkSt w3 gi (entryP (S.out.take (k + 1))) [] none 0 (W9.setCell ⟨gi, 0, none⟩ (.int .u32 az)) by rw [HNX.out, if_pos hnm]; exact HST9.out.entry az)
                clear hnm HST9 HNX
                generalize str nm = sn at *
                generalize entryP (S.out.take k) = en at *
                go_wp2_with fail
                go_roundw
                case rel => exact ⟨k + 1, by omega, by go_num, HSN.out⟩
                case measure => simp [intOf]; omega
              · rw [decide_eq_false hnm] at hse
                have HSN := hide (show LkSt w3 gi (entryP (S.out.take (k + 1))) [] none 0 W9 by rw [HNX.out, if_neg hnm]; exact HST9.out)
                clear hnm HST9 HNX
                generalize str nm = sn at *
                generalize entryP (S.out.take k) = en at *
                go_wp2_with fail
                go_roundw
                case rel => exact ⟨k + 1, by omega, by go_num, HSN.out⟩
                case measure => simp [intOf]; omega
            · obtain rfl : k = S.out.length := by omega
              have HS4 := hide (show LkSt w3 gi (entryP S.out) [] none 0 wr by have := HST.out; rwa [List.take_length] at this)
              have hen : 0 ≤ entryP S.out ∧ entryP S.out < 10000 := by
                rcases entryP_mem S.out 0 with h | ⟨p, hp, -, h⟩
                · unfold entryP; rw [h]; omega
                · unfold entryP; rw [h]; exact (HAD.out p hp).1
              obtain ⟨en, hent⟩ : ∃ en, entryP S.out = en := ⟨_, rfl⟩
              have HEN := hide hent
              rw [hent] at HS4 hen
              clear HST hent
              generalize S.out.length = K at *
              have b0 : wr.cell? ⟨gi, 0, none⟩ = some (.int .u32 en) := HS4.out.box.cell 0
              by_cases he : 16 ≤ en ∧ en < 16 + (cl : Int)
              case neg =>
                have hb4 := HB3.out.ext HS4.out.ext
                have HX4 := hide (HX3.out.trans HS4.out.ext)
                have HRS := hide (show placesP ps = none ∨ ∃ S, placesP ps = some S ∧ (bytesP ps S = none ∨ ¬ (16 ≤ entryP S.out ∧ entryP S.out < 16 + (cl : Int))) from .inr ⟨S, HS.out, .inr (by rw [HEN.out]; exact he)⟩)
                have f0 := hb4.frozen 0
                have f1 := hb4.frozen 1
                have c0 : wr.cell? ⟨g2, 0, none⟩ = some (.int .u32 0) := hb4.cell 0
                have c1 : wr.cell? ⟨g2, 1, none⟩ = some (.slice none 0 0) := hb4.cell 1
                have HB4 := hide hb4
                clear hb4
                by_cases h16 : en < 16
                case' neg => have h17 : 16 + (cl : Int) ≤ en := by omega
                all_goals
                  clear he
                  go_wp2_with fail
                  have hs9 := (HB4.out.set_ 0 (.int .u32 0)).set_ 1 (.slice none 0 0)
                  have HX9 := hide ((HX4.out.setCell (p := ⟨g2, 0, none⟩) (by rw [HG2.out]; exact Nat.le_refl _) (.int .u32 0)).setCell (p := ⟨g2, 1, none⟩) (by rw [HG2.out]; exact Nat.le_refl _) (.slice none 0 0))
                  generalize (wr.setCell ⟨g2, 0, none⟩ (.int .u32 0)).setCell ⟨g2, 1, none⟩ (.slice none 0 0) = W9 at *
                  have y0 : W9.cell? ⟨g2, 0, none⟩ = some (.int .u32 0) := hs9.cell 0
                  have y1 : W9.cell? ⟨g2, 1, none⟩ = some (.slice none 0 0) := hs9.cell 1
                  exact bodyPost_ret (v := .tuple #[.agg #[.int .u32 0, .slice none 0 0], .int .i64 4]) (by simp [results, Tryd.results21, go_sem, y0, y1]) rfl ⟨HX9.out, .inr ⟨by rw [HCL.out]; exact HRS.out, 4, .inl rfl, rfl⟩⟩
              case pos =>
                obtain ⟨he1, he2⟩ := he
                go_upto_region 21 with (refine (HUP.out _).mono ?_; rintro e w5 ⟨rfl, rfl⟩)
                obtain ⟨code, hcode⟩ : ∃ code, upN (16 + cl) 16 = code := ⟨_, rfl⟩
                have HCD := hide hcode
                rw [hcode] at hub ⊢
                clear hcode b0 HUP
                go_wp2_with fail
                go_loopw [15] (Lk3Rel w3 gi en bs code N) (fun v _ => N - (intOf v).toNat)
                case atStart => exact ⟨[], none, 0, by simp, (fun h => by cases h), (fun k h => by cases h), HS4.out⟩
                case round =>
                  obtain ⟨pgs, A7, c7, rfl, hlen, hpg, hst⟩ := hrel
                  have HST := hide hst
                  have HPG := hide hpg
                  have HLN := hide hlen
                  clear hst hpg hlen HS4
                  by_cases hlt : 16 + 16 * pgs.length < N
                  · obtain ⟨k, hk⟩ : ∃ k, pgs.length = k := ⟨_, rfl⟩
                    have HK := hide hk
                    have HPN := hide (show ∀ p, PgIs bs code k p → PgsIs bs code (pgs ++ [p]) from fun p hp => HPG.out.snoc (by rw [hk]; exact hp))
                    have HSTK := HST
                    have hbx := HST.out.box
                    rw [hk] at hlt hbx ⊢
                    have c0 : wr.cell? ⟨gi, 1, none⟩ = some (.slice A7 k c7) := hbx.cell 1
                    obtain ⟨e, hee⟩ : ∃ e : Nat, min (16 + 16 * k + 16) N = e := ⟨_, rfl⟩
                    have hmin : min ((16 : Int) + 16 * (k : Int) + 16) (N : Int) = (e : Int) := by omega
                    have hw1 : IntKind.i64.wrap ((16 : Int) + 16 * (k : Int) + 16) = (16 : Int) + 16 * (k : Int) + 16 := by rw [IntKind.wrap_i64]; omega
                    have hq : ((16 : Int) + 16 * (k : Int)).tdiv 16 = 1 + (k : Int) := by rw [Int.tdiv_eq_ediv_of_nonneg (by omega)]; omega
                    have hq2 : IntKind.i64.wrap (1 + (k : Int)) = 1 + (k : Int) := by rw [IntKind.wrap_i64]; omega
                    obtain ⟨A', hcut, hR', hA'⟩ := cut_mid (P := Tryd.prog) Tryd.underlying36 hu0 hu2 (HST.out.ext.reads HRB3.out HZ3.out) ((16 : Int) + 16 * (k : Int)) (e : Int) (16 + 16 * k) e cb (by omega) rfl (by omega) (by omega) hnb.1 .i64 .i64
                    have hdl : (((bs.drop (16 + 16 * k)).take 16).length) = e - (16 + 16 * k) := by rw [List.length_take, List.length_drop, HBL.out]; omega
                    have hdt : (bs.drop (16 + 16 * k)).take (e - (16 + 16 * k)) = (bs.drop (16 + 16 * k)).take 16 := by
                      rw [List.take_eq_take_iff, List.length_drop, HBL.out]; omega
                    rw [bytesV_drop, bytesV_take, hdt] at hR'
                    have HR' := hide hR'
                    have HDL := hide hdl
                    generalize hm : e - (16 + 16 * k) = m at *
                    have hm16 : m ≤ 16 ∧ 1 ≤ m := by omega
                    generalize hdsx : (bs.drop (16 + 16 * k)).take 16 = ds at *
                    have HDS := hide hdsx.symm
                    clear hdsx
                    obtain ⟨r, hr⟩ : ∃ r : Int, (if 16 + 16 * k < code then (5 : Int) else 3) = r := ⟨_, rfl⟩
                    have HRG := hide hr
                    clear hr hR' hdl hdt hbx hee
                    go_upto_if 82 with fail
                    go_cut [16] from 74 to 100 (fun s16 wx => s16 = .int .i64 r ∧ wr = wx)
                    case first =>
                      by_cases hc : 16 + 16 * k < code
                      · have HE := hide (show r = 5 by rw [← HRG.out, if_pos hc])
                        go_wp2_with fail
                        go_meet
                        exact ⟨by rw [HE.out], rfl⟩
                      · have HE := hide (show r = 3 by rw [← HRG.out, if_neg hc])
                        have hc2 : (code : Int) ≤ 16 + 16 * (k : Int) := by omega
                        have hc3 : decide ((code : Int) ≤ 16 + 16 * (k : Int)) = true := by simpa using hc2
                        go_wp2_with fail
                        go_meet
                        exact ⟨by rw [HE.out], rfl⟩
                    case rest =>
                      obtain ⟨rfl, hwx⟩ := hcut
                      subst hwx
                      go_upto_region 27 with fail
                      rw [← opL27_eq]
                      have hOp := opL27_eq
                      have HBOX := hide HSTK.out.box
                      have HROW := hide HSTK.out.row
                      rw [hk] at HBOX HROW
                      have HSL := hide (show gi + 1 ≤ wr.heap.size from HSTK.out.box.lt)
                      have hcap : cb ≤ 9223372036854775807 := by have := hnb.2; unfold maxLen at this; omega
                      have HLA := hide (show 0 + m ≤ maxLen by simp only [maxLen]; omega)
                      have HLA2 := hide (show (0 + m) * 1 ≤ 140737488355328 by omega)
                      have HLB := hide (show k + 1 ≤ maxLen by simp only [maxLen]; omega)
                      have HLB2 := hide (show (k + 1) * 40 ≤ 140737488355328 by omega)
                      have HXR := hide (show Ext w3 wr from HSTK.out.ext)
                      have m0 : wr.drew.cell? ⟨gi, 1, none⟩ = some (.slice A7 k c7) := c0
                      have m00 : wr.drew.drew.cell? ⟨gi, 1, none⟩ = some (.slice A7 k c7) := c0
                      clear hk
                      go_region_held3 (fun _ => True)
                        (exact True.intro)
                        (first
                          | (refine step_append_any _ (by rfl) (.const (.slice none 0 0)) (.tmp 95) 36 (by rfl) (gi + 1) 5 u0 _ 1 1 Tryd.underlying36 hu0 hu1 hu2 hu3 rfl (by decide) (.slice none 0 0) 0 [] (by rfl) (World.ownsRow_nil _ _ _ _) w1.heap.size A' m _ (bytesV ds) (by rfl) ((show Ext wr _ by ((repeat (first | with_reducible exact Ext.refl _ | with_reducible assumption | with_reducible refine Ext.alloc ?_ _ | with_reducible refine Ext.drew ?_ | with_reducible refine Ext.drewN ?_ _ | with_reducible refine Ext.setCell ?_ (by first | exact Nat.le_refl _ | assumption | (simp; done) | omega) _ | with_reducible refine Ext.trans ?_ (by with_reducible assumption))); done)).reads HR'.out (by have := HZ3.out; have := HXR.out.size; omega)) (bytesV_one _) HLA.out HLA2.out (Nat.le_trans HSL.out (Ext.size (w := wr) (by ((repeat (first | with_reducible exact Ext.refl _ | with_reducible assumption | with_reducible refine Ext.alloc ?_ _ | with_reducible refine Ext.drew ?_ | with_reducible refine Ext.drewN ?_ _ | with_reducible refine Ext.setCell ?_ (by first | exact Nat.le_refl _ | assumption | (simp; done) | omega) _ | with_reducible refine Ext.trans ?_ (by with_reducible assumption))); done)))) ?_; intro A6 c6 w6 ho6 hg6 ha6
                             have HX6 := hide (show Ext wr w6 from (ext_atL hg6 (show Ext wr _ by ((repeat (first | with_reducible exact Ext.refl _ | with_reducible assumption | with_reducible refine Ext.alloc ?_ _ | with_reducible refine Ext.drew ?_ | with_reducible refine Ext.drewN ?_ _ | with_reducible refine Ext.setCell ?_ (by first | exact Nat.le_refl _ | assumption | (simp; done) | omega) _ | with_reducible refine Ext.trans ?_ (by with_reducible assumption))); done))).grown hg6 (fun j hj => by simp [Value.ownBlock] at hj))
                             have HO6 := hide (show w6.ownsRow (gi + 1) 5 1 (.slice A6 m c6) m (bytesV ds) by simpa using ho6)
                             have d0 := HX6.out.cell c0
                             have m1 : w6.drew.cell? ⟨gi, 1, none⟩ = some (.slice A7 k c7) := d0
                             have m2 : ∀ o, (w6.alloc o).cell? ⟨gi, 1, none⟩ = some (.slice A7 k c7) := fun o => ((Ext.refl w6).alloc o).cell d0
                             have m3 : ∀ o, (w6.drew.alloc o).cell? ⟨gi, 1, none⟩ = some (.slice A7 k c7) := fun o => ((Ext.refl w6).drew.alloc o).cell d0
                             have m4 : ∀ o, (w6.alloc o).drew.cell? ⟨gi, 1, none⟩ = some (.slice A7 k c7) := fun o => ((Ext.refl w6).alloc o).drew.cell d0
                             clear ho6 hg6 ha6)
                          | (refine step_append_any _ (by rfl) (.tmp 84) (.tmp 98) 67 (by rfl) (gi + 1) pgT i0 _ 3 40 Tryd.underlying67 hi0 hz0 hz1 hz2 rfl (by decide) (.slice A7 k c7) k (pgsV pgs) (by rfl) (Ext.own (w := w6) (by ((repeat (first | with_reducible exact Ext.refl _ | with_reducible assumption | with_reducible refine Ext.alloc ?_ _ | with_reducible refine Ext.drew ?_ | with_reducible refine Ext.drewN ?_ _ | with_reducible refine Ext.setCell ?_ (by first | exact Nat.le_refl _ | assumption | (simp; done) | omega) _ | with_reducible refine Ext.trans ?_ (by with_reducible assumption))); done)) (HX6.out.own HROW.out)) _ _ 1 1 [.int .i64 (1 + (k : Int)), .int .i64 r, .slice A6 m c6] (by rfl) (by first | exact (Blk.new w6 pgT _).rowsF' 1 3 rfl | exact (Blk.new w6 pgT _).drew.rowsF' 1 3 rfl | exact (Blk.new w6.drew pgT _).rowsF' 1 3 rfl) (by simp [Value.oneCell']) HLB.out HLB2.out (Nat.le_trans HSL.out (Nat.le_trans HX6.out.size (Ext.size (w := w6) (by ((repeat (first | with_reducible exact Ext.refl _ | with_reducible assumption | with_reducible refine Ext.alloc ?_ _ | with_reducible refine Ext.drew ?_ | with_reducible refine Ext.drewN ?_ _ | with_reducible refine Ext.setCell ?_ (by first | exact Nat.le_refl _ | assumption | (simp; done) | omega) _ | with_reducible refine Ext.trans ?_ (by with_reducible assumption))); done))))) ?_; intro A8 c8 w8 ho8 hg8 ha8
                             have HU := hide (ext_atL hg8 (show Ext w6 _ by ((repeat (first | with_reducible exact Ext.refl _ | with_reducible assumption | with_reducible refine Ext.alloc ?_ _ | with_reducible refine Ext.drew ?_ | with_reducible refine Ext.drewN ?_ _ | with_reducible refine Ext.setCell ?_ (by first | exact Nat.le_refl _ | assumption | (simp; done) | omega) _ | with_reducible refine Ext.trans ?_ (by with_reducible assumption))); done)))
                             have hbg := Blk.grown ((HBOX.out.ext HX6.out).ext HU.out) hg8 (own_blk_ne (HU.out.own (HX6.out.own HROW.out)) ((HBOX.out.ext HX6.out).ext HU.out) (by decide)).symm
                             have k9 : w8.cell? ⟨gi, 1, none⟩ = some (.slice A7 k c7) := hbg.cell 1
                             have k8 : w8.frozen? ⟨gi, 1, none⟩ = false := hbg.frozen 1
                             clear hbg)
                          | fail)
                      all_goals
                        have HPGK := hide (show PgIs bs code k ⟨1 + (k : Int), r, A6, m, c6, ds⟩ from ⟨by show (1 : Int) + (k : Int) = _; omega, HRG.out.symm, HDS.out, by show m = ds.length; rw [HDL.out], own_le HO6.out⟩)
                        have HSTN := hide (LkSt.more (p := ⟨1 + (k : Int), r, A6, m, c6, ds⟩) ((HSTK.out.to HX6.out).to HU.out) (HU.out.own HO6.out) (by rw [HK.out]; exact ho8) (by rw [HK.out]; exact hg8))
                        rw [HK.out] at HSTN
                        clear ho8 hg8 ha8 k8 k9 d0 m1 m2 m3 m4 m0 m00 c0 hOp
                        go_wp2_with fail
                        go_roundw
                        case rel => exact ⟨pgs ++ [⟨1 + (k : Int), r, A6, m, c6, ds⟩], A8, c8, by rw [List.length_append, List.length_singleton, HK.out]; go_num, by rw [List.length_append, List.length_singleton, HK.out]; intro _; omega, HPN.out _ HPGK.out, HSTN.out⟩
                        case measure => simp [intOf]; omega
                  · have hbi := HST.out.box
                    have hb2 := HB3.out.ext HST.out.ext
                    have HX4 := hide (HX3.out.trans HST.out.ext)
                    obtain ⟨k, hk⟩ : ∃ k, pgs.length = k := ⟨_, rfl⟩
                    have HK := hide hk
                    have hmxl := own_le HST.out.row
                    rw [hk] at hlt hbi hmxl ⊢
                    have i0c : wr.cell? ⟨gi, 0, none⟩ = some (.int .u32 en) := hbi.cell 0
                    have i1c : wr.cell? ⟨gi, 1, none⟩ = some (.slice A7 k c7) := hbi.cell 1
                    have f0 := hb2.frozen 0
                    have f1 := hb2.frozen 1
                    have c0 : wr.cell? ⟨g2, 0, none⟩ = some (.int .u32 0) := hb2.cell 0
                    have c1 : wr.cell? ⟨g2, 1, none⟩ = some (.slice none 0 0) := hb2.cell 1
                    have HB4 := hide hb2
                    have HMX := hide hmxl
                    clear hbi hb2 hk hmxl
                    go_wp2_with fail
                    have hs9 := (HB4.out.set_ 0 (.int .u32 en)).set_ 1 (.slice A7 k c7)
                    have HX9 := hide ((HX4.out.setCell (p := ⟨g2, 0, none⟩) (by rw [HG2.out]; exact Nat.le_refl _) (.int .u32 en)).setCell (p := ⟨g2, 1, none⟩) (by rw [HG2.out]; exact Nat.le_refl _) (.slice A7 k c7))
                    have hrow := own_far (own_far HST.out.row (p := ⟨g2, 0, none⟩) (own_blk_ne HST.out.row HB4.out (by decide)) (.int .u32 en)) (p := ⟨g2, 1, none⟩) (own_blk_ne HST.out.row HB4.out (by decide)) (.slice A7 k c7)
                    have hdat := fun p hp => own_far (own_far (HST.out.dat p hp) (p := ⟨g2, 0, none⟩) (own_blk_ne (HST.out.dat p hp) HB4.out (by decide)) (.int .u32 en)) (p := ⟨g2, 1, none⟩) (own_blk_ne (HST.out.dat p hp) HB4.out (by decide)) (.slice A7 k c7)
                    have HROW := hide (Reads.of_own hrow)
                    have HDAT := hide (fun p hp => Reads.of_own (hdat p hp))
                    clear hrow hdat
                    generalize (wr.setCell ⟨g2, 0, none⟩ (.int .u32 en)).setCell ⟨g2, 1, none⟩ (.slice A7 k c7) = W9 at *
                    have y0 : W9.cell? ⟨g2, 0, none⟩ = some (.int .u32 en) := hs9.cell 0
                    have y1 : W9.cell? ⟨g2, 1, none⟩ = some (.slice A7 k c7) := hs9.cell 1
                    exact bodyPost_ret (v := .tuple #[.agg #[.int .u32 en, .slice A7 k c7], .int .i64 0]) (by simp [results, Tryd.results21, go_sem, y0, y1]) rfl
                      ⟨HX9.out, .inl ⟨S, bs, pgs, A7, c7, HS.out, HBY.out, by rw [HBL.out, HN.out], by rw [HEN.out]; exact he1, by rw [HEN.out, HCL.out]; exact he2, by rw [HCL.out, HCD.out]; exact HPG.out, by rw [HN.out, HK.out]; omega, by rw [HN.out]; exact HLN.out, by rw [HEN.out, HK.out], HROW.out, HDAT.out, by rw [HK.out]; exact Nat.le_trans HMX.out.1 HMX.out.2⟩⟩
end Go.Proofs.YtljlniehbenefaaDoor
