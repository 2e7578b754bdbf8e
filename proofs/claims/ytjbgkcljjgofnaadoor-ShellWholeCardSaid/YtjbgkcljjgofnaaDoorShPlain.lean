/- The contract of ringkeep4.plain: the walk through five loops. Printed by gen_plain.py from XShPlain.base. -/
import Derived.Test.YtjbgkcljjgofnaaDoorShTxt
namespace Go.Proofs.YtjbgkcljjgofnaaDoor
open Go.RowKit
set_option linter.unusedVariables false

def PL1 (w : World) (b : Nat) (T : List UInt8) (vs : List JobV) (v18 : Value) (wr : World) : Prop := ∃ i : Nat, i ≤ vs.length ∧ v18 = .int .i64 i ∧ ∃ l, TxtAt w b l wr ∧ l ++ ((vs.drop i).map (·.j)).flatMap jobK = T
def PL2 (w : World) (b gj : Nat) (cj : Array Value) (T R : List UInt8) (vs : List PipeV) (v25 : Value) (wr : World) : Prop := ∃ i : Nat, i ≤ vs.length ∧ v25 = .int .i64 i ∧ ∃ l, TxtAt w b l wr ∧ Blk wr gj jobT cj ∧ l ++ (((vs.drop i).map (·.p)).flatMap pipeK ++ R) = T
def PL3 (w : World) (b gj : Nat) (cj : Array Value) (T R : List UInt8) (vs : List CmdV) (v36 : Value) (wr : World) : Prop := ∃ i : Nat, i ≤ vs.length ∧ v36 = .int .i64 i ∧ ∃ l, TxtAt w b l wr ∧ Blk wr gj jobT cj ∧ l ++ (((vs.drop i).map (·.c)).flatMap cmdK ++ R) = T
def PL4 (w : World) (b gj : Nat) (cj : Array Value) (gc : Nat) (cc : Array Value) (T R : List UInt8) (ts : List Tk) (v44 : Value) (wr : World) : Prop := ∃ i : Nat, i ≤ ts.length ∧ v44 = .int .i64 i ∧ ∃ l, TxtAt w b l wr ∧ Blk wr gj jobT cj ∧ Blk wr gc cmdT cc ∧ l ++ ((ts.drop i).flatMap wordK ++ R) = T
def PL5 (w : World) (b gj : Nat) (cj : Array Value) (T R : List UInt8) (rs : List (List UInt8 × Tk)) (v55 : Value) (wr : World) : Prop := ∃ i : Nat, i ≤ rs.length ∧ v55 = .int .i64 i ∧ ∃ l, TxtAt w b l wr ∧ Blk wr gj jobT cj ∧ l ++ ((rs.drop i).flatMap redK ++ R) = T
/-- The text so far is no more than all. -/
theorem txt_le {l R T : List UInt8} (h : l ++ R = T) (hT : T.length ≤ 100000000000000) : l.length + R.length ≤ 100000000000000 := by
  have := congrArg List.length h
  simp only [List.length_append] at this
  omega
theorem le_one {l x : List UInt8} {n M : Nat} (h : (l ++ x).length + n ≤ M) : l.length + x.length ≤ M := by
  rw [List.length_append] at h
  omega
theorem str_cat (a c : List UInt8) : str a ++ str c = str (a ++ c) := by
  show ByteArray.append _ _ = _
  simp [str, ByteArray.append]
set_option maxHeartbeats 16000000 in
set_option maxRecDepth 100000 in
theorem plain_any (N : Nat) (js : List (JobJ Tk)) (A : Option Addr) (n c B : Nat) (vs : List JobV) (w : World) (hj : JobsAt w B js A n c vs) (hn : n ≤ 8) (hfit : ∀ j ∈ js, JobFit oT (GoodK w) N j) (hN : N ≤ 1000) (hlen : (js.flatMap jobK).length ≤ 100000000000000) (hm : MaxAt w) :
    Calls Tryd.prog 8 #[.slice A n c] w fun e w' => e = .returned (.string (str (js.flatMap jobK))) ∧ Ext w w' := by
  obtain ⟨T, hT⟩ : ∃ T, js.flatMap jobK = T := ⟨_, rfl⟩
  rw [hT] at hlen ⊢
  have HT := hide hT
  have HM := hide hm
  have HJ := hide hj
  have HF := hide hfit
  have hvl : vs.length = n := flat_len jobVC_len (by omega) (Reads.of_own hj.row)
  have HO0 := hide (TxtAt.new_ w)
  clear hT hm hj hfit
  have hmf : ∀ (fn : Fn) (first cap : Array Value) (w : World), (Instr.makeFunc fn first cap).run Tryd.prog w = .ok (.func fn first cap) w := fun _ _ _ _ => rfl
  go_enter Tryd.func8, Tryd.ntmps8
  go_wp2_with fail
  generalize w.alloc (.cells #[.pointer none, .slice none 0 0] 58) = W0 at *
  generalize w.heap.size = b at *
  go_loopw [18] (PL1 w b T vs) (fun i _ => n - (intOf i).toNat)
  case atStart => exact ⟨0, Nat.zero_le _, rfl, [], HO0.out, by rw [List.nil_append, List.drop_zero, HJ.out.map]; exact HT.out⟩
  case round =>
    obtain ⟨i, hi, rfl, l1, hout, hrest⟩ := hrel
    have HOUT := hide hout
    have HREST := hide hrest
    clear hout hrest HO0
    have hx := HOUT.out.from_
    by_cases hlt : i < n
    · have hlt' : i < vs.length := by omega
      have hrd := Reads.of_own HJ.out.row
      obtain ⟨b1, off, rfl, hb⟩ := hrd.addr (by omega) (by omega)
      have q0 := hx.cell (Reads.elem jobVC_len hrd i hlt' (by omega) 0 (by omega) rfl)
      have q1 := hx.cell (Reads.elem jobVC_len hrd i hlt' (by omega) 1 (by omega) rfl)
      rw [Nat.add_zero] at q0
      have hvi := HJ.out.each vs[i] (List.getElem_mem hlt')
      have hji : vs[i].j ∈ js := by rw [← HJ.out.map]; exact List.mem_map.2 ⟨_, List.getElem_mem hlt', rfl⟩
      have hfi := HF.out _ hji
      have hrest := HREST.out
      rw [drop_map_cons (·.j) vs i hlt', List.flatMap_cons] at hrest
      generalize vs[i] = v at *
      obtain ⟨⟨ps, bk⟩, Ap, np, cpp, us⟩ := v
      dsimp only at q0 q1 hvi hji hfi hrest
      obtain ⟨hv1, hn6⟩ := hvi
      dsimp only at hv1 hn6
      obtain ⟨R, hR⟩ : ∃ R, ((if bk = true then [38] else []) ++ [59]) ++ ((vs.drop (i + 1)).map (·.j)).flatMap jobK = R := ⟨_, rfl⟩
      have HRR := hide hR
      have HREST1 := hide (show l1 ++ ((us.map (·.p)).flatMap pipeK ++ R) = T by
        rw [← hR, hv1.map, ← hrest]
        simp only [jobK, List.append_assoc])
      have hul : us.length = np := flat_len pipeVC_len (by omega) (Reads.of_own hv1.row)
      have HV := hide hv1
      have HFI := hide hfi
      have hb9 := Blk.new wr jobT #[.slice Ap np cpp, .bool bk]
      have HO1 := hide (HOUT.out.ext ((Ext.refl wr).alloc (.cells #[.slice Ap np cpp, .bool bk] jobT)))
      clear hR hrest hv1 hfi hji HREST HOUT
      go_upto_region 6 with fail
      generalize wr.alloc (.cells #[.slice Ap np cpp, .bool bk] jobT) = W1 at *
      generalize wr.heap.size = gj at *
      have z0 : W1.cell? ⟨gj, 0, none⟩ = some (.slice Ap np cpp) := hb9.cell 0
      obtain ⟨cj, hcj⟩ : ∃ cj : Array Value, cj = #[.slice Ap np cpp, .bool bk] := ⟨_, rfl⟩
      have HCJ := hide hcj
      rw [← hcj] at hb9
      have HBJ := hide hb9
      clear hb9 q0 q1 hx hrd hcj
      go_wp2_with fail
      clear z0
      go_loopw [25] (PL2 w b gj cj T R us) (fun i _ => np - (intOf i).toNat)
      case atStart => exact ⟨0, Nat.zero_le _, rfl, l1, HO1.out, HBJ.out, by rw [List.drop_zero]; exact HREST1.out⟩
      case round =>
        obtain ⟨a, ha, rfl, l2, hout2, hbj2, hrest2⟩ := hrel
        have HO2 := hide hout2
        have HBJ2 := hide hbj2
        have HREST2 := hide hrest2
        clear hout2 hbj2 hrest2 HO1 HBJ HREST1
        have hx2 := HO2.out.from_
        by_cases hlt2 : a < np
        · have hlt2' : a < us.length := by omega
          have hrd := Reads.of_own HV.out.row
          obtain ⟨b2, off2, rfl, hb2⟩ := hrd.addr (by omega) (by omega)
          have q0 := hx2.cell (Reads.elem pipeVC_len hrd a hlt2' (by omega) 0 (by omega) rfl)
          have q1 := hx2.cell (Reads.elem pipeVC_len hrd a hlt2' (by omega) 1 (by omega) rfl)
          rw [Nat.add_zero] at q0
          have hvi := HV.out.each us[a] (List.getElem_mem hlt2')
          have hpi : us[a].p ∈ ps := by rw [← HV.out.map]; exact List.mem_map.2 ⟨_, List.getElem_mem hlt2', rfl⟩
          have hfi := HFI.out.2.1 _ hpi
          have hrest := HREST2.out
          rw [drop_map_cons (·.p) us a hlt2', List.flatMap_cons] at hrest
          generalize us[a] = v at *
          obtain ⟨⟨iff, cs⟩, Ac, nc, ccc, ms⟩ := v
          dsimp only at q0 q1 hvi hpi hfi hrest
          obtain ⟨hv1, hn6'⟩ := hvi
          dsimp only at hv1 hn6'
          obtain ⟨R2, hR2⟩ : ∃ R2, [93] ++ (((us.drop (a + 1)).map (·.p)).flatMap pipeK ++ R) = R2 := ⟨_, rfl⟩
          have HRR2 := hide hR2
          have HREST3 := hide (show l2 ++ ([91] ++ iff) ++ (cs.flatMap cmdK ++ R2) = T by
            rw [← hR2, ← hrest]
            simp only [pipeK, List.append_assoc])
          have hml : ms.length = nc := flat_len cmdVC_len (by omega) (Reads.of_own hv1.row)
          have HVC := hide hv1
          have HFP := hide hfi
          have HSX := hide (show (⟨#[91]⟩ : ByteArray) ++ str iff = str ([91] ++ iff) from str_cat [91] iff)
          have hss : (str iff).size ≤ 100000000000000 := by
            have := txt_le HREST3.out hlen
            rw [str_size]
            simp only [List.length_append] at this
            omega
          generalize hS : str iff = S at *
          have hb9 := Blk.new wr pipeT #[.string S, .slice Ac nc ccc]
          have HX3 := hide ((Ext.refl wr).alloc (.cells #[.string S, .slice Ac nc ccc] pipeT))
          have HO3 := hide (HO2.out.ext HX3.out)
          have HBJ3 := hide (HBJ2.out.ext HX3.out)
          clear hR2 hrest hv1 hfi hpi HREST2 HO2 HBJ2 hS
          go_upto_region 9 with fail
          generalize wr.alloc (.cells #[.string S, .slice Ac nc ccc] pipeT) = W3 at *
          generalize wr.heap.size = gp at *
          have z0 : W3.cell? ⟨gp, 0, none⟩ = some (.string S) := hb9.cell 0
          have HBP3 := hide hb9
          have HLE := hide (txt_le HREST3.out hlen)
          clear hb9 q0 q1 hx2 hrd HX3
          go_wp2_with fail
          refine (wr_any w b (l2) ([91] ++ iff) _ W3 (by first | rfl | exact HSX.out) HO3.out (by first | exact le_one HLE.out | exact HLE.out)).mono ?_
          rintro e W4 ⟨rfl, ht, hk⟩
          have HO4 := hide ht
          have HK4 := hide hk
          clear ht hk HLE
          clear HSX z0
          have HBJ4 := hide (HK4.out _ _ _ (by decide) (by decide) HBJ3.out)
          have hbp4 := HK4.out _ _ _ (by decide) (by decide) HBP3.out
          have z1 : W4.cell? ⟨gp, 1, none⟩ = some (.slice Ac nc ccc) := hbp4.cell 1
          clear hbp4 HBP3 HBJ3 HO3 HK4
          go_wp2_with fail
          clear z1
          generalize hl4 : l2 ++ ([91] ++ iff) = l4 at *
          clear hl4
          go_loopw [36] (PL3 w b gj cj T R2 ms) (fun i _ => nc - (intOf i).toNat)
          case atStart => exact ⟨0, Nat.zero_le _, rfl, l4, HO4.out, HBJ4.out, by rw [List.drop_zero, HVC.out.map]; exact HREST3.out⟩
          case round =>
            obtain ⟨k, hk, rfl, l5, hout2, hbj2, hrest2⟩ := hrel
            have HO5 := hide hout2
            have HBJ5 := hide hbj2
            have HREST5 := hide hrest2
            clear hout2 hbj2 hrest2 HO4 HBJ4 HREST3
            have hx2 := HO5.out.from_
            by_cases hlt3 : k < nc
            · have hlt3' : k < ms.length := by omega
              have hrd := Reads.of_own HVC.out.row
              obtain ⟨b3, off3, rfl, hb3⟩ := hrd.addr (by omega) (by omega)
              have q0 := hx2.cell (Reads.elem cmdVC_len hrd k hlt3' (by omega) 0 (by omega) rfl)
              have q1 := hx2.cell (Reads.elem cmdVC_len hrd k hlt3' (by omega) 1 (by omega) rfl)
              rw [Nat.add_zero] at q0
              have hvi := HVC.out.each ms[k] (List.getElem_mem hlt3')
              have hpi : ms[k].c ∈ cs := by rw [← HVC.out.map]; exact List.mem_map.2 ⟨_, List.getElem_mem hlt3', rfl⟩
              have hfi := HFP.out.2.2 _ hpi
              have hrest := HREST5.out
              rw [drop_map_cons (·.c) ms k hlt3', List.flatMap_cons] at hrest
              generalize ms[k] = v at *
              obtain ⟨⟨ws, rs⟩, A1, n1, c1, A2, n2, c2⟩ := v
              dsimp only at q0 q1 hvi hpi hfi hrest
              have hvw : CmdAt w B ⟨ws, rs⟩ A1 n1 c1 A2 n2 c2 := hvi
              obtain ⟨R3, hR3⟩ : ∃ R3, [41] ++ (((ms.drop (k + 1)).map (·.c)).flatMap cmdK ++ R2) = R3 := ⟨_, rfl⟩
              have HRR3 := hide hR3
              have HREST6 := hide (show l5 ++ [40] ++ (ws.flatMap wordK ++ (rs.flatMap redK ++ R3)) = T by
                rw [← hR3, ← hrest]
                simp only [cmdK, List.append_assoc])
              have HVW := hide hvw
              have HFC := hide hfi
              have hcl := hfi.2.2
              have hwl := hvw.lw
              have hrl := hvw.lr
              dsimp only at hwl hcl hrl
              have hb9 := Blk.new wr cmdT #[.slice A1 n1 c1, .slice A2 n2 c2]
              have HX3 := hide ((Ext.refl wr).alloc (.cells #[.slice A1 n1 c1, .slice A2 n2 c2] cmdT))
              have HO6 := hide (HO5.out.ext HX3.out)
              have HBJ6 := hide (HBJ5.out.ext HX3.out)
              clear hR3 hrest hvi hvw hfi hpi HREST5 HO5 HBJ5
              go_upto_region 13 with fail
              generalize wr.alloc (.cells #[.slice A1 n1 c1, .slice A2 n2 c2] cmdT) = W5 at *
              generalize wr.heap.size = gc at *
              obtain ⟨cc, hcc⟩ : ∃ cc : Array Value, cc = #[.slice A1 n1 c1, .slice A2 n2 c2] := ⟨_, rfl⟩
              have HCC := hide hcc
              rw [← hcc] at hb9
              have HBC6 := hide hb9
              have HLE := hide (txt_le HREST6.out hlen)
              clear hb9 q0 q1 hx2 hrd HX3 hcc
              go_wp2_with fail
              refine (wr_any w b (l5) [40] _ W5 (by first | rfl | exact HSX.out) HO6.out (by first | exact le_one HLE.out | exact HLE.out)).mono ?_
              rintro e W6 ⟨rfl, ht, hk⟩
              have HO7 := hide ht
              have HK7 := hide hk
              clear ht hk HLE
              have HBJ7 := hide (HK7.out _ _ _ (by decide) (by decide) HBJ6.out)
              have hzp := HK7.out _ _ _ (by decide) (by decide) HBC6.out
              have HBC7 := hide hzp
              rw [HCC.out] at hzp
              have z2 : W6.cell? ⟨gc, 0, none⟩ = some (.slice A1 n1 c1) := hzp.cell 0
              clear hzp HO6 HBJ6 HBC6 HK7
              go_wp2_with fail
              clear z2
              generalize hl6 : l5 ++ [40] = l6 at *
              clear hl6
              go_loopw [44] (PL4 w b gj cj gc cc T (rs.flatMap redK ++ R3) ws) (fun i _ => n1 - (intOf i).toNat)
              case atStart => exact ⟨0, Nat.zero_le _, rfl, l6, HO7.out, HBJ7.out, HBC7.out, by rw [List.drop_zero]; exact HREST6.out⟩
              case round =>
                obtain ⟨a4, ha4, rfl, l7, hout2, hbj2, hbc2, hrest2⟩ := hrel
                have HO8 := hide hout2
                have HBJ8 := hide hbj2
                have HBC8 := hide hbc2
                have HREST8 := hide hrest2
                have hx2 := hout2.from_
                clear hout2 hbj2 hrest2 hbc2 HO7 HBJ7 HBC7 HREST6
                by_cases hlt4 : a4 < n1
                · have hlt4' : a4 < ws.length := by omega
                  have hrd := Reads.of_own HVW.out.words
                  obtain ⟨b4, off4, rfl, hb4⟩ := hrd.addr (by omega) (by omega)
                  have q0 := hx2.cell (Reads.elem tokC_len hrd a4 hlt4' (by omega) 0 (by omega) rfl)
                  have q1 := hx2.cell (Reads.elem tokC_len hrd a4 hlt4' (by omega) 1 (by omega) rfl)
                  have q2 := hx2.cell (Reads.elem tokC_len hrd a4 hlt4' (by omega) 2 (by omega) rfl)
                  rw [Nat.add_zero] at q0
                  obtain ⟨A', c', hv, hrp, hpn, hpt⟩ := HFC.out.2.1.1 ws[a4] (List.getElem_mem hlt4')
                  have hrest := HREST8.out
                  rw [List.drop_eq_getElem_cons hlt4', List.flatMap_cons] at hrest
                  generalize ws[a4] = t at *
                  rw [hv] at q1
                  have HNEXT := hide (show (l7 ++ wordK t) ++ ((ws.drop (a4 + 1)).flatMap wordK ++ (rs.flatMap redK ++ R3)) = T by rw [← hrest]; simp)
                  have hle : l7.length + (wordK t).length ≤ 100000000000000 := by have := txt_le HNEXT.out hlen; simp only [List.length_append] at this; omega
                  have HCALL := hide (fun (W : World) (hO : TxtAt w b l7 W) => wordK_any t.1 A' c' w.heap.size (t.1.at_ : Int) b l7 w W hO hrp (Nat.le_refl _) hpn hpt HM.out hle)
                  rw [show wordB (bareT t.1) = wordK t from rfl] at HCALL
                  generalize wordK t = pt at *
                  generalize t.1.parts.length = pn at *
                  generalize str t.1.op = So at *
                  generalize (t.1.at_ : Int) = zt at *
                  have HXB := hide ((Ext.refl wr).alloc (.cells #[.string So, .slice A' pn c', .int .i64 zt] 47))
                  clear hv hrp hpn hpt hrest hx2 hrd hle
                  go_wp2_with fail
                  refine (HCALL.out _ (HO8.out.ext HXB.out)).mono ?_
                  rintro e w9 ⟨rfl, ho9, hk9⟩
                  have HO9 := hide ho9
                  have HK9 := hide ((KeepB.of HXB.out).trans hk9)
                  clear ho9 hk9 HCALL HXB q0 q1 q2
                  go_wp2_with fail
                  go_roundw
                  case rel => exact ⟨a4 + 1, by omega, by go_num, l7 ++ pt, HO9.out, HK9.out _ _ _ (by decide) (by decide) HBJ8.out, HK9.out _ _ _ (by decide) (by decide) HBC8.out, HNEXT.out⟩
                  case measure => simp [intOf]; omega
                · obtain rfl : a4 = n1 := by omega
                  have HE9 := hide (show l7 ++ (rs.flatMap redK ++ R3) = T by
                    have := HREST8.out
                    rw [List.drop_of_length_le (by omega)] at this
                    exact this)
                  have hzc := HBC8.out
                  rw [HCC.out] at hzc
                  have z3 : wr.cell? ⟨gc, 1, none⟩ = some (.slice A2 n2 c2) := hzc.cell 1
                  clear hzc HREST8 hx2
                  go_wp2_with fail
                  clear z3
                  go_loopw [55] (PL5 w b gj cj T R3 rs) (fun i _ => n2 - (intOf i).toNat)
                  case atStart => exact ⟨0, Nat.zero_le _, rfl, l7, HO8.out, HBJ8.out, by rw [List.drop_zero]; exact HE9.out⟩
                  case round =>
                    obtain ⟨a5, ha5, rfl, l8, hout2, hbj2, hrest2⟩ := hrel
                    have HO10 := hide hout2
                    have HBJ10 := hide hbj2
                    have HREST10 := hide hrest2
                    have hx2 := hout2.from_
                    clear hout2 hbj2 hrest2 HO8 HBJ8 HBC8 HE9
                    by_cases hlt5 : a5 < n2
                    · have hlt5' : a5 < rs.length := by omega
                      have hrd := Reads.of_own HVW.out.reds
                      obtain ⟨b5, off5, rfl, hb5⟩ := hrd.addr (by omega) (by omega)
                      have q0 := hx2.cell (Reads.elem redC_len hrd a5 hlt5' (by omega) 0 (by omega) rfl)
                      have q1 := hx2.cell (Reads.elem redC_len hrd a5 hlt5' (by omega) 1 (by omega) rfl)
                      have q2 := hx2.cell (Reads.elem redC_len hrd a5 hlt5' (by omega) 2 (by omega) rfl)
                      have q3 := hx2.cell (Reads.elem redC_len hrd a5 hlt5' (by omega) 3 (by omega) rfl)
                      rw [Nat.add_zero] at q0
                      obtain ⟨A', c', hv, hrp, hpn, hpt⟩ := HFC.out.2.1.2 rs[a5] (List.getElem_mem hlt5')
                      have hrest := HREST10.out
                      rw [List.drop_eq_getElem_cons hlt5', List.flatMap_cons] at hrest
                      generalize rs[a5] = r at *
                      obtain ⟨kd, t⟩ := r
                      dsimp only at q0 q1 q2 q3 hv hrp hpn hpt hrest
                      rw [hv] at q2
                      have HNEXT := hide (show ((l8 ++ kd) ++ wordK t) ++ ((rs.drop (a5 + 1)).flatMap redK ++ R3) = T by rw [← hrest]; simp [redK])
                      have hle0 : (l8 ++ kd).length + (wordK t).length ≤ 100000000000000 := by have := txt_le HNEXT.out hlen; simp only [List.length_append] at this ⊢; omega
                      have HLE := hide (show l8.length + kd.length ≤ 100000000000000 by simp only [List.length_append] at hle0; omega)
                      have HCALL := hide (fun (W : World) (hO : TxtAt w b (l8 ++ kd) W) => wordK_any t.1 A' c' w.heap.size (t.1.at_ : Int) b (l8 ++ kd) w W hO hrp (Nat.le_refl _) hpn hpt HM.out hle0)
                      rw [show wordB (bareT t.1) = wordK t from rfl] at HCALL
                      generalize wordK t = pt at *
                      generalize t.1.parts.length = pn at *
                      generalize str t.1.op = So at *
                      generalize (t.1.at_ : Int) = zt at *
                      clear hv hrp hpn hpt hrest hle0
                      generalize hkS : str kd = KS at *
                      have HSX := hide hkS.symm
                      have hb9 := Blk.new wr 54 #[.string KS, .string So, .slice A' pn c', .int .i64 zt]
                      have HXB := hide ((Ext.refl wr).alloc (.cells #[.string KS, .string So, .slice A' pn c', .int .i64 zt] 54))
                      have HO11 := hide (HO10.out.ext HXB.out)
                      have HBJ11 := hide (HBJ10.out.ext HXB.out)
                      clear hkS hx2 hrd
                      go_upto_region 22 with fail
                      generalize wr.alloc (.cells #[.string KS, .string So, .slice A' pn c', .int .i64 zt] 54) = W8 at *
                      generalize wr.heap.size = gr at *
                      have z0 : W8.cell? ⟨gr, 0, none⟩ = some (.string KS) := hb9.cell 0
                      have HBR := hide hb9
                      clear hb9 q0 q1 q2 q3 HXB
                      go_wp2_with fail
                      refine (wr_any w b (l8) kd _ W8 (by first | rfl | exact HSX.out) HO11.out (by first | exact le_one HLE.out | exact HLE.out)).mono ?_
                      rintro e W9 ⟨rfl, ht, hk⟩
                      have HO12 := hide ht
                      have HK12 := hide hk
                      clear ht hk HLE
                      clear HSX z0
                      have hbr := HK12.out _ _ _ (by decide) (by decide) HBR.out
                      have z1 : W9.cell? ⟨gr, 1, none⟩ = some (.string So) := hbr.cell 1
                      have z2 : W9.cell? ⟨gr, 2, none⟩ = some (.slice A' pn c') := hbr.cell 2
                      have z3 : W9.cell? ⟨gr, 3, none⟩ = some (.int .i64 zt) := hbr.cell 3
                      clear hbr
                      go_wp2_with fail
                      refine (HCALL.out _ HO12.out).mono ?_
                      rintro e w9 ⟨rfl, ho9, hk9⟩
                      have HO9 := hide ho9
                      have HK9 := hide (HK12.out.trans hk9)
                      clear ho9 hk9 HCALL z1 z2 z3
                      go_wp2_with fail
                      go_roundw
                      case rel => exact ⟨a5 + 1, by omega, by go_num, (l8 ++ kd) ++ pt, HO9.out, HK9.out _ _ _ (by decide) (by decide) HBJ11.out, HNEXT.out⟩
                      case measure => simp [intOf]; omega
                    · obtain rfl : a5 = n2 := by omega
                      have HE11 := hide (show (l8 ++ [41]) ++ (((ms.drop (k + 1)).map (·.c)).flatMap cmdK ++ R2) = T by
                        have := HREST10.out
                        rw [List.drop_of_length_le (by omega), ← HRR3.out] at this
                        rw [← this]
                        simp)
                      have HLE := hide (txt_le HE11.out hlen)
                      clear hx2
                      go_wp2_with fail
                      refine (wr_any w b (l8) [41] _ wr (by first | rfl | exact HSX.out) HO10.out (by first | exact le_one HLE.out | exact HLE.out)).mono ?_
                      rintro e W9 ⟨rfl, ht, hk⟩
                      have HO12 := hide ht
                      have HK12 := hide hk
                      clear ht hk HLE
                      have HBJ12 := hide (HK12.out _ _ _ (by decide) (by decide) HBJ10.out)
                      go_wp2_with fail
                      go_roundw
                      case rel => exact ⟨k + 1, by omega, by go_num, l8 ++ [41], HO12.out, HBJ12.out, HE11.out⟩
                      case measure => simp [intOf]; omega
            · obtain rfl : k = nc := by omega
              have HE11 := hide (show (l5 ++ [93]) ++ (((us.drop (a + 1)).map (·.p)).flatMap pipeK ++ R) = T by
                have := HREST5.out
                rw [List.drop_of_length_le (show ms.length ≤ k by omega), List.map_nil, ← HRR2.out] at this
                rw [← this]
                simp)
              have HLE := hide (txt_le HE11.out hlen)
              clear hx2
              go_wp2_with fail
              refine (wr_any w b (l5) [93] _ wr (by first | rfl | exact HSX.out) HO5.out (by first | exact le_one HLE.out | exact HLE.out)).mono ?_
              rintro e W9 ⟨rfl, ht, hk⟩
              have HO12 := hide ht
              have HK12 := hide hk
              clear ht hk HLE
              have HBJ12 := hide (HK12.out _ _ _ (by decide) (by decide) HBJ5.out)
              go_wp2_with fail
              go_roundw
              case rel => exact ⟨a + 1, by omega, by go_num, l5 ++ [93], HO12.out, HBJ12.out, HE11.out⟩
              case measure => simp [intOf]; omega
        · obtain rfl : a = np := by omega
          have HE11 := hide (show l2 ++ (((if bk = true then [38] else []) ++ [59]) ++ ((vs.drop (i + 1)).map (·.j)).flatMap jobK) = T by
            have := HREST2.out
            rw [List.drop_of_length_le (show us.length ≤ a by omega), List.map_nil, ← HRR.out] at this
            exact this)
          have hzc := HBJ2.out
          rw [HCJ.out] at hzc
          have z3 : wr.cell? ⟨gj, 1, none⟩ = some (.bool bk) := hzc.cell 1
          clear hzc hx2 HREST2
          cases bk
          case' true =>
            have HE12 := hide (show (l2 ++ [38]) ++ ([59] ++ ((vs.drop (i + 1)).map (·.j)).flatMap jobK) = T by
              rw [← HE11.out]
              simp)
            have HLE := hide (txt_le HE12.out hlen)
            go_wp2_with fail
            refine (wr_any w b (l2) [38] _ wr (by first | rfl | exact HSX.out) HO2.out (by first | exact le_one HLE.out | exact HLE.out)).mono ?_
            rintro e W8 ⟨rfl, ht, hk⟩
            have HO12 := hide ht
            have HK12 := hide hk
            clear ht hk HLE
            generalize l2 ++ [38] = l3 at *
          case' false =>
            have HE12 := hide (show l2 ++ ([59] ++ ((vs.drop (i + 1)).map (·.j)).flatMap jobK) = T by
              rw [← HE11.out]
              simp)
            have HO12 := HO2
            generalize l2 = l3 at *
            generalize wr = W8 at *
          all_goals
            have HE13 := hide (show (l3 ++ [59]) ++ ((vs.drop (i + 1)).map (·.j)).flatMap jobK = T by
              rw [← HE12.out]
              simp)
            have HLE := hide (txt_le HE13.out hlen)
            clear HE11 HE12
            go_wp2_with fail
            refine (wr_any w b (l3) [59] _ W8 (by first | rfl | exact HSX.out) HO12.out (by first | exact le_one HLE.out | exact HLE.out)).mono ?_
            rintro e W9 ⟨rfl, ht, hk⟩
            have HO13 := hide ht
            have HK13 := hide hk
            clear ht hk HLE
            go_wp2_with fail
            go_roundw
            case rel => exact ⟨i + 1, by omega, by go_num, l3 ++ [59], HO13.out, HE13.out⟩
            case measure => simp [intOf]; omega
    · obtain rfl : i = n := by omega
      have hxs : l1 = T := by
        have := HREST.out
        rw [List.drop_of_length_le (by omega)] at this
        simpa using this
      subst hxs
      have HRD := hide (rd_any w b l1 wr HOUT.out)
      clear hx
      go_wp2_with fail
      refine HRD.out.mono ?_
      rintro e w2 ⟨rfl, hx2⟩
      have HX2 := hide hx2
      clear hx2
      go_wp2_with fail
      go_ret
      exact ⟨rfl, HX2.out⟩
end Go.Proofs.YtjbgkcljjgofnaaDoor
