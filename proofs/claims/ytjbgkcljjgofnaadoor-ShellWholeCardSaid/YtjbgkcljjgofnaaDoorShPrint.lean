/- The contract of shell.Print: the walk through five loops. Printed by gen_print.py from XShPrint.base. -/
import Derived.Test.YtjbgkcljjgofnaaDoorShAdd
namespace Go.Proofs.YtjbgkcljjgofnaaDoor
open Go.RowKit
set_option linter.unusedVariables false

/-- The texts of tokens. -/
def txts (l : List Tk) : List (List UInt8) := l.map fun x => printTok x.1
theorem txts_app (a b : List Tk) : txts (a ++ b) = txts a ++ txts b := by simp [txts]
theorem txts_cons (a : Tk) (b : List Tk) : txts (a :: b) = printTok a.1 :: txts b := rfl
theorem txt_sign (x : List UInt8) (h : x ≠ []) : printTok (sgK x).1 = x := by
  unfold printTok sgK
  rw [if_pos h]
/-- A token whose parts can be read. -/
def GoodK (w : World) (x : Tk) : Prop := ∃ A' c', x.2 = .slice A' x.1.parts.length c' ∧ Reads w w.heap.size 3 A' x.1.parts.length (x.1.parts.flatMap partC) ∧ x.1.parts.length ≤ 1000 ∧ ∀ p ∈ x.1.parts, p.text.length ≤ 1000
/-- What still comes of a pipe's commands. -/
def restC (k : Nat) (l : List (CmdJ Tk)) : List Tk := if k = 0 then cmdsF sgK l else if l.isEmpty = true then [] else sgK [124] :: cmdsF sgK l
theorem restC_cons (k : Nat) (c : CmdJ Tk) (l : List (CmdJ Tk)) : restC k (c :: l) = (if k = 0 then [] else [sgK [124]]) ++ (cmdF sgK c ++ restC (k + 1) l) := by
  unfold restC
  rw [if_neg (Nat.succ_ne_zero k)]
  by_cases h : k = 0
  · rw [if_pos h, if_pos h]; rfl
  · rw [if_neg h, if_neg h]; rfl
theorem restC_nil (k : Nat) : restC k [] = [] := by unfold restC; split <;> rfl
theorem drop_map_cons {α β : Type} (f : α → β) (l : List α) (k : Nat) (h : k < l.length) : (l.drop k).map f = f l[k] :: (l.drop (k + 1)).map f := by rw [List.drop_eq_getElem_cons h]; rfl
def PR1 (w : World) (g : Nat) (T : List (List UInt8)) (vs : List JobV) (v18 : Value) (wr : World) : Prop := ∃ i : Nat, i ≤ vs.length ∧ v18 = .int .i64 i ∧ ∃ xs, OutAt w g xs wr ∧ xs ++ txts (jobsF sgK ((vs.drop i).map (·.j))) = T
def PR2 (w : World) (g gj : Nat) (cj : Array Value) (T : List (List UInt8)) (R : List (List UInt8)) (vs : List PipeV) (v26 : Value) (wr : World) : Prop := ∃ i : Nat, i ≤ vs.length ∧ v26 = .int .i64 i ∧ ∃ xs, OutAt w g xs wr ∧ Blk wr gj jobT cj ∧ xs ++ (txts (pipesF sgK ((vs.drop i).map (·.p))) ++ R) = T
def PR3 (w : World) (g gj : Nat) (cj : Array Value) (T : List (List UInt8)) (R : List (List UInt8)) (vs : List CmdV) (v41 : Value) (wr : World) : Prop := ∃ i : Nat, i ≤ vs.length ∧ v41 = .int .i64 i ∧ ∃ xs, OutAt w g xs wr ∧ Blk wr gj jobT cj ∧ xs ++ (txts (restC i ((vs.drop i).map (·.c))) ++ R) = T
def PR4 (w : World) (g gj : Nat) (cj : Array Value) (gc : Nat) (cc : Array Value) (T : List (List UInt8)) (R : List (List UInt8)) (ts : List Tk) (v54 : Value) (wr : World) : Prop := ∃ i : Nat, i ≤ ts.length ∧ v54 = .int .i64 i ∧ ∃ xs, OutAt w g xs wr ∧ Blk wr gj jobT cj ∧ Blk wr gc cmdT cc ∧ xs ++ (txts (ts.drop i) ++ R) = T
def PR5 (w : World) (g gj : Nat) (cj : Array Value) (T : List (List UInt8)) (R : List (List UInt8)) (rs : List (List UInt8 × Tk)) (v65 : Value) (wr : World) : Prop := ∃ i : Nat, i ≤ rs.length ∧ v65 = .int .i64 i ∧ ∃ xs, OutAt w g xs wr ∧ Blk wr gj jobT cj ∧ xs ++ (txts (redF sgK (rs.drop i)) ++ R) = T
/-- The texts so far are no more than all. -/
theorem len_le {xs R T : List (List UInt8)} (h : xs ++ R = T) (hT : T.length ≤ 1000) : xs.length ≤ 1000 := by
  have := congrArg List.length h
  simp only [List.length_append] at this
  omega
set_option maxHeartbeats 16000000 in
set_option maxRecDepth 100000 in
theorem print_jobs (N : Nat) (js : List (JobJ Tk)) (A : Option Addr) (n c B : Nat) (vs : List JobV) (w : World) (hj : JobsAt w B js A n c vs) (hn : n ≤ 8) (hfit : ∀ j ∈ js, JobFit oT (GoodK w) N j) (hN : N ≤ 1000) (hcnt : (jobsF sgK js).length ≤ 1000) (hlen : (lineJ js).length ≤ 1000000) (hm : MaxAt w) :
    Calls Tryd.prog 7 #[.slice A n c] w fun e w' => e = .returned (.string (str (lineJ js))) ∧ Ext w w' := by
  obtain ⟨i0, hi0, hz0, hz1, hz2⟩ := info_parts string_info
  obtain ⟨T, hT⟩ : ∃ T, txts (jobsF sgK js) = T := ⟨_, rfl⟩
  have hTl : T.length ≤ 1000 := by rw [← hT]; simp [txts]; exact hcnt
  have hTJ : lineJ js = joinS T := by rw [← hT]; unfold lineJ toksJ txts; rw [List.map_map]; rfl
  rw [hTJ] at hlen ⊢
  have HT := hide hT
  have HLEN := hide hlen
  have HM := hide hm
  have HJ := hide hj
  have HF := hide hfit
  have hvl : vs.length = n := flat_len jobVC_len (by omega) (Reads.of_own hj.row)
  clear hT hlen hm hj hfit hcnt hTJ
  have hmf : ∀ (fn : Fn) (first cap : Array Value) (w : World), (Instr.makeFunc fn first cap).run Tryd.prog w = .ok (.func fn first cap) w := fun _ _ _ _ => rfl
  have hb0 := Blk.new w 42 #[.slice none 0 0]
  have HO0 := hide (show OutAt w w.heap.size [] (w.alloc (.cells #[.slice none 0 0] 42)) from ⟨Nat.le_refl _, none, 0, hb0, World.ownsRow_nil _ _ _ _, (Ext.refl w).alloc _⟩)
  clear hb0
  go_enter Tryd.func7, Tryd.ntmps7
  go_wp2_with fail
  generalize w.heap.size = g at *
  go_loopw [18] (PR1 w g T vs) (fun i _ => n - (intOf i).toNat)
  case atStart => exact ⟨0, Nat.zero_le _, rfl, [], HO0.out, by rw [List.nil_append, List.drop_zero, HJ.out.map]; exact HT.out⟩
  case round =>
    obtain ⟨i, hi, rfl, xs, hout, hrest⟩ := hrel
    have HOUT := hide hout
    have HREST := hide hrest
    clear hout hrest HO0
    have hx := HOUT.out.from_
    by_cases hlt : i < n
    · have hlt' : i < vs.length := by omega
      have hrd := Reads.of_own HJ.out.row
      obtain ⟨b, off, rfl, hb⟩ := hrd.addr (by omega) (by omega)
      have q0 := hx.cell (Reads.elem jobVC_len hrd i hlt' (by omega) 0 (by omega) rfl)
      have q1 := hx.cell (Reads.elem jobVC_len hrd i hlt' (by omega) 1 (by omega) rfl)
      rw [Nat.add_zero] at q0
      have hvi := HJ.out.each vs[i] (List.getElem_mem hlt')
      have hji : vs[i].j ∈ js := by rw [← HJ.out.map]; exact List.mem_map.2 ⟨_, List.getElem_mem hlt', rfl⟩
      have hfi := HF.out _ hji
      have hrest := HREST.out
      rw [drop_map_cons (·.j) vs i hlt'] at hrest
      generalize vs[i] = v at *
      obtain ⟨⟨ps, bk⟩, Ap, np, cpp, us⟩ := v
      dsimp only at q0 q1 hvi hji hfi hrest
      obtain ⟨hv1, hn6⟩ := hvi
      dsimp only at hv1 hn6
      obtain ⟨R, hR⟩ : ∃ R, txts (endF sgK ⟨ps, bk⟩ (!((vs.drop (i + 1)).map (·.j)).isEmpty) ++ jobsF sgK ((vs.drop (i + 1)).map (·.j))) = R := ⟨_, rfl⟩
      have HRR := hide hR
      have HREST1 := hide (show xs ++ (txts (pipesF sgK (us.map (·.p))) ++ R) = T by
        rw [← hR, ← txts_app, hv1.map]
        exact hrest)
      have hul : us.length = np := flat_len pipeVC_len (by omega) (Reads.of_own hv1.row)
      have HV := hide hv1
      have HFI := hide hfi
      have hb9 := Blk.new wr jobT #[.slice Ap np cpp, .bool bk]
      have HO1 := hide (HOUT.out.ext ((Ext.refl wr).alloc (.cells #[.slice Ap np cpp, .bool bk] jobT)))
      clear hR hrest hv1 hfi hji HREST HOUT
      go_upto_region 6 with fail
      generalize wr.alloc (.cells #[.slice Ap np cpp, .bool bk] jobT) = W1 at *
      generalize wr.heap.size = gj at *
      have z0 : W1.cell? ⟨gj, 0, none⟩ = some (.slice Ap np cpp) := hb9.cell 0
      obtain ⟨cj, hcj⟩ : ∃ cj : Array Value, cj = #[.slice Ap np cpp, .bool bk] := ⟨_, rfl⟩
      have HCJ := hide hcj
      rw [← hcj] at hb9
      have HBJ := hide hb9
      clear hb9 q0 q1 hx hrd hcj
      go_wp2_with fail
      clear z0
      go_loopw [26] (PR2 w g gj cj T R us) (fun i _ => np - (intOf i).toNat)
      case atStart => exact ⟨0, Nat.zero_le _, rfl, xs, HO1.out, HBJ.out, by rw [List.drop_zero]; exact HREST1.out⟩
      case round =>
        obtain ⟨a, ha, rfl, ys, hout2, hbj2, hrest2⟩ := hrel
        have HO2 := hide hout2
        have HBJ2 := hide hbj2
        have HREST2 := hide hrest2
        clear hout2 hbj2 hrest2 HO1 HBJ HREST1
        have hx2 := HO2.out.from_
        by_cases hlt2 : a < np
        · have hlt2' : a < us.length := by omega
          have hrd := Reads.of_own HV.out.row
          obtain ⟨b2, off2, rfl, hb2⟩ := hrd.addr (by omega) (by omega)
          have q0 := hx2.cell (Reads.elem pipeVC_len hrd a hlt2' (by omega) 0 (by omega) rfl)
          have q1 := hx2.cell (Reads.elem pipeVC_len hrd a hlt2' (by omega) 1 (by omega) rfl)
          rw [Nat.add_zero] at q0
          have hvi := HV.out.each us[a] (List.getElem_mem hlt2')
          have hpi : us[a].p ∈ ps := by rw [← HV.out.map]; exact List.mem_map.2 ⟨_, List.getElem_mem hlt2', rfl⟩
          have hfi := HFI.out.2.1 _ hpi
          have hrest := HREST2.out
          rw [drop_map_cons (·.p) us a hlt2'] at hrest
          generalize us[a] = v at *
          obtain ⟨⟨iff, cs⟩, Ac, nc, ccc, ms⟩ := v
          dsimp only at q0 q1 hvi hpi hfi hrest
          obtain ⟨hv1, hn6'⟩ := hvi
          dsimp only at hv1 hn6'
          obtain ⟨R2, hR2⟩ : ∃ R2, txts (pipesF sgK ((us.drop (a + 1)).map (·.p))) ++ R = R2 := ⟨_, rfl⟩
          have HRR2 := hide hR2
          have HREST3 := hide (show ys ++ (txts (if iff = [] then [] else [sgK iff]) ++ (txts (cmdsF sgK cs) ++ R2)) = T by
            rw [← hR2, ← hrest]
            simp only [pipesF, txts_app, List.append_assoc])
          have hml : ms.length = nc := flat_len cmdVC_len (by omega) (Reads.of_own hv1.row)
          have HVC := hide hv1
          have HFP := hide hfi
          have HSE := hide (str_empty iff)
          generalize hS : str iff = S at *
          have HS := hide hS
          have hb9 := Blk.new wr pipeT #[.string S, .slice Ac nc ccc]
          have HX3 := hide ((Ext.refl wr).alloc (.cells #[.string S, .slice Ac nc ccc] pipeT))
          have HO3 := hide (HO2.out.ext HX3.out)
          have HBJ3 := hide (HBJ2.out.ext HX3.out)
          clear hR2 hrest hv1 hfi hpi HREST2 HO2 HBJ2 hS
          go_upto_region 9 with fail
          generalize wr.alloc (.cells #[.string S, .slice Ac nc ccc] pipeT) = W3 at *
          generalize wr.heap.size = gp at *
          have z0 : W3.cell? ⟨gp, 0, none⟩ = some (.string S) := hb9.cell 0
          have z1 : W3.cell? ⟨gp, 1, none⟩ = some (.slice Ac nc ccc) := hb9.cell 1
          obtain ⟨cp, hcp⟩ : ∃ cp : Array Value, cp = #[.string S, .slice Ac nc ccc] := ⟨_, rfl⟩
          have HCP := hide hcp
          rw [← hcp] at hb9
          have HBP3 := hide hb9
          clear hb9 q0 q1 hx2 hrd HX3 hcp
          obtain ⟨bq, hbq⟩ : ∃ bq, (!S.toList.isEmpty) = bq := ⟨_, rfl⟩
          have HBQ := hide hbq
          go_upto_if 32 with fail
          try rw [hbq]
          clear hbq
          go_cut [37] (fun _ wx => ∃ zs, OutAt w g zs wx ∧ Blk wx gj jobT cj ∧ Blk wx gp pipeT cp ∧ zs ++ (txts (cmdsF sgK cs) ++ R2) = T)
          case first =>
            by_cases hif : iff = []
            · have he : bq = false := by rw [← HBQ.out, HSE.out, hif]; rfl
              subst he
              have HE3 := hide (show ys ++ (txts (cmdsF sgK cs) ++ R2) = T by
                have := HREST3.out
                rw [if_pos hif] at this
                exact this)
              go_wp2_with fail
              go_meet
              exact ⟨ys, HO3.out, HBJ3.out, HBP3.out, HE3.out⟩
            · have he : bq = true := by rw [← HBQ.out, HSE.out]; simpa using hif
              subst he
              have HE3 := hide (show (ys ++ [iff]) ++ (txts (cmdsF sgK cs) ++ R2) = T by
                have := HREST3.out
                rw [if_neg hif, txts_cons, txt_sign iff hif] at this
                rw [← this]
                simp [txts])
              have hly := len_le HREST3.out hTl
              obtain ⟨hg0, Aq, cq, hbq, hoq, hxq⟩ := HO3.out
              have HN0 := hide ((Ext.refl W3).alloc (.cells #[.string S] 9))
              have HNB := hide (hbq.ext HN0.out)
              have HNO := hide (HN0.out.own hoq)
              have HNX := hide (hxq.trans HN0.out)
              have HNR := hide ((Blk.new W3 9 #[.string S]).rowsF 1 1 rfl)
              have hszq := HNX.out.size
              have cq0 : W3.cell? ⟨g, 0, none⟩ = some (.slice Aq (ys).length cq) := hbq.cell 0
              have HG0 := hide hg0
              clear hbq hoq hxq hg0
              generalize hlx : (ys).length = nx at *
              go_wp2_with (at_builtin; refine wpList_append_any _ rfl (.tmp 33) (.tmp 36) _ rfl w.heap.size 9 i0 _ 1 16 Tryd.underlying42 hi0 hz0 hz1 hz2 rfl (by omega) (.slice Aq nx cq) nx _ rfl HNO.out _ _ 1 1 _ rfl HNR.out (by simp [Value.oneCell']) (by simp only [maxLen]; omega) (by omega) hszq ?_; intro A7 c7 w7 ho7 hg7 ha7; have k7 : w7.cell? ⟨g, 0, none⟩ = some (.slice Aq nx cq) := (Blk.grown HNB.out hg7 (Ne.symm (own_blk_ne HNO.out HNB.out (by decide)))).cell 0; have k8 : w7.frozen? ⟨g, 0, none⟩ = false := (Blk.grown HNB.out hg7 (Ne.symm (own_blk_ne HNO.out HNB.out (by decide)))).frozen 0)
              subst hlx
              have hfin := OutAt.told (x := iff) (A' := A7) (c' := c7) HG0.out HNB.out HNO.out HNX.out (by first | exact ho7 | (rw [HS.out]; exact ho7)) hg7
              have HO4 := hide hfin.1
              have HK4 := hide ((Keeps.of HN0.out).trans hfin.2)
              clear hfin ho7 hg7 ha7 k7 k8 cq0 hszq HN0 HNB HNO HNX HNR HG0
              generalize w7.setCell ⟨g, 0, none⟩ (.slice A7 ((ys).length + 1) c7) = W4 at *
              go_meet
              exact ⟨ys ++ [iff], HO4.out, HK4.out _ _ _ (by decide) (by decide) HBJ3.out, HK4.out _ _ _ (by decide) (by decide) HBP3.out, HE3.out⟩
          case rest =>
            obtain ⟨zs, hzo, hzj, hzp, hze⟩ := hcut
            have HO4 := hide hzo
            have HBJ4 := hide hzj
            have HREST4 := hide hze
            rw [HCP.out] at hzp
            have z2 : wc.cell? ⟨gp, 1, none⟩ = some (.slice Ac nc ccc) := hzp.cell 1
            clear hzo hzj hze z0 z1 HO3 HBJ3 HBP3 HREST3
            go_wp2_with fail
            clear z2 hzp
            go_loopw [41] (PR3 w g gj cj T R2 ms) (fun i _ => nc - (intOf i).toNat)
            case atStart => exact ⟨0, Nat.zero_le _, rfl, zs, HO4.out, HBJ4.out, by rw [List.drop_zero, HVC.out.map]; exact HREST4.out⟩
            case round =>
              obtain ⟨k, hk, rfl, ys, hout2, hbj2, hrest2⟩ := hrel
              have HO5 := hide hout2
              have HBJ5 := hide hbj2
              have HREST5 := hide hrest2
              clear hout2 hbj2 hrest2 HO4 HBJ4 HREST4
              have hx2 := HO5.out.from_
              by_cases hlt3 : k < nc
              · have hlt3' : k < ms.length := by omega
                have hrd := Reads.of_own HVC.out.row
                obtain ⟨b3, off3, rfl, hb3⟩ := hrd.addr (by omega) (by omega)
                have q0 := hx2.cell (Reads.elem cmdVC_len hrd k hlt3' (by omega) 0 (by omega) rfl)
                have q1 := hx2.cell (Reads.elem cmdVC_len hrd k hlt3' (by omega) 1 (by omega) rfl)
                rw [Nat.add_zero] at q0
                have hvi := HVC.out.each ms[k] (List.getElem_mem hlt3')
                have hpi : ms[k].c ∈ cs := by rw [← HVC.out.map]; exact List.mem_map.2 ⟨_, List.getElem_mem hlt3', rfl⟩
                have hfi := HFP.out.2.2 _ hpi
                have hrest := HREST5.out
                rw [drop_map_cons (·.c) ms k hlt3'] at hrest
                generalize ms[k] = v at *
                obtain ⟨⟨ws, rs⟩, A1, n1, c1, A2, n2, c2⟩ := v
                dsimp only at q0 q1 hvi hpi hfi hrest
                have hvw : CmdAt w B ⟨ws, rs⟩ A1 n1 c1 A2 n2 c2 := hvi
                obtain ⟨R3, hR3⟩ : ∃ R3, txts (restC (k + 1) ((ms.drop (k + 1)).map (·.c))) ++ R2 = R3 := ⟨_, rfl⟩
                have HRR3 := hide hR3
                have HREST6 := hide (show ys ++ (txts (if k = 0 then [] else [sgK [124]]) ++ (txts ws ++ (txts (redF sgK rs) ++ R3))) = T by
                  rw [← hR3, ← hrest, restC_cons]
                  simp only [cmdF, txts_app, List.append_assoc])
                have HVW := hide hvw
                have HFC := hide hfi
                have hb9 := Blk.new wr cmdT #[.slice A1 n1 c1, .slice A2 n2 c2]
                have HX3 := hide ((Ext.refl wr).alloc (.cells #[.slice A1 n1 c1, .slice A2 n2 c2] cmdT))
                have HO6 := hide (HO5.out.ext HX3.out)
                have HBJ6 := hide (HBJ5.out.ext HX3.out)
                clear hR3 hrest hvi hvw hfi hpi HREST5 HO5 HBJ5
                go_upto_region 14 with fail
                generalize wr.alloc (.cells #[.slice A1 n1 c1, .slice A2 n2 c2] cmdT) = W5 at *
                generalize wr.heap.size = gc at *
                obtain ⟨cc, hcc⟩ : ∃ cc : Array Value, cc = #[.slice A1 n1 c1, .slice A2 n2 c2] := ⟨_, rfl⟩
                have HCC := hide hcc
                rw [← hcc] at hb9
                have HBC6 := hide hb9
                clear hb9 q0 q1 hx2 hrd HX3 hcc
                go_upto_if 47 with fail
                go_cut [50] (fun _ wx => ∃ zs, OutAt w g zs wx ∧ Blk wx gj jobT cj ∧ Blk wx gc cmdT cc ∧ zs ++ (txts ws ++ (txts (redF sgK rs) ++ R3)) = T)
                case first =>
                  by_cases hk0 : k = 0
                  · have HE3 := hide (show ys ++ (txts ws ++ (txts (redF sgK rs) ++ R3)) = T by
                      have := HREST6.out
                      rw [if_pos hk0] at this
                      exact this)
                    subst hk0
                    go_wp2_with fail
                    go_meet
                    exact ⟨ys, HO6.out, HBJ6.out, HBC6.out, HE3.out⟩
                  · have HE3 := hide (show (ys ++ [[124]]) ++ (txts ws ++ (txts (redF sgK rs) ++ R3)) = T by
                      have := HREST6.out
                      rw [if_neg hk0, txts_cons, txt_sign [124] (by decide)] at this
                      rw [← this]
                      simp [txts])
                    have hly := len_le HREST6.out hTl
                    obtain ⟨hg0, Aq, cq, hbq, hoq, hxq⟩ := HO6.out
                    have HN0 := hide ((Ext.refl W5).alloc (.cells #[.string ⟨#[124]⟩] 9))
                    have HNB := hide (hbq.ext HN0.out)
                    have HNO := hide (HN0.out.own hoq)
                    have HNX := hide (hxq.trans HN0.out)
                    have HNR := hide ((Blk.new W5 9 #[.string ⟨#[124]⟩]).rowsF 1 1 rfl)
                    have hszq := HNX.out.size
                    have cq0 : W5.cell? ⟨g, 0, none⟩ = some (.slice Aq (ys).length cq) := hbq.cell 0
                    have HG0 := hide hg0
                    clear hbq hoq hxq hg0
                    generalize hlx : (ys).length = nx at *
                    go_wp2_with (at_builtin; refine wpList_append_any _ rfl (.tmp 48) (.tmp 49) _ rfl w.heap.size 9 i0 _ 1 16 Tryd.underlying42 hi0 hz0 hz1 hz2 rfl (by omega) (.slice Aq nx cq) nx _ rfl HNO.out _ _ 1 1 _ rfl HNR.out (by simp [Value.oneCell']) (by simp only [maxLen]; omega) (by omega) hszq ?_; intro A7 c7 w7 ho7 hg7 ha7; have k7 : w7.cell? ⟨g, 0, none⟩ = some (.slice Aq nx cq) := (Blk.grown HNB.out hg7 (Ne.symm (own_blk_ne HNO.out HNB.out (by decide)))).cell 0; have k8 : w7.frozen? ⟨g, 0, none⟩ = false := (Blk.grown HNB.out hg7 (Ne.symm (own_blk_ne HNO.out HNB.out (by decide)))).frozen 0)
                    subst hlx
                    have hfin := OutAt.told (x := [124]) (A' := A7) (c' := c7) HG0.out HNB.out HNO.out HNX.out (by first | exact ho7 | (rw [HS.out]; exact ho7)) hg7
                    have HO7 := hide hfin.1
                    have HK7 := hide ((Keeps.of HN0.out).trans hfin.2)
                    clear hfin ho7 hg7 ha7 k7 k8 cq0 hszq HN0 HNB HNO HNX HNR HG0
                    generalize w7.setCell ⟨g, 0, none⟩ (.slice A7 ((ys).length + 1) c7) = W6 at *
                    go_meet
                    exact ⟨ys ++ [[124]], HO7.out, HK7.out _ _ _ (by decide) (by decide) HBJ6.out, HK7.out _ _ _ (by decide) (by decide) HBC6.out, HE3.out⟩
                case rest =>
                  obtain ⟨zs, hzo, hzj, hzp, hze⟩ := hcut
                  have HO7 := hide hzo
                  have HBJ7 := hide hzj
                  have HBC7 := hide hzp
                  have HREST7 := hide hze
                  rw [HCC.out] at hzp
                  have z2 : wc.cell? ⟨gc, 0, none⟩ = some (.slice A1 n1 c1) := hzp.cell 0
                  clear hzo hzj hze hzp HO6 HBJ6 HBC6 HREST6
                  go_wp2_with fail
                  clear z2
                  have hwl := HVW.out.lw
                  have hcl := HFC.out.2.2
                  dsimp only at hwl hcl
                  go_loopw [54] (PR4 w g gj cj gc cc T (txts (redF sgK rs) ++ R3) ws) (fun i _ => n1 - (intOf i).toNat)
                  case atStart => exact ⟨0, Nat.zero_le _, rfl, zs, HO7.out, HBJ7.out, HBC7.out, by rw [List.drop_zero]; exact HREST7.out⟩
                  case round =>
                    obtain ⟨a4, ha4, rfl, ys, hout2, hbj2, hbc2, hrest2⟩ := hrel
                    have HO8 := hide hout2
                    have HBJ8 := hide hbj2
                    have HBC8 := hide hbc2
                    have HREST8 := hide hrest2
                    have hx2 := hout2.from_
                    clear hout2 hbj2 hrest2 hbc2 HO7 HBJ7 HBC7 HREST7
                    by_cases hlt4 : a4 < n1
                    · have hlt4' : a4 < ws.length := by omega
                      have hrd := Reads.of_own HVW.out.words
                      obtain ⟨b4, off4, rfl, hb4⟩ := hrd.addr (by omega) (by omega)
                      have q0 := hx2.cell (Reads.elem tokC_len hrd a4 hlt4' (by omega) 0 (by omega) rfl)
                      have q1 := hx2.cell (Reads.elem tokC_len hrd a4 hlt4' (by omega) 1 (by omega) rfl)
                      have q2 := hx2.cell (Reads.elem tokC_len hrd a4 hlt4' (by omega) 2 (by omega) rfl)
                      rw [Nat.add_zero] at q0
                      obtain ⟨A', c', hv, hrp, hpn, hpt⟩ := HFC.out.2.1.1 ws[a4] (List.getElem_mem hlt4')
                      have hrest := HREST8.out
                      rw [List.drop_eq_getElem_cons hlt4', txts_cons] at hrest
                      generalize ws[a4] = t at *
                      rw [hv] at q1
                      have HCALL := hide (fun (W : World) (hO : OutAt w g ys W) => add_print t.1 A' c' w.heap.size (t.1.at_ : Int) g ys w W hO (hO.from_.reads hrp (Nat.le_refl _)) hO.from_.size hpn hpt (HM.out.ext hO.from_) (len_le HREST8.out hTl))
                      have HNEXT := hide (show (ys ++ [printTok t.1]) ++ (txts (ws.drop (a4 + 1)) ++ (txts (redF sgK rs) ++ R3)) = T by rw [← hrest]; simp)
                      generalize printTok t.1 = pt at *
                      generalize t.1.parts.length = pn at *
                      generalize str t.1.op = So at *
                      generalize (t.1.at_ : Int) = zt at *
                      have HXB := hide ((Ext.refl wr).alloc (.cells #[.string So, .slice A' pn c', .int .i64 zt] 47))
                      clear hv hrp hpn hpt hrest hx2 hrd
                      go_wp2_with fail
                      refine (HCALL.out _ (HO8.out.ext HXB.out)).mono ?_
                      rintro e w9 ⟨rfl, ho9, hk9⟩
                      have HO9 := hide ho9
                      have HK9 := hide ((Keeps.of HXB.out).trans hk9)
                      clear ho9 hk9 HCALL HXB q0 q1 q2
                      go_wp2_with fail
                      go_roundw
                      case rel => exact ⟨a4 + 1, by omega, by go_num, ys ++ [pt], HO9.out, HK9.out _ _ _ (by decide) (by decide) HBJ8.out, HK9.out _ _ _ (by decide) (by decide) HBC8.out, HNEXT.out⟩
                      case measure => simp [intOf]; omega
                    · obtain rfl : a4 = n1 := by omega
                      have HE9 := hide (show ys ++ (txts (redF sgK rs) ++ R3) = T by
                        have := HREST8.out
                        rw [List.drop_of_length_le (by omega)] at this
                        exact this)
                      have hzc := HBC8.out
                      rw [HCC.out] at hzc
                      have z3 : wr.cell? ⟨gc, 1, none⟩ = some (.slice A2 n2 c2) := hzc.cell 1
                      clear hzc HREST8 hx2
                      go_wp2_with fail
                      clear z3
                      have hrl := HVW.out.lr
                      dsimp only at hrl
                      go_loopw [65] (PR5 w g gj cj T R3 rs) (fun i _ => n2 - (intOf i).toNat)
                      case atStart => exact ⟨0, Nat.zero_le _, rfl, ys, HO8.out, HBJ8.out, by rw [List.drop_zero]; exact HE9.out⟩
                      case round =>
                        obtain ⟨a5, ha5, rfl, us5, hout2, hbj2, hrest2⟩ := hrel
                        have HO10 := hide hout2
                        have HBJ10 := hide hbj2
                        have HREST10 := hide hrest2
                        have hx2 := hout2.from_
                        clear hout2 hbj2 hrest2 HO8 HBJ8 HBC8 HE9
                        by_cases hlt5 : a5 < n2
                        · have hlt5' : a5 < rs.length := by omega
                          have hrd := Reads.of_own HVW.out.reds
                          obtain ⟨b5, off5, rfl, hb5⟩ := hrd.addr (by omega) (by omega)
                          have q0 := hx2.cell (Reads.elem redC_len hrd a5 hlt5' (by omega) 0 (by omega) rfl)
                          have q1 := hx2.cell (Reads.elem redC_len hrd a5 hlt5' (by omega) 1 (by omega) rfl)
                          have q2 := hx2.cell (Reads.elem redC_len hrd a5 hlt5' (by omega) 2 (by omega) rfl)
                          have q3 := hx2.cell (Reads.elem redC_len hrd a5 hlt5' (by omega) 3 (by omega) rfl)
                          rw [Nat.add_zero] at q0
                          obtain ⟨A', c', hv, hrp, hpn, hpt⟩ := HFC.out.2.1.2 rs[a5] (List.getElem_mem hlt5')
                          have hsg := (HFC.out.1.2.2 rs[a5] (List.getElem_mem hlt5')).1
                          have hrest := HREST10.out
                          rw [List.drop_eq_getElem_cons hlt5'] at hrest
                          generalize rs[a5] = r at *
                          obtain ⟨kd, t⟩ := r
                          dsimp only at q0 q1 q2 q3 hv hrp hpn hpt hsg hrest
                          have hkne : kd ≠ [] := by rcases hsg with e | e | e <;> rw [e] <;> decide
                          rw [hv] at q2
                          have hr2 : us5 ++ (kd :: printTok t.1 :: (txts (redF sgK (rs.drop (a5 + 1))) ++ R3)) = T := by
                            rw [← hrest]
                            simp only [redF, List.flatMap_cons, txts_app, txts_cons, txt_sign kd hkne, List.append_assoc]
                            rfl
                          have hly := len_le HREST10.out hTl
                          have hly2 : (us5 ++ [kd]).length ≤ 1000 := len_le (R := printTok t.1 :: (txts (redF sgK (rs.drop (a5 + 1))) ++ R3)) (by rw [← hr2]; simp) hTl
                          have HCALL := hide (fun (W : World) (hO : OutAt w g (us5 ++ [kd]) W) => add_print t.1 A' c' w.heap.size (t.1.at_ : Int) g (us5 ++ [kd]) w W hO (hO.from_.reads hrp (Nat.le_refl _)) hO.from_.size hpn hpt (HM.out.ext hO.from_) hly2)
                          have HNEXT := hide (show ((us5 ++ [kd]) ++ [printTok t.1]) ++ (txts (redF sgK (rs.drop (a5 + 1))) ++ R3) = T by rw [← hr2]; simp)
                          generalize printTok t.1 = pt at *
                          generalize t.1.parts.length = pn at *
                          generalize str t.1.op = So at *
                          generalize (t.1.at_ : Int) = zt at *
                          clear hv hrp hpn hpt hrest hr2 hsg hkne hly2
                          generalize hkS : str kd = KS at *
                          have HKS := hide hkS
                          have hb9 := Blk.new wr 54 #[.string KS, .string So, .slice A' pn c', .int .i64 zt]
                          have HXB := hide ((Ext.refl wr).alloc (.cells #[.string KS, .string So, .slice A' pn c', .int .i64 zt] 54))
                          have HO11 := hide (HO10.out.ext HXB.out)
                          have HBJ11 := hide (HBJ10.out.ext HXB.out)
                          clear hkS hx2 hrd
                          go_upto_region 24 with fail
                          generalize wr.alloc (.cells #[.string KS, .string So, .slice A' pn c', .int .i64 zt] 54) = W8 at *
                          generalize wr.heap.size = gr at *
                          have z0 : W8.cell? ⟨gr, 0, none⟩ = some (.string KS) := hb9.cell 0
                          have HBR := hide hb9
                          clear hb9 q0 q1 q2 q3 HXB
                          have HS := HKS
                          obtain ⟨hg0, Aq, cq, hbq, hoq, hxq⟩ := HO11.out
                          have HN0 := hide ((Ext.refl W8).alloc (.cells #[.string KS] 9))
                          have HNB := hide (hbq.ext HN0.out)
                          have HNO := hide (HN0.out.own hoq)
                          have HNX := hide (hxq.trans HN0.out)
                          have HNR := hide ((Blk.new W8 9 #[.string KS]).rowsF 1 1 rfl)
                          have hszq := HNX.out.size
                          have cq0 : W8.cell? ⟨g, 0, none⟩ = some (.slice Aq (us5).length cq) := hbq.cell 0
                          have HG0 := hide hg0
                          clear hbq hoq hxq hg0
                          generalize hlx : (us5).length = nx at *
                          go_upto_region 25 with (at_builtin; refine wpList_append_any _ rfl (.tmp 69) (.tmp 72) _ rfl w.heap.size 9 i0 _ 1 16 Tryd.underlying42 hi0 hz0 hz1 hz2 rfl (by omega) (.slice Aq nx cq) nx _ rfl HNO.out _ _ 1 1 _ rfl HNR.out (by simp [Value.oneCell']) (by simp only [maxLen]; omega) (by omega) hszq ?_; intro A7 c7 w7 ho7 hg7 ha7; have k7 : w7.cell? ⟨g, 0, none⟩ = some (.slice Aq nx cq) := (Blk.grown HNB.out hg7 (Ne.symm (own_blk_ne HNO.out HNB.out (by decide)))).cell 0; have k8 : w7.frozen? ⟨g, 0, none⟩ = false := (Blk.grown HNB.out hg7 (Ne.symm (own_blk_ne HNO.out HNB.out (by decide)))).frozen 0)
                          subst hlx
                          have hfin := OutAt.told (x := kd) (A' := A7) (c' := c7) HG0.out HNB.out HNO.out HNX.out (by first | exact ho7 | (rw [HS.out]; exact ho7)) hg7
                          have HO12 := hide hfin.1
                          have HK12 := hide ((Keeps.of HN0.out).trans hfin.2)
                          clear hfin ho7 hg7 ha7 k7 k8 cq0 hszq HN0 HNB HNO HNX HNR HG0
                          generalize w7.setCell ⟨g, 0, none⟩ (.slice A7 ((us5).length + 1) c7) = W9 at *
                          clear HS z0
                          have hbr := HK12.out _ _ _ (by decide) (by decide) HBR.out
                          have z1 : W9.cell? ⟨gr, 1, none⟩ = some (.string So) := hbr.cell 1
                          have z2 : W9.cell? ⟨gr, 2, none⟩ = some (.slice A' pn c') := hbr.cell 2
                          have z3 : W9.cell? ⟨gr, 3, none⟩ = some (.int .i64 zt) := hbr.cell 3
                          clear hbr
                          go_wp2_with fail
                          refine (HCALL.out _ HO12.out).mono ?_
                          rintro e w9 ⟨rfl, ho9, hk9⟩
                          have HO9 := hide ho9
                          have HK9 := hide (HK12.out.trans hk9)
                          clear ho9 hk9 HCALL z1 z2 z3
                          go_wp2_with fail
                          go_roundw
                          case rel => exact ⟨a5 + 1, by omega, by go_num, (us5 ++ [kd]) ++ [pt], HO9.out, HK9.out _ _ _ (by decide) (by decide) HBJ11.out, HNEXT.out⟩
                          case measure => simp [intOf]; omega
                        · obtain rfl : a5 = n2 := by omega
                          have HE11 := hide (show us5 ++ (txts (restC (k + 1) ((ms.drop (k + 1)).map (·.c))) ++ R2) = T by
                            have := HREST10.out
                            rw [List.drop_of_length_le (by omega)] at this
                            rw [HRR3.out]
                            exact this)
                          clear hx2
                          go_wp2_with fail
                          go_roundw
                          case rel => exact ⟨k + 1, by omega, by go_num, us5, HO10.out, HBJ10.out, HE11.out⟩
                          case measure => simp [intOf]; omega
              · obtain rfl : k = nc := by omega
                have HE11 := hide (show ys ++ (txts (pipesF sgK ((us.drop (a + 1)).map (·.p))) ++ R) = T by
                  have := HREST5.out
                  rw [List.drop_of_length_le (show ms.length ≤ k by omega), List.map_nil, restC_nil] at this
                  rw [HRR2.out]
                  exact this)
                clear hx2
                go_wp2_with fail
                go_roundw
                case rel => exact ⟨a + 1, by omega, by go_num, ys, HO5.out, HBJ5.out, HE11.out⟩
                case measure => simp [intOf]; omega
        · obtain rfl : a = np := by omega
          have HE11 := hide (show ys ++ txts (endF sgK ⟨ps, bk⟩ (!((vs.drop (i + 1)).map (·.j)).isEmpty) ++ jobsF sgK ((vs.drop (i + 1)).map (·.j))) = T by
            have := HREST2.out
            rw [List.drop_of_length_le (show us.length ≤ a by omega), List.map_nil] at this
            rw [HRR.out]
            exact this)
          have hzc := HBJ2.out
          rw [HCJ.out] at hzc
          have z3 : wr.cell? ⟨gj, 1, none⟩ = some (.bool bk) := hzc.cell 1
          clear hzc hx2 HREST2
          go_upto_if 82 with fail
          cases bk with
          | true =>
            have HE3 := hide (show (ys ++ [[38]]) ++ txts (jobsF sgK ((vs.drop (i + 1)).map (·.j))) = T by
              rw [← HE11.out]
              simp [endF, txts, txt_sign [38] (by decide)])
            have hly := len_le HE11.out hTl
            obtain ⟨hg0, Aq, cq, hbq, hoq, hxq⟩ := HO2.out
            have HN0 := hide ((Ext.refl wr).alloc (.cells #[.string ⟨#[38]⟩] 9))
            have HNB := hide (hbq.ext HN0.out)
            have HNO := hide (HN0.out.own hoq)
            have HNX := hide (hxq.trans HN0.out)
            have HNR := hide ((Blk.new wr 9 #[.string ⟨#[38]⟩]).rowsF 1 1 rfl)
            have hszq := HNX.out.size
            have cq0 : wr.cell? ⟨g, 0, none⟩ = some (.slice Aq (ys).length cq) := hbq.cell 0
            have HG0 := hide hg0
            clear hbq hoq hxq hg0
            generalize hlx : (ys).length = nx at *
            go_wp2_with (at_builtin; refine wpList_append_any _ rfl (.tmp 83) (.tmp 84) _ rfl w.heap.size 9 i0 _ 1 16 Tryd.underlying42 hi0 hz0 hz1 hz2 rfl (by omega) (.slice Aq nx cq) nx _ rfl HNO.out _ _ 1 1 _ rfl HNR.out (by simp [Value.oneCell']) (by simp only [maxLen]; omega) (by omega) hszq ?_; intro A7 c7 w7 ho7 hg7 ha7; have k7 : w7.cell? ⟨g, 0, none⟩ = some (.slice Aq nx cq) := (Blk.grown HNB.out hg7 (Ne.symm (own_blk_ne HNO.out HNB.out (by decide)))).cell 0; have k8 : w7.frozen? ⟨g, 0, none⟩ = false := (Blk.grown HNB.out hg7 (Ne.symm (own_blk_ne HNO.out HNB.out (by decide)))).frozen 0)
            subst hlx
            have hfin := OutAt.told (x := [38]) (A' := A7) (c' := c7) HG0.out HNB.out HNO.out HNX.out (by first | exact ho7 | (rw [HS.out]; exact ho7)) hg7
            have HO7 := hide hfin.1
            have HK7 := hide ((Keeps.of HN0.out).trans hfin.2)
            clear hfin ho7 hg7 ha7 k7 k8 cq0 hszq HN0 HNB HNO HNX HNR HG0
            generalize w7.setCell ⟨g, 0, none⟩ (.slice A7 ((ys).length + 1) c7) = W6 at *
            go_roundw
            case rel => exact ⟨i + 1, by omega, by go_num, ys ++ [[38]], HO7.out, HE3.out⟩
            case measure => simp [intOf]; omega
          | false =>
            by_cases hmore : i + 1 < n
            · have hne : ((vs.drop (i + 1)).map (·.j)).isEmpty = false := by
                rw [drop_map_cons (·.j) vs (i + 1) (by omega)]
                rfl
              have HE3 := hide (show (ys ++ [[59]]) ++ txts (jobsF sgK ((vs.drop (i + 1)).map (·.j))) = T by
                rw [← HE11.out, hne]
                simp [endF, txts, txt_sign [59] (by decide)])
              have hly := len_le HE11.out hTl
              clear hne
              obtain ⟨hg0, Aq, cq, hbq, hoq, hxq⟩ := HO2.out
              have HN0 := hide ((Ext.refl wr).alloc (.cells #[.string ⟨#[59]⟩] 9))
              have HNB := hide (hbq.ext HN0.out)
              have HNO := hide (HN0.out.own hoq)
              have HNX := hide (hxq.trans HN0.out)
              have HNR := hide ((Blk.new wr 9 #[.string ⟨#[59]⟩]).rowsF 1 1 rfl)
              have hszq := HNX.out.size
              have cq0 : wr.cell? ⟨g, 0, none⟩ = some (.slice Aq (ys).length cq) := hbq.cell 0
              have HG0 := hide hg0
              clear hbq hoq hxq hg0
              generalize hlx : (ys).length = nx at *
              go_wp2_with (at_builtin; refine wpList_append_any _ rfl (.tmp 91) (.tmp 92) _ rfl w.heap.size 9 i0 _ 1 16 Tryd.underlying42 hi0 hz0 hz1 hz2 rfl (by omega) (.slice Aq nx cq) nx _ rfl HNO.out _ _ 1 1 _ rfl HNR.out (by simp [Value.oneCell']) (by simp only [maxLen]; omega) (by omega) hszq ?_; intro A7 c7 w7 ho7 hg7 ha7; have k7 : w7.cell? ⟨g, 0, none⟩ = some (.slice Aq nx cq) := (Blk.grown HNB.out hg7 (Ne.symm (own_blk_ne HNO.out HNB.out (by decide)))).cell 0; have k8 : w7.frozen? ⟨g, 0, none⟩ = false := (Blk.grown HNB.out hg7 (Ne.symm (own_blk_ne HNO.out HNB.out (by decide)))).frozen 0)
              subst hlx
              have hfin := OutAt.told (x := [59]) (A' := A7) (c' := c7) HG0.out HNB.out HNO.out HNX.out (by first | exact ho7 | (rw [HS.out]; exact ho7)) hg7
              have HO7 := hide hfin.1
              have HK7 := hide ((Keeps.of HN0.out).trans hfin.2)
              clear hfin ho7 hg7 ha7 k7 k8 cq0 hszq HN0 HNB HNO HNX HNR HG0
              generalize w7.setCell ⟨g, 0, none⟩ (.slice A7 ((ys).length + 1) c7) = W6 at *
              go_roundw
              case rel => exact ⟨i + 1, by omega, by go_num, ys ++ [[59]], HO7.out, HE3.out⟩
              case measure => simp [intOf]; omega
            · have hne : (vs.drop (i + 1)) = [] := List.drop_of_length_le (by omega)
              have HE3 := hide (show ys ++ txts (jobsF sgK ((vs.drop (i + 1)).map (·.j))) = T by
                rw [← HE11.out, hne]
                rfl)
              clear hne
              go_wp2_with fail
              go_roundw
              case rel => exact ⟨i + 1, by omega, by go_num, ys, HO2.out, HE3.out⟩
              case measure => simp [intOf]; omega
    · obtain rfl : i = n := by omega
      have hxs : xs = T := by
        have := HREST.out
        rw [List.drop_of_length_le (by omega)] at this
        simpa [jobsF, txts] using this
      subst hxs
      obtain ⟨hg0, Aq, cq, hbq, hoq, hxq⟩ := HOUT.out
      have HJN := hide (join_any Aq cq w.heap.size xs wr hoq hTl (by have := HLEN.out; omega))
      have z4 : wr.cell? ⟨g, 0, none⟩ = some (.slice Aq xs.length cq) := hbq.cell 0
      have HXQ := hide hxq
      clear hbq hoq hxq hg0 hx
      go_wp2_with fail
      refine HJN.out.mono ?_
      rintro e w2 ⟨rfl, hx2⟩
      have HX2 := hide (HXQ.out.trans hx2)
      clear hx2
      go_wp2_with fail
      go_ret
      exact ⟨rfl, HX2.out⟩
end Go.Proofs.YtjbgkcljjgofnaaDoor
