/- The contract of the parser's job. -/
import Derived.Test.YtjbgkcljjgofnaaDoorShPipe
namespace Go.Proofs.YtjbgkcljjgofnaaDoor
open Go.RowKit
set_option linter.unusedVariables false

abbrev jobT : TypeId := 29
theorem pipe_info : (Tryd.prog.info? 32).map (fun i => (i.zero, i.size, i.bytes)) = some (some (.agg #[.string ⟨#[]⟩, .slice none 0 0]), 2, 40) := by kernel_rfl
/-- A pipe and where its rows lie. -/
structure PipeV where
  p : PipeJ Tk
  A : Option Addr
  n : Nat
  c : Nat
  vs : List CmdV
def pipeVC (x : PipeV) : List Value := [.string (str x.p.iff), .slice x.A x.n x.c]
theorem pipeVC_len (x : PipeV) : (pipeVC x).length = 2 := rfl
def PipeV.At (w : World) (B : Nat) (x : PipeV) : Prop := CmdsAt w B x.p.cmds x.A x.n x.c x.vs ∧ x.n ≤ 6
structure PipesAt (w : World) (B : Nat) (ps : List (PipeJ Tk)) (A : Option Addr) (n c : Nat) (vs : List PipeV) : Prop where
  row : w.ownsRow B pipeT 2 (.slice A n c) n (vs.flatMap pipeVC)
  each : ∀ v ∈ vs, v.At w B
  map : vs.map (·.p) = ps
theorem PipesAt.grown {w w' : World} {B : Nat} {cs : List (PipeJ Tk)} {A : Option Addr} {n c : Nat} {vs : List PipeV} {row : Option Nat} (h : PipesAt w B cs A n c vs) (hg : w.grownBy w' row) (hr : ∀ j, row = some j → j < B) : PipesAt w' B cs A n c vs where
  row := own_kept' h.row hg (fun j hj e => by have := hr j e; have := (h.row.lt j hj).1; omega)
  each := fun v hv => ⟨CmdsAt.grown (h.each v hv).1 hg hr, (h.each v hv).2⟩
  map := h.map
theorem PipesAt.lower {w : World} {B B' : Nat} {cs : List (PipeJ Tk)} {A : Option Addr} {n c : Nat} {vs : List PipeV} (h : PipesAt w B cs A n c vs) (hB : B' ≤ B) : PipesAt w B' cs A n c vs := ⟨own_mono h.row hB, fun v hv => ⟨CmdsAt.lower (h.each v hv).1 hB, (h.each v hv).2⟩, h.map⟩
/-- A command's rows behind an append to a row of another kind and a store into a box below B. -/
theorem CmdAt.past {w w' : World} {B base g i n s : Nat} {e : TypeId} {c : CmdJ Tk} {A1 A2 : Option Addr} {n1 c1 n2 c2 : Nat} {v u : Value} {xs : List Value} (h : CmdAt w B c A1 n1 c1 A2 n2 c2) (hrow : w.ownsRow base e s v n xs) (he1 : 47 ≠ e) (he2 : 54 ≠ e) (hg : w.grownBy w' v.ownBlock) (hgb : g < B) : CmdAt (w'.setCell ⟨g, i, none⟩ u) B c A1 n1 c1 A2 n2 c2 where
  words := own_far (own_kept' h.words hg (fun j hj k => own_own_ne h.words hrow he1 j hj k)) (fun k => by have := (h.words.lt _ k).1; simp at this; omega) _
  reds := own_far (own_kept' h.reds hg (fun j hj k => own_own_ne h.reds hrow he2 j hj k)) (fun k => by have := (h.reds.lt _ k).1; simp at this; omega) _
  lw := h.lw
  lr := h.lr
theorem CmdsAt.past {w w' : World} {B base g i n s n0 c0 : Nat} {e : TypeId} {cs : List (CmdJ Tk)} {A : Option Addr} {vs : List CmdV} {v u : Value} {xs : List Value} (h : CmdsAt w B cs A n0 c0 vs) (hrow : w.ownsRow base e s v n xs) (he0 : cmdT ≠ e) (he1 : 47 ≠ e) (he2 : 54 ≠ e) (hg : w.grownBy w' v.ownBlock) (hgb : g < B) : CmdsAt (w'.setCell ⟨g, i, none⟩ u) B cs A n0 c0 vs where
  row := own_far (own_kept' h.row hg (fun j hj k => own_own_ne h.row hrow he0 j hj k)) (fun k => by have := (h.row.lt _ k).1; simp at this; omega) _
  each := fun x hx => CmdAt.past (h.each x hx) hrow he1 he2 hg hgb
  map := h.map
def JobPost (w : World) (gp : Nat) (A : Option Addr) (n cp : Nat) (ls : List Tk) (X : Option (List (PipeJ Tk)) × List Tk) (e : Ending) (w' : World) : Prop :=
  ∃ (k : Nat) (Ac : Option Addr) (nc cc : Nat), e = .returned (.tuple #[.agg #[.slice Ac nc cc, .bool false], .bool X.1.isSome]) ∧ X.2 = ls.drop k ∧ ParAt w' gp A n cp ls k ∧ w.grownBy w' (some gp) ∧ ∀ ps, X.1 = some ps → nc ≤ 6 ∧ ∃ vs, PipesAt w' w.heap.size ps Ac nc cc vs
def JobRel (w : World) (gp : Nat) (A : Option Addr) (n cp : Nat) (ls : List Tk) (G : Nat) (X : Option (List (PipeJ Tk)) × List Tk) (gr gb g : Nat) (v5 v7 : Value) (wr : World) : Prop :=
  ∃ (F k : Nat) (op : List UInt8) (ps : List (PipeJ Tk)) (Ac : Option Addr) (nc cc : Nat) (vs : List PipeV), F = g ∧ v5 = .string (str op) ∧ jobP oT G F (ls.drop k) op ps = X ∧ n - k < F ∧ ParAt wr gp A n cp ls k ∧ Blk wr gb jobT #[.slice Ac nc cc, .bool false] ∧ Blk wr gr jobT #[.slice none 0 0, .bool false] ∧ PipesAt wr (gb + 1) ps Ac nc cc vs ∧ vs.length = nc ∧ nc ≤ 5 ∧ w.grownBy wr (some gp)
set_option maxHeartbeats 8000000 in
set_option maxRecDepth 100000 in
theorem job_any (gp : Nat) (A : Option Addr) (n cp : Nat) (ls : List Tk) (k0 G : Nat) (w : World) (hn : n ≤ 1000) (hG : n < G) (h : ParAt w gp A n cp ls k0) :
    Calls Tryd.prog 23 #[.pointer (some ⟨gp, 0, none⟩)] w (JobPost w gp A n cp ls (jobP oT G G (ls.drop k0) [] [])) := by
  obtain ⟨i0, hi0, hz0, hz1, hz2⟩ := info_parts pipe_info
  obtain ⟨X, hX⟩ : ∃ X, jobP oT G G (ls.drop k0) [] [] = X := ⟨_, rfl⟩
  rw [hX]
  have HX := hide hX
  have hgp := h.blk.lt
  have HP0 := hide ((h.ext ((Ext.refl w).alloc (.cells #[.slice none 0 0, .bool false] jobT))).ext ((Ext.refl _).alloc (.cells #[.slice none 0 0, .bool false] jobT)))
  have HR0 := hide ((Blk.new w jobT #[.slice none 0 0, .bool false]).alloc (.cells #[.slice none 0 0, .bool false] jobT))
  have HC0 := hide (Blk.new' (w.alloc (.cells #[.slice none 0 0, .bool false] jobT)) jobT #[.slice none 0 0, .bool false] (g := w.heap.size + 1) (by simp))
  have HG0 := hide (show w.grownBy ((w.alloc (.cells #[.slice none 0 0, .bool false] jobT)).alloc (.cells #[.slice none 0 0, .bool false] jobT)) (some gp) from grown_trans' (World.grownBy_alloc _ _ _) (World.grownBy_alloc _ _ _))
  clear hX h
  go_enter Tryd.func23, Tryd.ntmps23
  go_wp2_with fail
  go_loopg [5, 7] G (JobRel w gp A n cp ls G X w.heap.size (w.heap.size + 1))
  case atStart => exact ⟨G, k0, [], [], none, 0, 0, [], rfl, rfl, HX.out, by omega, HP0.out, HC0.out, HR0.out, ⟨World.ownsRow_nil _ _ _ _, by simp, rfl⟩, rfl, by omega, HG0.out⟩
  case round =>
    obtain ⟨F, k, op, ps, Ac, nc, cc, vs, rfl, rfl, hpm, hF, hp, hbx, hbr, hcs, hvl, hn5, hgw⟩ := hrel
    have HPM := hide hpm
    have HP := hide hp
    have HBX := hide hbx
    have HBR := hide hbr
    have HCS := hide hcs
    have HVL := hide hvl
    have HGW := hide hgw
    have hkn := hp.le
    have hgc := hbx.lt
    obtain ⟨F, rfl⟩ : ∃ F', F = F' + 1 := ⟨F - 1, by omega⟩
    clear hpm hp hbx hbr hcs hvl hgw HP0 HR0 HC0 HG0 HX
    have HCALL := hide (pipe_any op gp A n cp ls k G wr hn hG HP.out)
    generalize hos : str op = os at *
    have HOS := hide hos
    clear hos
    go_wp2_with fail
    refine HCALL.out.mono ?_
    rintro e w5 ⟨k', s1, A1, n1, c1, rfl, hr2, hp5, hg5, hc5⟩
    have HP5 := hide hp5
    have HBX5 := hide (HBX.out.grown hg5 (fun e => by injection e with e; omega))
    have HBR5 := hide (HBR.out.grown hg5 (fun e => by injection e with e; omega))
    have HCS5 := hide (HCS.out.grown hg5 (fun j hj => by injection hj with hj; omega))
    have HGW5 := hide (grown_trans' HGW.out hg5)
    have hs5 := hg5.size
    have HC5 := hide hc5
    have HR2 := hide hr2
    clear hp5 hg5 hc5 hr2 HP HBX HBR HCS HGW HCALL
    cases hx : pipeP oT G G (ls.drop k) ⟨op, []⟩ with
    | mk x r' =>
      rw [hx] at HC5 HR2
      dsimp only at HC5 HR2
      have HXX := hide hx
      generalize hs1 : str s1 = S1 at *
      have HS1 := hide hs1
      clear hs1
      cases x with
      | none =>
        have HXN := hide (show X = (none, ls.drop k') by
          rw [← HPM.out, ← HR2.out, jobP, HXX.out])
        have hgr : w.heap.size + 1 < w5.heap.size := by omega
        have HXA := hide ((Ext.refl w5).alloc (.cells #[.string S1, .slice A1 n1 c1] pipeT))
        obtain ⟨W6, hW6⟩ : ∃ W6, W6 = w5.alloc (.cells #[.string S1, .slice A1 n1 c1] pipeT) := ⟨_, rfl⟩
        have HW6 := hide hW6
        rw [← hW6] at HXA
        have HBR6 := hide (HBR5.out.ext HXA.out)
        have HP6 := hide (HP5.out.ext HXA.out)
        have HGW6 := hide (grown_trans' HGW5.out (grown_of_ext HXA.out _))
        go_upto_region 4 with fail
        rw [← hW6]
        have r0 : W6.cell? ⟨w.heap.size, 0, none⟩ = some (.slice none 0 0) := HBR6.out.cell 0
        have r1 : W6.cell? ⟨w.heap.size, 1, none⟩ = some (.bool false) := HBR6.out.cell 1
        have f0 : W6.frozen? ⟨w.heap.size, 0, none⟩ = false := HBR6.out.frozen 0
        have f1 : W6.frozen? ⟨w.heap.size, 1, none⟩ = false := HBR6.out.frozen 1
        clear hW6
        go_wp2_with fail
        have hg4 : W6.grownBy ((W6.setCell ⟨w.heap.size, 0, none⟩ (.slice none 0 0)).setCell ⟨w.heap.size, 1, none⟩ (.bool false)) (some w.heap.size) :=
          grown_set (grown_set (grown_of_ext (Ext.refl W6) _) (p := ⟨w.heap.size, 0, none⟩) (.inl rfl) _) (p := ⟨w.heap.size, 1, none⟩) (.inl rfl) _
        have HPF := hide (HP6.out.grown hg4 (fun j hj => by injection hj with hj; omega))
        have HGF := hide (grown_out HGW6.out hg4 (fun j hj => by injection hj with hj; omega))
        have hb4 := (HBR6.out.set_ 0 (.slice none 0 0)).set_ 1 (.bool false)
        generalize (W6.setCell ⟨w.heap.size, 0, none⟩ (.slice none 0 0)).setCell ⟨w.heap.size, 1, none⟩ (.bool false) = Wf at *
        have z0 : Wf.cell? ⟨w.heap.size, 0, none⟩ = some (.slice none 0 0) := hb4.cell 0
        have z1 : Wf.cell? ⟨w.heap.size, 1, none⟩ = some (.bool false) := hb4.cell 1
        (try simp only [Exit.inBlock, Exit.then])
        refine bodyPost_ret (v := .tuple #[.agg #[.slice none 0 0, .bool false], .bool false]) (by simp [results, Tryd.results23, go_sem, z0, z1]) rfl ⟨k', none, 0, 0, by rw [HXN.out]; rfl, by rw [HXN.out], HPF.out, HGF.out, fun d hd => by rw [HXN.out] at hd; cases hd⟩
      | some p =>
        have hkk : k ≤ k' := by
          obtain ⟨-, -, -, -, m, hm⟩ := pipeP_ok oT (fun _ => True) (ls.drop k).length G G _ _ p r' (fun _ _ => trivial) (Nat.le_refl _) (by simp) (by simp) hx
          have e := congrArg List.length hm
          rw [HR2.out] at e
          simp only [List.length_drop, HP5.out.len] at e
          have := HP5.out.le
          omega
        obtain ⟨hs1, hn6, us, hus⟩ := HC5.out p rfl
        have HSI := hide hs1
        have HCA := hide (CmdsAt.lower hus (show w.heap.size + 1 + 1 ≤ wr.heap.size by omega))
        clear hs1 hus
        have HXA := hide ((Ext.refl w5).alloc (.cells #[.string S1, .slice A1 n1 c1] pipeT))
        have hb9 := Blk.new w5 pipeT #[.string S1, .slice A1 n1 c1]
        obtain ⟨W6, hW6⟩ : ∃ W6, W6 = w5.alloc (.cells #[.string S1, .slice A1 n1 c1] pipeT) := ⟨_, rfl⟩
        rw [← hW6] at HXA hb9
        have HBR6 := hide (HBR5.out.ext HXA.out)
        have HBX6 := hide (HBX5.out.ext HXA.out)
        have HP6 := hide (HP5.out.ext HXA.out)
        have HCS6 := hide (HCS5.out.grown (grown_of_ext HXA.out none) (by simp))
        have HCA6 := hide (HCA.out.grown (grown_of_ext HXA.out none) (by simp))
        have HGW6 := hide (grown_trans' HGW5.out (grown_of_ext HXA.out _))
        have hs6 : w.heap.size + 1 + 1 ≤ W6.heap.size := HBX6.out.lt
        have HPN := hide (show (if ps.length + 1 = 6 ∨ (isT oT [38, 38] r' = false ∧ isT oT [124, 124] r' = false) then (some (ps ++ [p]), r') else jobP oT G F (r'.drop 1) (opT oT r') (ps ++ [p])) = X by
          have := HPM.out
          rw [jobP, HXX.out] at this
          exact this)
        go_upto_region 6 with fail
        rw [← hW6]
        have b0 : W6.cell? ⟨w5.heap.size, 0, none⟩ = some (.string S1) := hb9.cell 0
        have b1 : W6.cell? ⟨w5.heap.size, 1, none⟩ = some (.slice A1 n1 c1) := hb9.cell 1
        have x1 : W6.cell? ⟨w.heap.size + 1, 0, none⟩ = some (.slice Ac nc cc) := HBX6.out.cell 0
        have HN := hide (Blk.new W6 pipeT #[.string S1, .slice A1 n1 c1])
        clear hW6 hb9 HBR5 HBX5 HP5 HCS5 HGW5 HC5 HCA HXA
        generalize w5.heap.size = g9 at *
        have HROW := hide (HCS6.out.row.alloc (.cells #[.string S1, .slice A1 n1 c1] pipeT))
        have HRD := hide (HN.out.rowsF 1 2 rfl)
        have HBXA := hide (show Blk (W6.alloc (.cells #[.string S1, .slice A1 n1 c1] pipeT)) (w.heap.size + 1) jobT #[.slice Ac nc cc, .bool false] from Blk.alloc HBX6.out _)
        have HNE := hide (show some (w.heap.size + 1) ≠ Value.ownBlock (.slice Ac nc cc) from fun e => own_blk_ne HROW.out HBXA.out (by decide) e.symm)
        have HSZ := hide (show w.heap.size + 1 + 1 ≤ (W6.alloc (.cells #[.string S1, .slice A1 n1 c1] pipeT)).heap.size by simp; omega)
        go_upto_region 7 with (at_builtin; refine wpList_append_any _ rfl (.tmp 18) (.tmp 20) _ rfl (w.heap.size + 1 + 1) pipeT i0 _ 2 40 Tryd.underlying27 hi0 hz0 hz1 hz2 rfl (by omega) (.slice Ac nc cc) nc _ rfl HROW.out _ _ 1 1 _ rfl HRD.out (by simp [Value.oneCell']) (by simp only [maxLen]; omega) (by omega) HSZ.out ?_; intro A7 c7 w7 ho7 hg7 ha7; have k7 : w7.cell? ⟨w.heap.size + 1, 0, none⟩ = some (.slice Ac nc cc) := (Blk.grown HBXA.out hg7 HNE.out).cell 0; have k8 : w7.frozen? ⟨w.heap.size + 1, 0, none⟩ = false := (Blk.grown HBXA.out hg7 HNE.out).frozen 0)
        obtain ⟨v, hv⟩ : ∃ v : PipeV, v = ⟨p, A1, n1, c1, us⟩ := ⟨_, rfl⟩
        have hvc : pipeVC v = [.string S1, .slice A1 n1 c1] := by rw [hv, ← HS1.out, HSI.out]; rfl
        have hrow8 : (w7.setCell ⟨w.heap.size + 1, 0, none⟩ (.slice A7 (nc + 1) c7)).ownsRow (w.heap.size + 1 + 1) pipeT 2 (.slice A7 (nc + 1) c7) (nc + 1) ((vs ++ [v]).flatMap pipeVC) := by
          rw [List.flatMap_append, List.flatMap_cons, List.flatMap_nil, List.append_nil, hvc]
          exact own_far ho7 (fun e => by have := (ho7.lt _ e).1; simp at this; omega) _
        have hrw : ∀ j, Value.ownBlock (.slice Ac nc cc) = some j → w.heap.size + 1 + 1 ≤ j := fun j hj => (HROW.out.lt j hj).1
        have HBX8 := hide ((Blk.grown HBXA.out hg7 HNE.out).set_ 0 (.slice A7 (nc + 1) c7))
        have hgo := grown_set (grown_out (row := some gp) (grown_trans' HGW6.out (World.grownBy_alloc W6 (.cells #[.string S1, .slice A1 n1 c1] pipeT) _)) hg7 (fun j hj => by have := hrw j hj; omega)) (p := ⟨w.heap.size + 1, 0, none⟩) (.inr (by show w.heap.size ≤ w.heap.size + 1; omega)) (.slice A7 (nc + 1) c7)
        have HGW8 := hide hgo
        have HP8 := hide ((((HP6.out.ext ((Ext.refl W6).alloc (.cells #[.string S1, .slice A1 n1 c1] pipeT))).grown hg7 (fun j hj => by have := hrw j hj; omega))).grown (grown_set (g := w.heap.size + 1) (p := ⟨w.heap.size + 1, 0, none⟩) (grown_of_ext (Ext.refl w7) _) (.inl rfl) (.slice A7 (nc + 1) c7)) (fun j hj => by injection hj with hj; omega))
        have HCS8 := hide (show PipesAt (w7.setCell ⟨w.heap.size + 1, 0, none⟩ (.slice A7 (nc + 1) c7)) (w.heap.size + 1 + 1) (ps ++ [p]) A7 (nc + 1) c7 (vs ++ [v]) from ⟨hrow8, fun x hx => by
          rcases List.mem_append.1 hx with hx | hx
          · exact ⟨CmdsAt.past (CmdsAt.grown (HCS6.out.each x hx).1 (World.grownBy_alloc W6 _ none) (by simp)) HROW.out (by decide) (by decide) (by decide) hg7 (by omega), (HCS6.out.each x hx).2⟩
          · rw [List.mem_singleton] at hx
            rw [hx, hv]
            exact ⟨CmdsAt.past (CmdsAt.grown HCA6.out (World.grownBy_alloc W6 _ none) (by simp)) HROW.out (by decide) (by decide) (by decide) hg7 (by omega), hn6⟩, by rw [List.map_append, HCS6.out.map, hv]; rfl⟩)
        have HBR8 := hide (((Blk.alloc HBR6.out (.cells #[.string S1, .slice A1 n1 c1] pipeT)).grown hg7 (fun e => by have := hrw _ e.symm; omega)).far (p := ⟨w.heap.size + 1, 0, none⟩) (by show w.heap.size ≠ w.heap.size + 1; omega) (.slice A7 (nc + 1) c7))
        clear hrow8 hrw hgo ho7 hg7 ha7 k7 k8
        generalize w7.setCell ⟨w.heap.size + 1, 0, none⟩ (.slice A7 (nc + 1) c7) = W8 at *
        have hpl : ps.length = nc := by rw [← HCS6.out.map, List.length_map]; exact HVL.out
        have HVL8 := hide (show (vs ++ [v]).length = nc + 1 by rw [List.length_append, HVL.out]; rfl)
        have x2 : W8.cell? ⟨w.heap.size + 1, 0, none⟩ = some (.slice A7 (nc + 1) c7) := HBX8.out.cell 0
        have x3 : W8.cell? ⟨w.heap.size + 1, 1, none⟩ = some (.bool false) := HBX8.out.cell 1
        have HPL := hide hpl
        clear b0 b1 x1 hv hvc hpl HN HROW HRD HBXA HNE HSZ HCS6 HCA6 HBX6 HBR6 HP6 HGW6
        by_cases h6 : nc = 5
        case' pos =>
          have t1 : (((nc + 1 : Nat) : Int) == 6) = true := by rw [h6]; rfl
          have t2 : ((nc : Int) + 1 == 6) = true := by rw [h6]; rfl
          have HXE := hide (show X = (some (ps ++ [p]), r') by
            rw [← HPN.out, if_pos (.inl (by rw [HPL.out, h6]))])
          have HP9 := HP8
          have HBR9 := HBR8
          have HCS9 := HCS8
          have HGW9 := HGW8
          have x4 := x2
          have x5 := x3
          have H6 := hide h6
          clear h6
          generalize W8 = W9 at *
        case' neg =>
          have t1 : (((nc + 1 : Nat) : Int) == 6) = false := by simp; omega
          have t2 : ((nc : Int) + 1 == 6) = false := by simp; omega
          obtain ⟨ba, hba⟩ : ∃ b, isT oT [38, 38] (ls.drop k') = b := ⟨_, rfl⟩
          obtain ⟨bo, hbo⟩ : ∃ b, isT oT [124, 124] (ls.drop k') = b := ⟨_, rfl⟩
          have HI1 := hide (fun (W' : World) (hp : ParAt W' gp A n cp ls k') => is_any [38, 38] gp A n cp ls k' W' hn hp)
          have HI2 := hide (fun (W' : World) (hp : ParAt W' gp A n cp ls k') => is_any [124, 124] gp A n cp ls k' W' hn hp)
          rw [hba] at HI1
          rw [hbo] at HI2
          have HBA := hide hba
          have HBO := hide hbo
          clear hba hbo
          go_wp2_with fail
          refine (HI1.out W8 HP8.out).mono ?_
          rintro e w9 ⟨rfl, d9, rfl⟩
          have HX9 := hide ((Ext.refl W8).drewN d9)
          generalize W8.drewN d9 = W85 at *
          cases ba
          case' true =>
            have HXW := HX9
            have HGO := hide (show isT oT [38, 38] (ls.drop k') = true ∨ isT oT [124, 124] (ls.drop k') = true from .inl HBA.out)
            generalize W85 = W9 at *
          case' false =>
            go_wp2_with fail
            refine (HI2.out W85 (HP8.out.ext HX9.out)).mono ?_
            rintro e w9 ⟨rfl, d9, rfl⟩
            have HXW := hide (HX9.out.drewN d9)
            generalize W85.drewN d9 = W9 at *
            cases bo
            case' true =>
              have HGO := hide (show isT oT [38, 38] (ls.drop k') = true ∨ isT oT [124, 124] (ls.drop k') = true from .inr HBO.out)
            case' false =>
              have HXE := hide (show X = (some (ps ++ [p]), r') by
                rw [← HPN.out, if_pos (.inr (by rw [HR2.out]; exact ⟨HBA.out, HBO.out⟩))])
              have HP9 := hide (HP8.out.ext HXW.out)
              have HBR9 := hide (HBR8.out.ext HXW.out)
              have HCS9 := hide (HCS8.out.grown (grown_of_ext HXW.out none) (by simp))
              have HGW9 := hide (grown_trans' HGW8.out (grown_of_ext HXW.out _))
              have x4 : W9.cell? ⟨w.heap.size + 1, 0, none⟩ = some (.slice A7 (nc + 1) c7) := HXW.out.cell x2
              have x5 : W9.cell? ⟨w.heap.size + 1, 1, none⟩ = some (.bool false) := HXW.out.cell x3
        rotate_left
        iterate 2
          focus
            have hkl : k' < ls.length := by
              rcases Nat.lt_or_ge k' ls.length with h | h
              · exact h
              · rcases HGO.out with e | e
                · rw [isT_end [38, 38] ls k' h] at e; cases e
                · rw [isT_end [124, 124] ls k' h] at e; cases e
            have HP9 := hide (HP8.out.ext HXW.out)
            have HXN := hide (show jobP oT G F (ls.drop (k' + 1)) (opT oT (ls.drop k')) (ps ++ [p]) = X by
              rw [← HPN.out, if_neg (by
                rintro (h | ⟨h, h'⟩)
                · rw [HPL.out] at h; omega
                · rw [HR2.out] at h h'
                  rcases HGO.out with e | e
                  · rw [h] at e; cases e
                  · rw [h'] at e; cases e), HR2.out, List.drop_drop])
            rw [show opT oT (ls.drop k') = ls[k'].1.op by rw [List.drop_eq_getElem_cons hkl]; rfl] at HXN
            obtain ⟨A', n', c', hv⟩ := HP9.out.vals ls[k'] (List.getElem_mem hkl)
            have HT := hide (take_any gp A n cp ls k' W9 hn hkl HP9.out)
            rw [hv] at HT
            have HBX9 := hide (HBX8.out.ext HXW.out)
            have HBR9 := hide (HBR8.out.ext HXW.out)
            have HCS9 := hide (HCS8.out.grown (grown_of_ext HXW.out none) (by simp))
            have HGW9 := hide (grown_trans' HGW8.out (grown_of_ext HXW.out _))
            have hln := HP9.out.len
            have hs9 := HXW.out.size
            have hg8 := HBX8.out.lt
            generalize ls[k'].1.op = oy at *
            generalize ls[k'].1.at_ = zy at *
            generalize hoy : str oy = OY at *
            have HOY := hide hoy
            have hfd : ∀ W' : World, (Instr.field 47 (.agg #[.string OY, .slice A' n' c', .int .i64 (zy : Int)]) 0).run Tryd.prog W' = .ok (.string OY) W' := fun _ => by kernel_rfl
            clear hv hoy x2 x3
            go_wp2_with fail
            refine HT.out.mono ?_
            rintro e w10 ⟨rfl, hp10, hg10⟩
            have HP10 := hide hp10
            have HBX10 := hide (HBX9.out.grown hg10 (fun e => by injection e with e; omega))
            have HBR10 := hide (HBR9.out.grown hg10 (fun e => by injection e with e; omega))
            have HCS10 := hide (HCS9.out.grown hg10 (fun j hj => by injection hj with hj; omega))
            have HGW10 := hide (grown_trans' HGW9.out hg10)
            clear hp10 hg10
            go_wp2_with fail
            go_roundg F
            case rel => exact ⟨F, k' + 1, oy, ps ++ [p], A7, nc + 1, c7, vs ++ [v], rfl, by rw [HOY.out], HXN.out, by omega, HP10.out, HBX10.out, HBR10.out, HCS10.out, HVL8.out, by omega, HGW10.out⟩
            case measure => omega
        all_goals
          have r0 : W9.cell? ⟨w.heap.size, 0, none⟩ = some (.slice none 0 0) := HBR9.out.cell 0
          have r1 : W9.cell? ⟨w.heap.size, 1, none⟩ = some (.bool false) := HBR9.out.cell 1
          have f0 : W9.frozen? ⟨w.heap.size, 0, none⟩ = false := HBR9.out.frozen 0
          have f1 : W9.frozen? ⟨w.heap.size, 1, none⟩ = false := HBR9.out.frozen 1
          go_wp2_with fail
          have hg4 : W9.grownBy ((W9.setCell ⟨w.heap.size, 0, none⟩ (.slice A7 (nc + 1) c7)).setCell ⟨w.heap.size, 1, none⟩ (.bool false)) (some w.heap.size) :=
            grown_set (grown_set (grown_of_ext (Ext.refl W9) _) (p := ⟨w.heap.size, 0, none⟩) (.inl rfl) _) (p := ⟨w.heap.size, 1, none⟩) (.inl rfl) _
          have HPF := hide (HP9.out.grown hg4 (fun j hj => by injection hj with hj; omega))
          have HGF := hide (grown_out HGW9.out hg4 (fun j hj => by injection hj with hj; omega))
          have HCF := hide ((HCS9.out.grown hg4 (fun j hj => by injection hj with hj; omega)).lower (show w.heap.size ≤ w.heap.size + 1 + 1 by omega))
          have hb4 := (HBR9.out.set_ 0 (.slice A7 (nc + 1) c7)).set_ 1 (.bool false)
          generalize (W9.setCell ⟨w.heap.size, 0, none⟩ (.slice A7 (nc + 1) c7)).setCell ⟨w.heap.size, 1, none⟩ (.bool false) = Wf at *
          have z0 : Wf.cell? ⟨w.heap.size, 0, none⟩ = some (.slice A7 (nc + 1) c7) := hb4.cell 0
          have z1 : Wf.cell? ⟨w.heap.size, 1, none⟩ = some (.bool false) := hb4.cell 1
          (try simp only [Exit.inBlock, Exit.then])
          refine bodyPost_ret (v := .tuple #[.agg #[.slice A7 (nc + 1) c7, .bool false], .bool true]) (by simp [results, Tryd.results23, go_sem, z0, z1]) rfl ⟨k', A7, nc + 1, c7, by rw [HXE.out]; rfl, by rw [HXE.out]; exact HR2.out, HPF.out, HGF.out, fun d hd => by
            rw [HXE.out] at hd
            cases hd
            exact ⟨by omega, vs ++ [v], HCF.out⟩⟩
end Go.Proofs.YtjbgkcljjgofnaaDoor
