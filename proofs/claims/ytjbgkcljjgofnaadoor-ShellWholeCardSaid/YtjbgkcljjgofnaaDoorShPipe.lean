/- The contract of the parser's pipe. -/
import Derived.Test.YtjbgkcljjgofnaaDoorShCmdW
namespace Go.Proofs.YtjbgkcljjgofnaaDoor
open Go.RowKit
set_option linter.unusedVariables false

abbrev pipeT : TypeId := 32
theorem cmd_info : (Tryd.prog.info? 52).map (fun i => (i.zero, i.size, i.bytes)) = some (some (.agg #[.slice none 0 0, .slice none 0 0]), 2, 48) := by kernel_rfl
def PipePost (w : World) (gp : Nat) (A : Option Addr) (n cp : Nat) (ls : List Tk) (X : Option (PipeJ Tk) × List Tk) (e : Ending) (w' : World) : Prop :=
  ∃ (k : Nat) (s : List UInt8) (Ac : Option Addr) (nc cc : Nat), e = .returned (.tuple #[.agg #[.string (str s), .slice Ac nc cc], .bool X.1.isSome]) ∧ X.2 = ls.drop k ∧ ParAt w' gp A n cp ls k ∧ w.grownBy w' (some gp) ∧ ∀ p, X.1 = some p → s = p.iff ∧ nc ≤ 6 ∧ ∃ vs, CmdsAt w' w.heap.size p.cmds Ac nc cc vs
def PipeRel (w : World) (gp : Nat) (A : Option Addr) (n cp : Nat) (ls : List Tk) (G : Nat) (X : Option (PipeJ Tk) × List Tk) (gr gb g : Nat) (v8 : Value) (wr : World) : Prop :=
  ∃ (F k : Nat) (p : PipeJ Tk) (Ac : Option Addr) (nc cc : Nat) (vs : List CmdV), F = g ∧ pipeP oT G F (ls.drop k) p = X ∧ n - k < F ∧ ParAt wr gp A n cp ls k ∧ Blk wr gb pipeT #[.string (str p.iff), .slice Ac nc cc] ∧ Blk wr gr pipeT #[.string ⟨#[]⟩, .slice none 0 0] ∧ CmdsAt wr (gb + 1) p.cmds Ac nc cc vs ∧ vs.length = nc ∧ nc ≤ 5 ∧ w.grownBy wr (some gp)
theorem ParAt.step {w : World} {gp : Nat} {A : Option Addr} {n c k : Nat} {ls : List Tk} (h : ParAt w gp A n c ls k) (hk : k < n) : ParAt (w.setCell ⟨gp, 1, none⟩ (.int .i64 ((k : Int) + 1))) gp A n c ls (k + 1) where
  blk := by
    have e : ((k + 1 : Nat) : Int) = (k : Int) + 1 := by omega
    rw [e]
    exact h.blk.set_ 1 _
  toks := by
    have hg : w.grownBy (w.setCell ⟨gp, 1, none⟩ (.int .i64 ((k : Int) + 1))) (some gp) := grown_set (grown_of_ext (Ext.refl w) _) (.inl rfl) _
    have hl := h.blk.lt
    exact h.toks.below ⟨hg.os, hg.tape, hg.output, by have := hg.size; omega, fun j hj => hg.block j (by omega) (fun e => by injection e with e; omega)⟩
  len := h.len
  le := by omega
  vals := h.vals
theorem CmdsAt.lower {w : World} {B B' : Nat} {cs : List (CmdJ Tk)} {A : Option Addr} {n c : Nat} {vs : List CmdV} (h : CmdsAt w B cs A n c vs) (hB : B' ≤ B) : CmdsAt w B' cs A n c vs := ⟨own_mono h.row hB, fun v hv => CmdAt.lower (h.each v hv) hB, h.map⟩
/-- A command's rows behind an append to the row of commands and a store into a box below B. -/
theorem CmdAt.behind {w w' : World} {B base g i n : Nat} {c : CmdJ Tk} {A1 A2 : Option Addr} {n1 c1 n2 c2 : Nat} {v u : Value} {xs : List Value} (h : CmdAt w B c A1 n1 c1 A2 n2 c2) (hrow : w.ownsRow base cmdT 2 v n xs) (hg : w.grownBy w' v.ownBlock) (hgb : g < B) : CmdAt (w'.setCell ⟨g, i, none⟩ u) B c A1 n1 c1 A2 n2 c2 where
  words := own_far (own_kept' h.words hg (fun j hj e => own_own_ne h.words hrow (by decide) j hj e)) (fun e => by have := (h.words.lt _ e).1; simp at this; omega) _
  reds := own_far (own_kept' h.reds hg (fun j hj e => own_own_ne h.reds hrow (by decide) j hj e)) (fun e => by have := (h.reds.lt _ e).1; simp at this; omega) _
  lw := h.lw
  lr := h.lr
set_option maxHeartbeats 8000000 in
set_option maxRecDepth 100000 in
theorem pipe_any (op : List UInt8) (gp : Nat) (A : Option Addr) (n cp : Nat) (ls : List Tk) (k0 G : Nat) (w : World) (hn : n ≤ 1000) (hG : n < G) (h : ParAt w gp A n cp ls k0) :
    Calls Tryd.prog 35 #[.pointer (some ⟨gp, 0, none⟩), .string (str op)] w (PipePost w gp A n cp ls (pipeP oT G G (ls.drop k0) ⟨op, []⟩)) := by
  obtain ⟨i0, hi0, hz0, hz1, hz2⟩ := info_parts cmd_info
  obtain ⟨X, hX⟩ : ∃ X, pipeP oT G G (ls.drop k0) ⟨op, []⟩ = X := ⟨_, rfl⟩
  rw [hX]
  have HX := hide hX
  have hgp := h.blk.lt
  have HP0 := hide ((h.ext ((Ext.refl w).alloc (.cells #[.string ⟨#[]⟩, .slice none 0 0] pipeT))).ext ((Ext.refl _).alloc (.cells #[.string (str op), .slice none 0 0] pipeT)))
  have HR0 := hide ((Blk.new w pipeT #[.string ⟨#[]⟩, .slice none 0 0]).alloc (.cells #[.string (str op), .slice none 0 0] pipeT))
  have HC0 := hide (Blk.new' (w.alloc (.cells #[.string ⟨#[]⟩, .slice none 0 0] pipeT)) pipeT #[.string (str op), .slice none 0 0] (g := w.heap.size + 1) (by simp))
  have HG0 := hide (show w.grownBy ((w.alloc (.cells #[.string ⟨#[]⟩, .slice none 0 0] pipeT)).alloc (.cells #[.string (str op), .slice none 0 0] pipeT)) (some gp) from grown_trans' (World.grownBy_alloc _ _ _) (World.grownBy_alloc _ _ _))
  clear hX h
  go_enter Tryd.func35, Tryd.ntmps35
  go_wp2_with fail
  go_loopg [8] G (PipeRel w gp A n cp ls G X w.heap.size (w.heap.size + 1))
  case atStart => exact ⟨G, k0, ⟨op, []⟩, none, 0, 0, [], rfl, HX.out, by omega, HP0.out, HC0.out, HR0.out, ⟨World.ownsRow_nil _ _ _ _, by simp, rfl⟩, rfl, by omega, HG0.out⟩
  case round =>
    obtain ⟨F, k, p, Ac, nc, cc, vs, rfl, hpm, hF, hp, hbx, hbr, hcs, hvl, hn5, hgw⟩ := hrel
    have HPM := hide hpm
    have HP := hide hp
    have HBX := hide hbx
    have HBR := hide hbr
    have HCS := hide hcs
    have HVL := hide hvl
    have HGW := hide hgw
    have hkn := hp.le
    have hgc := hbx.lt
    obtain ⟨F, rfl⟩ : ∃ F', F = F' + 1 := ⟨F - 1, by omega⟩
    clear hpm hp hbx hbr hcs hvl hgw HP0 HR0 HC0 HG0 HX
    go_wp2_with fail
    refine (cmd_any gp A n cp ls k G wr hn (by omega) HP.out).mono ?_
    rintro e w5 ⟨k', A1, n1, c1, A2, n2, c2, rfl, hr2, hp5, hg5, hc5⟩
    have HP5 := hide hp5
    have HBX5 := hide (HBX.out.grown hg5 (fun e => by injection e with e; omega))
    have HBR5 := hide (HBR.out.grown hg5 (fun e => by injection e with e; omega))
    have HCS5 := hide (HCS.out.grown hg5 (fun j hj => by injection hj with hj; omega))
    have HGW5 := hide (grown_trans' HGW.out hg5)
    have hs5 := hg5.size
    have HC5 := hide hc5
    have HR2 := hide hr2
    clear hp5 hg5 hc5 hr2 HP HBX HBR HCS HGW
    cases hx : cmdP oT G (ls.drop k) ⟨[], []⟩ with
    | mk x r' =>
      rw [hx] at HC5 HR2
      dsimp only at HC5 HR2
      have HXX := hide hx
      cases x with
      | none =>
        have HXN := hide (show X = (none, ls.drop k') by
          rw [← HPM.out, ← HR2.out, pipeP, HXX.out])
        have hgr : w.heap.size + 1 < w5.heap.size := by omega
        have HXA := hide ((Ext.refl w5).alloc (.cells #[.slice A1 n1 c1, .slice A2 n2 c2] cmdT))
        obtain ⟨W6, hW6⟩ : ∃ W6, W6 = w5.alloc (.cells #[.slice A1 n1 c1, .slice A2 n2 c2] cmdT) := ⟨_, rfl⟩
        have HW6 := hide hW6
        rw [← hW6] at HXA
        have HBR6 := hide (HBR5.out.ext HXA.out)
        have HP6 := hide (HP5.out.ext HXA.out)
        have HGW6 := hide (grown_trans' HGW5.out (grown_of_ext HXA.out _))
        go_upto_region 3 with fail
        rw [← hW6]
        have r0 : W6.cell? ⟨w.heap.size, 0, none⟩ = some (.string ⟨#[]⟩) := HBR6.out.cell 0
        have r1 : W6.cell? ⟨w.heap.size, 1, none⟩ = some (.slice none 0 0) := HBR6.out.cell 1
        have f0 : W6.frozen? ⟨w.heap.size, 0, none⟩ = false := HBR6.out.frozen 0
        have f1 : W6.frozen? ⟨w.heap.size, 1, none⟩ = false := HBR6.out.frozen 1
        clear hW6
        go_wp2_with fail
        have hg4 : W6.grownBy ((W6.setCell ⟨w.heap.size, 0, none⟩ (.string ⟨#[]⟩)).setCell ⟨w.heap.size, 1, none⟩ (.slice none 0 0)) (some w.heap.size) :=
          grown_set (grown_set (grown_of_ext (Ext.refl W6) _) (p := ⟨w.heap.size, 0, none⟩) (.inl rfl) _) (p := ⟨w.heap.size, 1, none⟩) (.inl rfl) _
        have HPF := hide (HP6.out.grown hg4 (fun j hj => by injection hj with hj; omega))
        have HGF := hide (grown_out HGW6.out hg4 (fun j hj => by injection hj with hj; omega))
        have hb4 := (HBR6.out.set_ 0 (.string ⟨#[]⟩)).set_ 1 (.slice none 0 0)
        generalize (W6.setCell ⟨w.heap.size, 0, none⟩ (.string ⟨#[]⟩)).setCell ⟨w.heap.size, 1, none⟩ (.slice none 0 0) = Wf at *
        have z0 : Wf.cell? ⟨w.heap.size, 0, none⟩ = some (.string ⟨#[]⟩) := hb4.cell 0
        have z1 : Wf.cell? ⟨w.heap.size, 1, none⟩ = some (.slice none 0 0) := hb4.cell 1
        (try simp only [Exit.inBlock, Exit.then])
        refine bodyPost_ret (v := .tuple #[.agg #[.string ⟨#[]⟩, .slice none 0 0], .bool false]) (by simp [results, Tryd.results35, go_sem, z0, z1]) rfl ⟨k', [], none, 0, 0, by rw [HXN.out]; rfl, by rw [HXN.out], HPF.out, HGF.out, fun d hd => by rw [HXN.out] at hd; cases hd⟩
      | some c =>
        have hkk : k ≤ k' := by
          obtain ⟨-, -, ⟨m, hm⟩, -⟩ := cmdP_ok oT (fun _ => True) G _ _ c r' (fun _ _ => trivial) ⟨by simp, by simp, by simp, by simp⟩ hx
          have e := congrArg List.length hm
          rw [HR2.out] at e
          simp only [List.length_drop, HP5.out.len] at e
          have := HP5.out.le
          omega
        have HCA := hide (CmdAt.lower (HC5.out c rfl) (show w.heap.size + 1 + 1 ≤ wr.heap.size by omega))
        have HXA := hide ((Ext.refl w5).alloc (.cells #[.slice A1 n1 c1, .slice A2 n2 c2] cmdT))
        have hb9 := Blk.new w5 cmdT #[.slice A1 n1 c1, .slice A2 n2 c2]
        obtain ⟨W6, hW6⟩ : ∃ W6, W6 = w5.alloc (.cells #[.slice A1 n1 c1, .slice A2 n2 c2] cmdT) := ⟨_, rfl⟩
        rw [← hW6] at HXA hb9
        have HBR6 := hide (HBR5.out.ext HXA.out)
        have HBX6 := hide (HBX5.out.ext HXA.out)
        have HP6 := hide (HP5.out.ext HXA.out)
        have HCS6 := hide (HCS5.out.grown (grown_of_ext HXA.out none) (by simp))
        have HCA6 := hide (HCA.out.grown (grown_of_ext HXA.out none) (by simp))
        have HGW6 := hide (grown_trans' HGW5.out (grown_of_ext HXA.out _))
        have hs6 : w.heap.size + 1 + 1 ≤ W6.heap.size := HBX6.out.lt
        have HPN := hide (show (if p.cmds.length + 1 = 6 ∨ isT oT [124] r' = false then (some ⟨p.iff, p.cmds ++ [c]⟩, r') else pipeP oT G F (r'.drop 1) ⟨p.iff, p.cmds ++ [c]⟩) = X by
          have := HPM.out
          rw [pipeP, HXX.out] at this
          exact this)
        go_upto_region 5 with fail
        rw [← hW6]
        have b0 : W6.cell? ⟨w5.heap.size, 0, none⟩ = some (.slice A1 n1 c1) := hb9.cell 0
        have b1 : W6.cell? ⟨w5.heap.size, 1, none⟩ = some (.slice A2 n2 c2) := hb9.cell 1
        have x1 : W6.cell? ⟨w.heap.size + 1, 1, none⟩ = some (.slice Ac nc cc) := HBX6.out.cell 1
        have HN := hide (Blk.new W6 cmdT #[.slice A1 n1 c1, .slice A2 n2 c2])
        clear hW6 hb9 HBR5 HBX5 HP5 HCS5 HGW5 HC5 HCA HXA
        generalize w5.heap.size = g9 at *
        have HROW := hide (HCS6.out.row.alloc (.cells #[.slice A1 n1 c1, .slice A2 n2 c2] cmdT))
        have HRD := hide (HN.out.rowsF 1 2 rfl)
        have HBXA := hide (show Blk (W6.alloc (.cells #[.slice A1 n1 c1, .slice A2 n2 c2] cmdT)) (w.heap.size + 1) pipeT #[.string (str p.iff), .slice Ac nc cc] from Blk.alloc HBX6.out _)
        have HNE := hide (show some (w.heap.size + 1) ≠ Value.ownBlock (.slice Ac nc cc) from fun e => own_blk_ne HROW.out HBXA.out (by decide) e.symm)
        have HSZ := hide (show w.heap.size + 1 + 1 ≤ (W6.alloc (.cells #[.slice A1 n1 c1, .slice A2 n2 c2] cmdT)).heap.size by simp; omega)
        go_upto_region 6 with (at_builtin; refine wpList_append_any _ rfl (.tmp 20) (.tmp 22) _ rfl (w.heap.size + 1 + 1) cmdT i0 _ 2 48 Tryd.underlying30 hi0 hz0 hz1 hz2 rfl (by omega) (.slice Ac nc cc) nc _ rfl HROW.out _ _ 1 1 _ rfl HRD.out (by simp [Value.oneCell']) (by simp only [maxLen]; omega) (by omega) HSZ.out ?_; intro A7 c7 w7 ho7 hg7 ha7; have k7 : w7.cell? ⟨w.heap.size + 1, 1, none⟩ = some (.slice Ac nc cc) := (Blk.grown HBXA.out hg7 HNE.out).cell 1; have k8 : w7.frozen? ⟨w.heap.size + 1, 1, none⟩ = false := (Blk.grown HBXA.out hg7 HNE.out).frozen 1)
        obtain ⟨v, hv⟩ : ∃ v : CmdV, v = ⟨c, A1, n1, c1, A2, n2, c2⟩ := ⟨_, rfl⟩
        have hvc : cmdVC v = [.slice A1 n1 c1, .slice A2 n2 c2] := by rw [hv]; rfl
        have hrow8 : (w7.setCell ⟨w.heap.size + 1, 1, none⟩ (.slice A7 (nc + 1) c7)).ownsRow (w.heap.size + 1 + 1) cmdT 2 (.slice A7 (nc + 1) c7) (nc + 1) ((vs ++ [v]).flatMap cmdVC) := by
          rw [List.flatMap_append, List.flatMap_cons, List.flatMap_nil, List.append_nil, hvc]
          exact own_far ho7 (fun e => by have := (ho7.lt _ e).1; simp at this; omega) _
        have hrw : ∀ j, Value.ownBlock (.slice Ac nc cc) = some j → w.heap.size + 1 + 1 ≤ j := fun j hj => (HROW.out.lt j hj).1
        have HBX8 := hide ((Blk.grown HBXA.out hg7 HNE.out).set_ 1 (.slice A7 (nc + 1) c7))
        have hgo := grown_set (grown_out (row := some gp) (grown_trans' HGW6.out (World.grownBy_alloc W6 (.cells #[.slice A1 n1 c1, .slice A2 n2 c2] cmdT) _)) hg7 (fun j hj => by have := hrw j hj; omega)) (p := ⟨w.heap.size + 1, 1, none⟩) (.inr (by show w.heap.size ≤ w.heap.size + 1; omega)) (.slice A7 (nc + 1) c7)
        have HGW8 := hide hgo
        have HP8 := hide ((((HP6.out.ext ((Ext.refl W6).alloc (.cells #[.slice A1 n1 c1, .slice A2 n2 c2] cmdT))).grown hg7 (fun j hj => by have := hrw j hj; omega))).grown (grown_set (g := w.heap.size + 1) (p := ⟨w.heap.size + 1, 1, none⟩) (grown_of_ext (Ext.refl w7) _) (.inl rfl) (.slice A7 (nc + 1) c7)) (fun j hj => by injection hj with hj; omega))
        have HCS8 := hide (show CmdsAt (w7.setCell ⟨w.heap.size + 1, 1, none⟩ (.slice A7 (nc + 1) c7)) (w.heap.size + 1 + 1) (p.cmds ++ [c]) A7 (nc + 1) c7 (vs ++ [v]) from ⟨hrow8, fun x hx => by
          rcases List.mem_append.1 hx with hx | hx
          · exact CmdAt.behind (CmdAt.grown (HCS6.out.each x hx) (World.grownBy_alloc W6 _ none) (by simp)) HROW.out hg7 (by omega)
          · rw [List.mem_singleton] at hx
            rw [hx, hv]
            exact CmdAt.behind (CmdAt.grown HCA6.out (World.grownBy_alloc W6 _ none) (by simp)) HROW.out hg7 (by omega), by rw [List.map_append, HCS6.out.map, hv]; rfl⟩)
        have HBR8 := hide (((Blk.alloc HBR6.out (.cells #[.slice A1 n1 c1, .slice A2 n2 c2] cmdT)).grown hg7 (fun e => by have := hrw _ e.symm; omega)).far (p := ⟨w.heap.size + 1, 1, none⟩) (by show w.heap.size ≠ w.heap.size + 1; omega) (.slice A7 (nc + 1) c7))
        clear hrow8 hrw hgo ho7 hg7 ha7 k7 k8
        generalize w7.setCell ⟨w.heap.size + 1, 1, none⟩ (.slice A7 (nc + 1) c7) = W8 at *
        have hpl : p.cmds.length = nc := by rw [← HCS6.out.map, List.length_map]; exact HVL.out
        have HVL8 := hide (show (vs ++ [v]).length = nc + 1 by rw [List.length_append, HVL.out]; rfl)
        have x2 : W8.cell? ⟨w.heap.size + 1, 0, none⟩ = some (.string (str p.iff)) := HBX8.out.cell 0
        have x3 : W8.cell? ⟨w.heap.size + 1, 1, none⟩ = some (.slice A7 (nc + 1) c7) := HBX8.out.cell 1
        have HPL := hide hpl
        clear b0 b1 x1 hv hvc hpl HN HROW HRD HBXA HNE HSZ HCS6 HCA6 HBX6 HBR6 HP6 HGW6
        by_cases h6 : nc = 5
        case' pos =>
          have t1 : (((nc + 1 : Nat) : Int) == 6) = true := by rw [h6]; rfl
          have t2 : ((nc : Int) + 1 == 6) = true := by rw [h6]; rfl
          have HXE := hide (show X = (some ⟨p.iff, p.cmds ++ [c]⟩, r') by
            rw [← HPN.out, if_pos (.inl (by rw [HPL.out, h6]))])
          have HP9 := HP8
          have HBR9 := HBR8
          have HCS9 := HCS8
          have HGW9 := HGW8
          have x4 := x2
          have x5 := x3
          have H6 := hide h6
          clear h6
          generalize W8 = W9 at *
        case' neg =>
          have t1 : (((nc + 1 : Nat) : Int) == 6) = false := by simp; omega
          have t2 : ((nc : Int) + 1 == 6) = false := by simp; omega
          go_wp2_with fail
          refine (is_any [124] gp A n cp ls k' W8 hn HP8.out).mono ?_
          rintro e w9 ⟨rfl, d9, rfl⟩
          have HP9 := hide (HP8.out.ext ((Ext.refl W8).drewN d9))
          have HBR9 := hide (HBR8.out.ext ((Ext.refl W8).drewN d9))
          have HBX9 := hide (HBX8.out.ext ((Ext.refl W8).drewN d9))
          have HCS9 := hide (HCS8.out.grown (grown_of_ext ((Ext.refl W8).drewN d9) none) (by simp))
          have HGW9 := hide (grown_trans' HGW8.out (grown_of_ext ((Ext.refl W8).drewN d9) _))
          have x4 : (W8.drewN d9).cell? ⟨w.heap.size + 1, 0, none⟩ = some (.string (str p.iff)) := x2
          have x5 : (W8.drewN d9).cell? ⟨w.heap.size + 1, 1, none⟩ = some (.slice A7 (nc + 1) c7) := x3
          generalize W8.drewN d9 = W9 at *
          by_cases hbar : isT oT [124] (ls.drop k') = true
          case pos =>
            rw [hbar]
            have hk'n : k' < n := by
              rcases Nat.lt_or_ge k' n with h | h
              · exact h
              · rw [isT_end [124] ls k' (by rw [HP9.out.len]; exact h)] at hbar; cases hbar
            have HXN := hide (show pipeP oT G F (ls.drop (k' + 1)) ⟨p.iff, p.cmds ++ [c]⟩ = X by
              rw [← HPN.out, if_neg (by
                rintro (h | h)
                · rw [HPL.out] at h; omega
                · rw [HR2.out, hbar] at h; cases h), HR2.out, List.drop_drop])
            have p0 : W9.cell? ⟨gp, 1, none⟩ = some (.int .i64 (k' : Int)) := HP9.out.blk.cell 1
            have pf : W9.frozen? ⟨gp, 1, none⟩ = false := HP9.out.blk.frozen 1
            have hgs : W9.grownBy (W9.setCell ⟨gp, 1, none⟩ (.int .i64 ((k' : Int) + 1))) (some gp) := grown_set (grown_of_ext (Ext.refl W9) _) (.inl rfl) _
            have HPE := hide (HP9.out.step hk'n)
            have HBE := hide (HBX9.out.grown hgs (fun e => by injection e with e; omega))
            have HRE := hide (HBR9.out.grown hgs (fun e => by injection e with e; omega))
            have HCE := hide (HCS9.out.grown hgs (fun j hj => by injection hj with hj; omega))
            have HGE := hide (grown_trans' HGW9.out hgs)
            clear hbar hgs x2 x3 x4 x5
            go_wp2_with fail
            go_roundg F
            case rel => exact ⟨F, k' + 1, ⟨p.iff, p.cmds ++ [c]⟩, A7, nc + 1, c7, vs ++ [v], rfl, HXN.out, by omega, HPE.out, HBE.out, HRE.out, HCE.out, HVL8.out, by omega, HGE.out⟩
            case measure => omega
          case' neg =>
            have hbf : isT oT [124] (ls.drop k') = false := by simpa using hbar
            rw [hbf]
            have HXE := hide (show X = (some ⟨p.iff, p.cmds ++ [c]⟩, r') by
              rw [← HPN.out, if_pos (.inr (by rw [HR2.out]; exact hbf))])
        all_goals
          have r0 : W9.cell? ⟨w.heap.size, 0, none⟩ = some (.string ⟨#[]⟩) := HBR9.out.cell 0
          have r1 : W9.cell? ⟨w.heap.size, 1, none⟩ = some (.slice none 0 0) := HBR9.out.cell 1
          have f0 : W9.frozen? ⟨w.heap.size, 0, none⟩ = false := HBR9.out.frozen 0
          have f1 : W9.frozen? ⟨w.heap.size, 1, none⟩ = false := HBR9.out.frozen 1
          go_wp2_with fail
          have hg4 : W9.grownBy ((W9.setCell ⟨w.heap.size, 0, none⟩ (.string (str p.iff))).setCell ⟨w.heap.size, 1, none⟩ (.slice A7 (nc + 1) c7)) (some w.heap.size) :=
            grown_set (grown_set (grown_of_ext (Ext.refl W9) _) (p := ⟨w.heap.size, 0, none⟩) (.inl rfl) _) (p := ⟨w.heap.size, 1, none⟩) (.inl rfl) _
          have HPF := hide (HP9.out.grown hg4 (fun j hj => by injection hj with hj; omega))
          have HGF := hide (grown_out HGW9.out hg4 (fun j hj => by injection hj with hj; omega))
          have HCF := hide ((HCS9.out.grown hg4 (fun j hj => by injection hj with hj; omega)).lower (show w.heap.size ≤ w.heap.size + 1 + 1 by omega))
          have hb4 := (HBR9.out.set_ 0 (.string (str p.iff))).set_ 1 (.slice A7 (nc + 1) c7)
          generalize (W9.setCell ⟨w.heap.size, 0, none⟩ (.string (str p.iff))).setCell ⟨w.heap.size, 1, none⟩ (.slice A7 (nc + 1) c7) = Wf at *
          have z0 : Wf.cell? ⟨w.heap.size, 0, none⟩ = some (.string (str p.iff)) := hb4.cell 0
          have z1 : Wf.cell? ⟨w.heap.size, 1, none⟩ = some (.slice A7 (nc + 1) c7) := hb4.cell 1
          (try simp only [Exit.inBlock, Exit.then])
          refine bodyPost_ret (v := .tuple #[.agg #[.string (str p.iff), .slice A7 (nc + 1) c7], .bool true]) (by simp [results, Tryd.results35, go_sem, z0, z1]) rfl ⟨k', p.iff, A7, nc + 1, c7, by rw [HXE.out]; rfl, by rw [HXE.out]; exact HR2.out, HPF.out, HGF.out, fun d hd => by
            rw [HXE.out] at hd
            cases hd
            exact ⟨rfl, by omega, vs ++ [v], HCF.out⟩⟩
end Go.Proofs.YtjbgkcljjgofnaaDoor
