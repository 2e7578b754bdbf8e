/- The walk of the parser's cmd. -/
import Derived.Test.YtjbgkcljjgofnaaDoorShCmd
namespace Go.Proofs.YtjbgkcljjgofnaaDoor
open Go.RowKit
set_option linter.unusedVariables false

theorem grown_out {a b c : World} {row row2 : Option Nat} (h1 : a.grownBy b row) (h2 : b.grownBy c row2) (hr : ∀ j, row2 = some j → a.heap.size ≤ j) : a.grownBy c row :=
  ⟨h2.os.trans h1.os, h2.tape.trans h1.tape, h2.output.trans h1.output, Nat.le_trans h1.size h2.size, fun k hk hne => (h2.block k (Nat.lt_of_lt_of_le hk h1.size) (fun e => by have := hr k e.symm; omega)).trans (h1.block k hk hne)⟩
def opCw : Op := Op.load 36 (Operand.tmp 14)
theorem opCw_eq : opCw = Op.load 36 (Operand.tmp 14) := rfl
def opCr : Op := Op.load 50 (Operand.tmp 39)
theorem opCr_eq : opCr = Op.load 50 (Operand.tmp 39) := rfl
set_option maxHeartbeats 8000000 in
set_option maxRecDepth 100000 in
theorem cmd_any (gp : Nat) (A : Option Addr) (n cp : Nat) (ls : List Tk) (k0 G : Nat) (w : World) (hn : n ≤ 1000) (hG : n - k0 < G) (h : ParAt w gp A n cp ls k0) :
    Calls Tryd.prog 42 #[.pointer (some ⟨gp, 0, none⟩)] w (CmdPost w gp A n cp ls (cmdP oT G (ls.drop k0) ⟨[], []⟩)) := by
  obtain ⟨i0, hi0, hz0, hz1, hz2⟩ := info_parts tok_info
  obtain ⟨j0, hj0, hy0, hy1, hy2⟩ := info_parts red_info
  obtain ⟨X, hX⟩ : ∃ X, cmdP oT G (ls.drop k0) ⟨[], []⟩ = X := ⟨_, rfl⟩
  rw [hX]
  have HX := hide hX
  have hgp := h.blk.lt
  have HP0 := hide ((h.ext ((Ext.refl w).alloc (.cells #[.slice none 0 0, .slice none 0 0] cmdT))).ext ((Ext.refl _).alloc (.cells #[.slice none 0 0, .slice none 0 0] cmdT)))
  have HR0 := hide ((Blk.new w cmdT #[.slice none 0 0, .slice none 0 0]).alloc (.cells #[.slice none 0 0, .slice none 0 0] cmdT))
  have HC0 := hide (Blk.new' (w.alloc (.cells #[.slice none 0 0, .slice none 0 0] cmdT)) cmdT #[.slice none 0 0, .slice none 0 0] (g := w.heap.size + 1) (by simp))
  have HG0 := hide (show w.grownBy ((w.alloc (.cells #[.slice none 0 0, .slice none 0 0] cmdT)).alloc (.cells #[.slice none 0 0, .slice none 0 0] cmdT)) (some gp) from grown_trans' (World.grownBy_alloc _ _ _) (World.grownBy_alloc _ _ _))
  clear hX h
  go_enter Tryd.func42, Tryd.ntmps42
  go_wp2_with fail
  go_loopg [5] G (CmdRel w gp A n cp ls X w.heap.size (w.heap.size + 1))
  case atStart => exact ⟨G, k0, ⟨[], []⟩, none, 0, 0, none, 0, 0, rfl, HX.out, hG, HP0.out, ⟨HC0.out, World.ownsRow_nil _ _ _ _, World.ownsRow_nil _ _ _ _⟩, HR0.out, rfl, rfl, Nat.zero_le _, HG0.out⟩
  case round =>
    obtain ⟨F, k, c, A1, n1, c1, A2, n2, c2, rfl, hcm, hF, hp, hbx, hbr, hl1, hl2, hnk, hgw⟩ := hrel
    have HCM := hide hcm
    have HP := hide hp
    have HBX := hide hbx
    have HBR := hide hbr
    have HL1 := hide hl1
    have HL2 := hide hl2
    have HGW := hide hgw
    have hkn := hp.le
    have hln := hp.len
    have hgc := hbx.blk.lt
    obtain ⟨F, rfl⟩ : ∃ F', F = F' + 1 := ⟨F - 1, by omega⟩
    clear hcm hp hbx hbr hl1 hl2 hgw HP0 HR0 HC0 HG0 HX
    go_wp2_with fail
    refine (isword_any gp A n cp ls k _ hn HP.out).mono ?_
    rintro e w5 ⟨rfl, d5, rfl⟩
    have HP5 := hide (show ParAt (wr.drewN d5) gp A n cp ls k from HP.out.ext ((Ext.refl wr).drewN d5))
    have HBX5 := hide (show CmdBox (wr.drewN d5) (w.heap.size + 1 + 1) (w.heap.size + 1) c A1 n1 c1 A2 n2 c2 from HBX.out.ext ((Ext.refl wr).drewN d5))
    have HBR5 := hide (show Blk (wr.drewN d5) w.heap.size cmdT #[.slice none 0 0, .slice none 0 0] from HBR.out)
    have HGW5 := hide (show w.grownBy (wr.drewN d5) (some gp) from grown_trans' HGW.out (grown_of_ext ((Ext.refl wr).drewN d5) _))
    have hgc5 : w.heap.size + 1 < (wr.drewN d5).heap.size := hgc
    clear HP HBX HBR HGW hgc
    generalize wr.drewN d5 = W at *
    by_cases hw : isT oT [] (ls.drop k) = true
    · rw [hw]
      have hkl : k < ls.length := by
        rcases Nat.lt_or_ge k ls.length with h | h
        · exact h
        · rw [isT_end [] ls k h] at hw; cases hw
      have hop : ls[k].1.op = [] := by rw [isT_at [] ls k hkl] at hw; simpa using hw
      obtain ⟨A', n', c', hv⟩ := HP5.out.vals ls[k] (List.getElem_mem hkl)
      have HT := hide (fun (W' : World) (hp : ParAt W' gp A n cp ls k) => take_any gp A n cp ls k W' hn hkl hp)
      rw [hv] at HT
      have HTC := hide (show tokC ls[k] = [.string (str ls[k].1.op), .slice A' n' c', .int .i64 (ls[k].1.at_ : Int)] by unfold tokC; rw [hv])
      have HCM2 := hide (show cmdP oT F (ls.drop (k + 1)) ⟨c.words ++ [ls[k]], c.redirs⟩ = X by
        have := HCM.out
        rw [List.drop_eq_getElem_cons hkl, cmdP_word oT (show oT ls[k] = [] from hop)] at this
        exact this)
      have c0 : W.cell? ⟨w.heap.size + 1, 0, none⟩ = some (.slice A1 n1 c1) := HBX5.out.blk.cell 0
      generalize ls[k] = t at *
      generalize str t.1.op = Y at *
      generalize t.1.at_ = z at *
      clear hv hop
      go_upto_region 4 with fail
      rw [← opCw_eq]
      have hOp := opCw_eq
      have m0 : W.drew.cell? ⟨w.heap.size + 1, 0, none⟩ = some (.slice A1 n1 c1) := c0
      have b1 : W.cell? ⟨w.heap.size + 1, 1, none⟩ = some (.slice A2 n2 c2) := HBX5.out.blk.cell 1
      go_region_held3 (fun w' => w'.cell? ⟨w.heap.size + 1, 1, none⟩ = some (.slice A2 n2 c2))
        (first | exact k9 | exact farC k9 (by decide) _ | (refine Ext.cell (w := w6) ?_ d1; ((repeat (first | with_reducible exact Ext.refl _ | with_reducible assumption | with_reducible refine Ext.alloc ?_ _ | with_reducible refine Ext.drew ?_ | with_reducible refine Ext.drewN ?_ _ | with_reducible refine Ext.setCell ?_ (by first | exact Nat.le_refl _ | assumption | (simp; done) | omega) _ | with_reducible refine Ext.trans ?_ (by with_reducible assumption))); done)) | (refine Ext.cell (w := W) ?_ b1; ((repeat (first | with_reducible exact Ext.refl _ | with_reducible assumption | with_reducible refine Ext.alloc ?_ _ | with_reducible refine Ext.drew ?_ | with_reducible refine Ext.drewN ?_ _ | with_reducible refine Ext.setCell ?_ (by first | exact Nat.le_refl _ | assumption | (simp; done) | omega) _ | with_reducible refine Ext.trans ?_ (by with_reducible assumption))); done)) | fail)
        (first
          | (go_at_call_of 25 (Value.pointer (some ⟨gp, 0, none⟩)); refine (HT.out _ (HP5.out.ext (by ((repeat (first | with_reducible exact Ext.refl _ | with_reducible assumption | with_reducible refine Ext.alloc ?_ _ | with_reducible refine Ext.drew ?_ | with_reducible refine Ext.drewN ?_ _ | with_reducible refine Ext.setCell ?_ (by first | exact Nat.le_refl _ | assumption | (simp; done) | omega) _ | with_reducible refine Ext.trans ?_ (by with_reducible assumption))); done)))).mono ?_; rintro e w6 ⟨rfl, hp6, hg6⟩
             have HP6 := hide hp6
             have HBX6 := hide ((HBX5.out.ext (by ((repeat (first | with_reducible exact Ext.refl _ | with_reducible assumption | with_reducible refine Ext.alloc ?_ _ | with_reducible refine Ext.drew ?_ | with_reducible refine Ext.drewN ?_ _ | with_reducible refine Ext.setCell ?_ (by first | exact Nat.le_refl _ | assumption | (simp; done) | omega) _ | with_reducible refine Ext.trans ?_ (by with_reducible assumption))); done))).grown hg6 (fun j hj => by injection hj with hj; omega))
             have d0 : w6.cell? ⟨w.heap.size + 1, 0, none⟩ = some (.slice A1 n1 c1) := HBX6.out.blk.cell 0
             have d1 : w6.cell? ⟨w.heap.size + 1, 1, none⟩ = some (.slice A2 n2 c2) := HBX6.out.blk.cell 1
             have m1 : w6.drew.cell? ⟨w.heap.size + 1, 0, none⟩ = some (.slice A1 n1 c1) := d0
             have m2 : ∀ o, (w6.alloc o).cell? ⟨w.heap.size + 1, 0, none⟩ = some (.slice A1 n1 c1) := fun o => ((Ext.refl w6).alloc o).cell d0
             have m3 : ∀ o, (w6.drew.alloc o).cell? ⟨w.heap.size + 1, 0, none⟩ = some (.slice A1 n1 c1) := fun o => ((Ext.refl w6).drew.alloc o).cell d0
             have m4 : ∀ o, (w6.alloc o).drew.cell? ⟨w.heap.size + 1, 0, none⟩ = some (.slice A1 n1 c1) := fun o => ((Ext.refl w6).alloc o).drew.cell d0
             have HGW6 := hide (grown_trans' (grown_trans' HGW5.out (grown_of_ext (w' := _) (by ((repeat (first | with_reducible exact Ext.refl _ | with_reducible assumption | with_reducible refine Ext.alloc ?_ _ | with_reducible refine Ext.drew ?_ | with_reducible refine Ext.drewN ?_ _ | with_reducible refine Ext.setCell ?_ (by first | exact Nat.le_refl _ | assumption | (simp; done) | omega) _ | with_reducible refine Ext.trans ?_ (by with_reducible assumption))); done)) _)) hg6)
             have HBR6 := hide ((HBR5.out.ext (by ((repeat (first | with_reducible exact Ext.refl _ | with_reducible assumption | with_reducible refine Ext.alloc ?_ _ | with_reducible refine Ext.drew ?_ | with_reducible refine Ext.drewN ?_ _ | with_reducible refine Ext.setCell ?_ (by first | exact Nat.le_refl _ | assumption | (simp; done) | omega) _ | with_reducible refine Ext.trans ?_ (by with_reducible assumption))); done))).grown hg6 (fun e => by injection e with e; omega))
             have hs6 : w.heap.size + 1 + 1 ≤ w6.heap.size := HBX6.out.blk.lt)
          | (refine step_append_any _ (by rfl) (.tmp 15) (.tmp 18) 36 (by rfl) (w.heap.size + 1 + 1) 47 i0 _ 3 48 Tryd.underlying36 hi0 hz0 hz1 hz2 rfl (by omega) (.slice A1 n1 c1) n1 (c.words.flatMap tokC) (by rfl) (Ext.own (w := w6) (by ((repeat (first | with_reducible exact Ext.refl _ | with_reducible assumption | with_reducible refine Ext.alloc ?_ _ | with_reducible refine Ext.drew ?_ | with_reducible refine Ext.drewN ?_ _ | with_reducible refine Ext.setCell ?_ (by first | exact Nat.le_refl _ | assumption | (simp; done) | omega) _ | with_reducible refine Ext.trans ?_ (by with_reducible assumption))); done)) HBX6.out.words) _ _ 1 1 [.string Y, .slice A' n' c', .int .i64 (z : Int)] (by rfl) (by first | exact (Blk.new w6 47 #[.string Y, .slice A' n' c', .int .i64 (z : Int)]).rowsF 1 3 rfl | exact (Blk.new w6 47 #[.string Y, .slice A' n' c', .int .i64 (z : Int)]).drew.rowsF 1 3 rfl | exact (Blk.new w6.drew 47 #[.string Y, .slice A' n' c', .int .i64 (z : Int)]).rowsF 1 3 rfl) (by simp [Value.oneCell']) (by simp only [maxLen]; omega) (by omega) (Nat.le_trans hs6 (Ext.size (w := w6) (by ((repeat (first | with_reducible exact Ext.refl _ | with_reducible assumption | with_reducible refine Ext.alloc ?_ _ | with_reducible refine Ext.drew ?_ | with_reducible refine Ext.drewN ?_ _ | with_reducible refine Ext.setCell ?_ (by first | exact Nat.le_refl _ | assumption | (simp; done) | omega) _ | with_reducible refine Ext.trans ?_ (by with_reducible assumption))); done)))) ?_; intro A7 c7 w7 ho7 hg7 ha7
             have k7 : w7.cell? ⟨w.heap.size + 1, 0, none⟩ = some (.slice A1 n1 c1) := (Blk.grown (HBX6.out.blk.ext (by ((repeat (first | with_reducible exact Ext.refl _ | with_reducible assumption | with_reducible refine Ext.alloc ?_ _ | with_reducible refine Ext.drew ?_ | with_reducible refine Ext.drewN ?_ _ | with_reducible refine Ext.setCell ?_ (by first | exact Nat.le_refl _ | assumption | (simp; done) | omega) _ | with_reducible refine Ext.trans ?_ (by with_reducible assumption))); done))) hg7 (fun e => own_blk_ne HBX6.out.words HBX6.out.blk (by decide) e.symm)).cell 0
             have k9 : w7.cell? ⟨w.heap.size + 1, 1, none⟩ = some (.slice A2 n2 c2) := (Blk.grown (HBX6.out.blk.ext (by ((repeat (first | with_reducible exact Ext.refl _ | with_reducible assumption | with_reducible refine Ext.alloc ?_ _ | with_reducible refine Ext.drew ?_ | with_reducible refine Ext.drewN ?_ _ | with_reducible refine Ext.setCell ?_ (by first | exact Nat.le_refl _ | assumption | (simp; done) | omega) _ | with_reducible refine Ext.trans ?_ (by with_reducible assumption))); done))) hg7 (fun e => own_blk_ne HBX6.out.words HBX6.out.blk (by decide) e.symm)).cell 1
             have k8 : w7.frozen? ⟨w.heap.size + 1, 0, none⟩ = false := (Blk.grown (HBX6.out.blk.ext (by ((repeat (first | with_reducible exact Ext.refl _ | with_reducible assumption | with_reducible refine Ext.alloc ?_ _ | with_reducible refine Ext.drew ?_ | with_reducible refine Ext.drewN ?_ _ | with_reducible refine Ext.setCell ?_ (by first | exact Nat.le_refl _ | assumption | (simp; done) | omega) _ | with_reducible refine Ext.trans ?_ (by with_reducible assumption))); done))) hg7 (fun e => own_blk_ne HBX6.out.words HBX6.out.blk (by decide) e.symm)).frozen 0)
          | fail)
      all_goals
        have ho8 : w7.ownsRow (w.heap.size + 1 + 1) 47 3 (.slice A7 (n1 + 1) c7) (n1 + 1) ((c.words ++ [t]).flatMap tokC) := by
          rw [List.flatMap_append, List.flatMap_cons, List.flatMap_nil, List.append_nil, HTC.out]
          exact ho7
        have HZ := hide ((HBX6.out.ext (by ((repeat (first | with_reducible exact Ext.refl _ | with_reducible assumption | with_reducible refine Ext.alloc ?_ _ | with_reducible refine Ext.drew ?_ | with_reducible refine Ext.drewN ?_ _ | with_reducible refine Ext.setCell ?_ (by first | exact Nat.le_refl _ | assumption | (simp; done) | omega) _ | with_reducible refine Ext.trans ?_ (by with_reducible assumption))); done))).word ho8 hg7 (by omega))
        have HPZ := hide ((((HP6.out.ext (by ((repeat (first | with_reducible exact Ext.refl _ | with_reducible assumption | with_reducible refine Ext.alloc ?_ _ | with_reducible refine Ext.drew ?_ | with_reducible refine Ext.drewN ?_ _ | with_reducible refine Ext.setCell ?_ (by first | exact Nat.le_refl _ | assumption | (simp; done) | omega) _ | with_reducible refine Ext.trans ?_ (by with_reducible assumption))); done))).grown hg7 (fun j hj => by have := (HBX6.out.words.lt j hj).1; omega))).grown (grown_set (g := w.heap.size + 1) (p := ⟨w.heap.size + 1, 0, none⟩) (grown_of_ext (Ext.refl w7) _) (.inl rfl) (.slice A7 (n1 + 1) c7)) (fun j hj => by injection hj with hj; omega))
        have HGZ := hide (grown_set (p := ⟨w.heap.size + 1, 0, none⟩) (grown_out (grown_trans' HGW6.out (grown_of_ext (by ((repeat (first | with_reducible exact Ext.refl _ | with_reducible assumption | with_reducible refine Ext.alloc ?_ _ | with_reducible refine Ext.drew ?_ | with_reducible refine Ext.drewN ?_ _ | with_reducible refine Ext.setCell ?_ (by first | exact Nat.le_refl _ | assumption | (simp; done) | omega) _ | with_reducible refine Ext.trans ?_ (by with_reducible assumption))); done)) _)) hg7 (fun j hj => by have := (HBX6.out.words.lt j hj).1; omega)) (.inr (by show w.heap.size ≤ w.heap.size + 1; omega)) (.slice A7 (n1 + 1) c7))
        have HRZ := hide (((HBR6.out.ext (by ((repeat (first | with_reducible exact Ext.refl _ | with_reducible assumption | with_reducible refine Ext.alloc ?_ _ | with_reducible refine Ext.drew ?_ | with_reducible refine Ext.drewN ?_ _ | with_reducible refine Ext.setCell ?_ (by first | exact Nat.le_refl _ | assumption | (simp; done) | omega) _ | with_reducible refine Ext.trans ?_ (by with_reducible assumption))); done))).grown hg7 (fun e => by have := (HBX6.out.words.lt _ e.symm).1; omega)).far (p := ⟨w.heap.size + 1, 0, none⟩) (by show w.heap.size ≠ w.heap.size + 1; omega) (.slice A7 (n1 + 1) c7))
        have HL3 := hide (show (c.words ++ [t]).length = n1 + 1 by rw [List.length_append, HL1.out]; rfl)
        clear ho7 ho8 hg7 ha7 k7 k8 k9 d0 d1 m0 m1 m2 m3 m4 c0 b1 hOp HBX6 HP6 HGW6 HBR6
        generalize w7.setCell ⟨w.heap.size + 1, 0, none⟩ (.slice A7 (n1 + 1) c7) = W8 at *
        go_wp2_with fail
        go_roundg F
        case rel => exact ⟨F, k + 1, ⟨c.words ++ [t], c.redirs⟩, A7, n1 + 1, c7, A2, n2, c2, rfl, HCM2.out, by omega, HPZ.out, HZ.out, HRZ.out, HL3.out, HL2.out, by omega, HGZ.out⟩
        case measure => omega
    · have hwf : isT oT [] (ls.drop k) = false := by simpa using hw
      rw [hwf]
      obtain ⟨b1, hb1⟩ : ∃ b, isT oT [60] (ls.drop k) = b := ⟨_, rfl⟩
      obtain ⟨b2, hb2⟩ : ∃ b, isT oT [62] (ls.drop k) = b := ⟨_, rfl⟩
      obtain ⟨b3, hb3⟩ : ∃ b, isT oT [62, 62] (ls.drop k) = b := ⟨_, rfl⟩
      have hrd : redirT oT (ls.drop k) = (b1 || (b2 || b3)) := by unfold redirT; rw [hb1, hb2, hb3]
      have HRD := hide hrd
      have HWF := hide hwf
      have HI1 := hide (fun (W' : World) (hp : ParAt W' gp A n cp ls k) => is_any [60] gp A n cp ls k W' hn hp)
      have HI2 := hide (fun (W' : World) (hp : ParAt W' gp A n cp ls k) => is_any [62] gp A n cp ls k W' hn hp)
      have HI3 := hide (fun (W' : World) (hp : ParAt W' gp A n cp ls k) => is_any [62, 62] gp A n cp ls k W' hn hp)
      rw [hb1] at HI1
      rw [hb2] at HI2
      rw [hb3] at HI3
      clear hb1 hb2 hb3 hrd hwf hw
      go_wp2_with fail
      refine (HI1.out W HP5.out).mono ?_
      rintro e w6 ⟨rfl, d6, rfl⟩
      cases b1
      case' true =>
        have HXW := hide ((Ext.refl W).drewN d6)
        generalize W.drewN d6 = W6 at *
      case' false =>
        have HP6 := hide (HP5.out.ext ((Ext.refl W).drewN d6))
        have HX6 := hide ((Ext.refl W).drewN d6)
        generalize W.drewN d6 = W1 at *
        go_wp2_with fail
        refine (HI2.out W1 HP6.out).mono ?_
        rintro e w6 ⟨rfl, d7, rfl⟩
        cases b2
        case' true =>
          have HXW := hide (HX6.out.drewN d7)
          generalize W1.drewN d7 = W6 at *
          clear HP6
        case' false =>
          have HP7 := hide (HP6.out.ext ((Ext.refl W1).drewN d7))
          have HX7 := hide (HX6.out.drewN d7)
          generalize W1.drewN d7 = W2 at *
          go_wp2_with fail
          refine (HI3.out W2 HP7.out).mono ?_
          rintro e w6 ⟨rfl, d8, rfl⟩
          have HXW := hide (HX7.out.drewN d8)
          generalize W2.drewN d8 = W6 at *
          clear HP6 HP7
          cases b3
          case false =>
            have HBX6 := hide (HBX5.out.ext HXW.out)
            have HBR6 := hide (HBR5.out.ext HXW.out)
            have HP8 := hide (HP5.out.ext HXW.out)
            have HGW6 := hide (grown_trans' HGW5.out (grown_of_ext HXW.out _))
            have HCE := hide (show (if c.words.isEmpty = true then none else some c, ls.drop k) = X by
              have := HCM.out
              cases hls : ls.drop k with
              | nil =>
                rw [hls] at this
                exact this
              | cons t r =>
                rw [hls] at this
                have h1 := HWF.out
                have h2 := HRD.out
                rw [hls] at h1 h2
                have h1' : ¬ oT t = [] := by simpa [isT] using h1
                simp only [cmdP] at this
                rw [if_neg h1', h2] at this
                exact this)
            have c0 : W6.cell? ⟨w.heap.size + 1, 0, none⟩ = some (.slice A1 n1 c1) := HBX6.out.blk.cell 0
            have c1' : W6.cell? ⟨w.heap.size + 1, 1, none⟩ = some (.slice A2 n2 c2) := HBX6.out.blk.cell 1
            have r0 : W6.cell? ⟨w.heap.size, 0, none⟩ = some (.slice none 0 0) := HBR6.out.cell 0
            have r1 : W6.cell? ⟨w.heap.size, 1, none⟩ = some (.slice none 0 0) := HBR6.out.cell 1
            have f0 : W6.frozen? ⟨w.heap.size, 0, none⟩ = false := HBR6.out.frozen 0
            have f1 : W6.frozen? ⟨w.heap.size, 1, none⟩ = false := HBR6.out.frozen 1
            go_upto_region 2 with fail
            have hne : w.heap.size ≠ w.heap.size + 1 := by omega
            go_region_held3 (fun w' => w'.cell? ⟨w.heap.size + 1, 0, none⟩ = some (.slice A1 n1 c1) ∧ w'.cell? ⟨w.heap.size + 1, 1, none⟩ = some (.slice A2 n2 c2))
              (first | exact ⟨c0, c1'⟩ | exact ⟨far1 (far1 c0 hne _) hne _, far1 (far1 c1' hne _) hne _⟩ | fail)
              (fail)
            have hg4 : W6.grownBy ((W6.setCell ⟨w.heap.size, 0, none⟩ (.slice A1 n1 c1)).setCell ⟨w.heap.size, 1, none⟩ (.slice A2 n2 c2)).drew (some w.heap.size) :=
              grown_trans' (grown_set (grown_set (grown_of_ext (Ext.refl W6) _) (p := ⟨w.heap.size, 0, none⟩) (.inl rfl) _) (p := ⟨w.heap.size, 1, none⟩) (.inl rfl) _) (grown_of_ext ((Ext.refl _).drew) _)
            have HBF := hide (HBX6.out.grown hg4 (fun j hj => by injection hj with hj; omega))
            have HPF := hide (HP8.out.grown hg4 (fun j hj => by injection hj with hj; omega))
            have HGF := hide (grown_out HGW6.out hg4 (fun j hj => by injection hj with hj; omega))
            have hb4 := ((HBR6.out.set_ 0 (.slice A1 n1 c1)).set_ 1 (.slice A2 n2 c2)).drew
            generalize ((W6.setCell ⟨w.heap.size, 0, none⟩ (.slice A1 n1 c1)).setCell ⟨w.heap.size, 1, none⟩ (.slice A2 n2 c2)).drew = Wf at *
            have z0 : Wf.cell? ⟨w.heap.size, 0, none⟩ = some (.slice A1 n1 c1) := hb4.cell 0
            have z1 : Wf.cell? ⟨w.heap.size, 1, none⟩ = some (.slice A2 n2 c2) := hb4.cell 1
            have hX1 : X.1.isSome = decide (0 < n1) ∧ X.2 = ls.drop k ∧ ∀ d, X.1 = some d → d = c := by
              rw [← HCE.out, ← HL1.out]
              cases hcw : c.words with
              | nil => exact ⟨rfl, rfl, fun d hd => by cases hd⟩
              | cons a l => exact ⟨by simp, rfl, fun d hd => by simpa using hd.symm⟩
            have HX1 := hide hX1
            clear hg4 hb4 c0 c1' r0 r1 f0 f1 hX1
            go_wp2_with fail
            (try simp only [Exit.inBlock, Exit.then])
            refine bodyPost_ret (v := .tuple #[.agg #[.slice A1 n1 c1, .slice A2 n2 c2], .bool (decide (0 < n1))]) (by simp [results, Tryd.results42, go_sem, z0, z1]) rfl ⟨k, A1, n1, c1, A2, n2, c2, by rw [HX1.out.1], HX1.out.2.1, HPF.out, HGF.out, fun d hd => ?_⟩
            have := HX1.out.2.2 d hd
            subst this
            exact ⟨own_mono HBF.out.words (by omega), own_mono HBF.out.reds (by omega), HL1.out, HL2.out⟩
      all_goals
        have hrt : redirT oT (ls.drop k) = true := by have := HRD.out; simpa using this
        have hkl : k < ls.length := by
          rcases Nat.lt_or_ge k ls.length with h | h
          · exact h
          · rw [List.drop_of_length_le h] at hrt
            cases hrt
        have HBX6 := hide (HBX5.out.ext HXW.out)
        have HBR6 := hide (HBR5.out.ext HXW.out)
        have HP6 := hide (HP5.out.ext HXW.out)
        have HGW6 := hide (grown_trans' HGW5.out (grown_of_ext HXW.out _))
        obtain ⟨A', n', c', hv⟩ := HP6.out.vals ls[k] (List.getElem_mem hkl)
        have HT := hide (fun (W' : World) (hp : ParAt W' gp A n cp ls k) => take_any gp A n cp ls k W' hn hkl hp)
        rw [hv] at HT
        have hdr : ls.drop k = ls[k] :: ls.drop (k + 1) := List.drop_eq_getElem_cons hkl
        have hop : ¬ oT ls[k] = [] := by
          have := HWF.out
          rw [hdr] at this
          simpa [isT] using this
        have HDR := hide hdr
        have HOP := hide hop
        have HRT := hide hrt
        clear hrt hdr hop hv
        go_wp2_with fail
        refine (HT.out W6 HP6.out).mono ?_
        rintro e w7 ⟨rfl, hp7, hg7⟩
        have HBX7 := hide (HBX6.out.grown hg7 (fun j hj => by injection hj with hj; omega))
        have HBR7 := hide (HBR6.out.grown hg7 (fun e => by injection e with e; omega))
        have HGW7 := hide (grown_trans' HGW6.out hg7)
        have HP7 := hide hp7
        have hgc7 : w.heap.size + 1 < w7.heap.size := HBX7.out.blk.lt
        clear hp7 hg7 HT HBX6 HBR6 HGW6 HP6 HBX5 HBR5 HP5 HGW5 HXW
        have hfd : ∀ W' : World, (Instr.field 47 (.agg #[.string (str ls[k].1.op), .slice A' n' c', .int .i64 (ls[k].1.at_ : Int)]) 0).run Tryd.prog W' = .ok (.string (str ls[k].1.op)) W' := fun _ => by kernel_rfl
        go_wp2_with fail
        refine (isword_any gp A n cp ls (k + 1) _ hn HP7.out).mono ?_
        rintro e w8 ⟨rfl, d8, rfl⟩
        have HP8 := hide (HP7.out.ext ((Ext.refl w7).drewN d8))
        have HBX8 := hide (HBX7.out.ext ((Ext.refl w7).drewN d8))
        have HBR8 := hide (HBR7.out.ext ((Ext.refl w7).drewN d8))
        have HGW8 := hide (grown_trans' HGW7.out (grown_of_ext ((Ext.refl w7).drewN d8) _))
        clear HP7 HBX7 HBR7 HGW7
        generalize w7.drewN d8 = W7 at *
        by_cases hw2 : isT oT [] (ls.drop (k + 1)) = true
        · rw [hw2]
          have hkl2 : k + 1 < ls.length := by
            rcases Nat.lt_or_ge (k + 1) ls.length with h | h
            · exact h
            · rw [isT_end [] ls (k + 1) h] at hw2; cases hw2
          have hop2 : ls[k + 1].1.op = [] := by rw [isT_at [] ls (k + 1) hkl2] at hw2; simpa using hw2
          obtain ⟨A9, n9, c9, hv9⟩ := HP8.out.vals ls[k + 1] (List.getElem_mem hkl2)
          have HT := hide (fun (W' : World) (hp : ParAt W' gp A n cp ls (k + 1)) => take_any gp A n cp ls (k + 1) W' hn hkl2 hp)
          rw [hv9] at HT
          have HTC := hide (show redC (oT ls[k], ls[k + 1]) = [.string (str ls[k].1.op), .string (str ls[k + 1].1.op), .slice A9 n9 c9, .int .i64 (ls[k + 1].1.at_ : Int)] by unfold redC; rw [hv9]; rfl)
          have HCM2 := hide (show cmdP oT F (ls.drop (k + 1 + 1)) ⟨c.words, c.redirs ++ [(oT ls[k], ls[k + 1])]⟩ = X by
            have h2 := HRT.out
            rw [HDR.out, List.drop_eq_getElem_cons hkl2] at h2
            rw [← HCM.out, HDR.out, List.drop_eq_getElem_cons hkl2, cmdP_red oT HOP.out h2 (show oT ls[k + 1] = [] from hop2)])
          have c0 : W7.cell? ⟨w.heap.size + 1, 1, none⟩ = some (.slice A2 n2 c2) := HBX8.out.blk.cell 1
          have b1 : W7.cell? ⟨w.heap.size + 1, 0, none⟩ = some (.slice A1 n1 c1) := HBX8.out.blk.cell 0
          have m0 : W7.drew.cell? ⟨w.heap.size + 1, 1, none⟩ = some (.slice A2 n2 c2) := c0
          generalize ls[k + 1] = t at *
          generalize str t.1.op = Y2 at *
          generalize t.1.at_ = z at *
          generalize oT ls[k] = oy at *
          generalize str ls[k].1.op = Y at *
          clear hv9 hop2 hfd HDR HOP HRT HWF HRD hw2
          go_upto_region 9 with fail
          rw [← opCr_eq]
          have hOp := opCr_eq
          go_region_held3 (fun w' => w'.cell? ⟨w.heap.size + 1, 0, none⟩ = some (.slice A1 n1 c1))
            (first | exact k9 | exact farC k9 (by decide) _ | (refine Ext.cell (w := w6) ?_ d1; ((repeat (first | with_reducible exact Ext.refl _ | with_reducible assumption | with_reducible refine Ext.alloc ?_ _ | with_reducible refine Ext.drew ?_ | with_reducible refine Ext.drewN ?_ _ | with_reducible refine Ext.setCell ?_ (by first | exact Nat.le_refl _ | assumption | (simp; done) | omega) _ | with_reducible refine Ext.trans ?_ (by with_reducible assumption))); done)) | (refine Ext.cell (w := W7) ?_ b1; ((repeat (first | with_reducible exact Ext.refl _ | with_reducible assumption | with_reducible refine Ext.alloc ?_ _ | with_reducible refine Ext.drew ?_ | with_reducible refine Ext.drewN ?_ _ | with_reducible refine Ext.setCell ?_ (by first | exact Nat.le_refl _ | assumption | (simp; done) | omega) _ | with_reducible refine Ext.trans ?_ (by with_reducible assumption))); done)) | fail)
            (first
              | (go_at_call_of 25 (Value.pointer (some ⟨gp, 0, none⟩)); refine (HT.out _ (HP8.out.ext (by ((repeat (first | with_reducible exact Ext.refl _ | with_reducible assumption | with_reducible refine Ext.alloc ?_ _ | with_reducible refine Ext.drew ?_ | with_reducible refine Ext.drewN ?_ _ | with_reducible refine Ext.setCell ?_ (by first | exact Nat.le_refl _ | assumption | (simp; done) | omega) _ | with_reducible refine Ext.trans ?_ (by with_reducible assumption))); done)))).mono ?_; rintro e w6 ⟨rfl, hp6, hg6⟩
                 have HP6 := hide hp6
                 have HBX6 := hide ((HBX8.out.ext (by ((repeat (first | with_reducible exact Ext.refl _ | with_reducible assumption | with_reducible refine Ext.alloc ?_ _ | with_reducible refine Ext.drew ?_ | with_reducible refine Ext.drewN ?_ _ | with_reducible refine Ext.setCell ?_ (by first | exact Nat.le_refl _ | assumption | (simp; done) | omega) _ | with_reducible refine Ext.trans ?_ (by with_reducible assumption))); done))).grown hg6 (fun j hj => by injection hj with hj; omega))
                 have d0 : w6.cell? ⟨w.heap.size + 1, 1, none⟩ = some (.slice A2 n2 c2) := HBX6.out.blk.cell 1
                 have d1 : w6.cell? ⟨w.heap.size + 1, 0, none⟩ = some (.slice A1 n1 c1) := HBX6.out.blk.cell 0
                 have m1 : w6.drew.cell? ⟨w.heap.size + 1, 1, none⟩ = some (.slice A2 n2 c2) := d0
                 have m2 : ∀ o, (w6.alloc o).cell? ⟨w.heap.size + 1, 1, none⟩ = some (.slice A2 n2 c2) := fun o => ((Ext.refl w6).alloc o).cell d0
                 have m3 : ∀ o, (w6.drew.alloc o).cell? ⟨w.heap.size + 1, 1, none⟩ = some (.slice A2 n2 c2) := fun o => ((Ext.refl w6).drew.alloc o).cell d0
                 have m4 : ∀ o, (w6.alloc o).drew.cell? ⟨w.heap.size + 1, 1, none⟩ = some (.slice A2 n2 c2) := fun o => ((Ext.refl w6).alloc o).drew.cell d0
                 have HGW6 := hide (grown_trans' (grown_trans' HGW8.out (grown_of_ext (w' := _) (by ((repeat (first | with_reducible exact Ext.refl _ | with_reducible assumption | with_reducible refine Ext.alloc ?_ _ | with_reducible refine Ext.drew ?_ | with_reducible refine Ext.drewN ?_ _ | with_reducible refine Ext.setCell ?_ (by first | exact Nat.le_refl _ | assumption | (simp; done) | omega) _ | with_reducible refine Ext.trans ?_ (by with_reducible assumption))); done)) _)) hg6)
                 have HBR6 := hide ((HBR8.out.ext (by ((repeat (first | with_reducible exact Ext.refl _ | with_reducible assumption | with_reducible refine Ext.alloc ?_ _ | with_reducible refine Ext.drew ?_ | with_reducible refine Ext.drewN ?_ _ | with_reducible refine Ext.setCell ?_ (by first | exact Nat.le_refl _ | assumption | (simp; done) | omega) _ | with_reducible refine Ext.trans ?_ (by with_reducible assumption))); done))).grown hg6 (fun e => by injection e with e; omega))
                 have hs6 : w.heap.size + 1 + 1 ≤ w6.heap.size := HBX6.out.blk.lt)
              | (refine step_append_any _ (by rfl) (.tmp 40) (.tmp 45) 50 (by rfl) (w.heap.size + 1 + 1) 54 j0 _ 4 64 Tryd.underlying50 hj0 hy0 hy1 hy2 rfl (by omega) (.slice A2 n2 c2) n2 (c.redirs.flatMap redC) (by rfl) (Ext.own (w := w6) (by ((repeat (first | with_reducible exact Ext.refl _ | with_reducible assumption | with_reducible refine Ext.alloc ?_ _ | with_reducible refine Ext.drew ?_ | with_reducible refine Ext.drewN ?_ _ | with_reducible refine Ext.setCell ?_ (by first | exact Nat.le_refl _ | assumption | (simp; done) | omega) _ | with_reducible refine Ext.trans ?_ (by with_reducible assumption))); done)) HBX6.out.reds) _ _ 1 1 [.string Y, .string Y2, .slice A9 n9 c9, .int .i64 (z : Int)] (by rfl) (by first | exact (Blk.new w6 54 #[.string Y, .string Y2, .slice A9 n9 c9, .int .i64 (z : Int)]).rowsF 1 4 rfl | exact (Blk.new w6 54 #[.string Y, .string Y2, .slice A9 n9 c9, .int .i64 (z : Int)]).drew.rowsF 1 4 rfl | exact (Blk.new w6.drew 54 #[.string Y, .string Y2, .slice A9 n9 c9, .int .i64 (z : Int)]).rowsF 1 4 rfl) (by simp [Value.oneCell']) (by simp only [maxLen]; omega) (by omega) (Nat.le_trans hs6 (Ext.size (w := w6) (by ((repeat (first | with_reducible exact Ext.refl _ | with_reducible assumption | with_reducible refine Ext.alloc ?_ _ | with_reducible refine Ext.drew ?_ | with_reducible refine Ext.drewN ?_ _ | with_reducible refine Ext.setCell ?_ (by first | exact Nat.le_refl _ | assumption | (simp; done) | omega) _ | with_reducible refine Ext.trans ?_ (by with_reducible assumption))); done)))) ?_; intro A7 c7 w7' ho7 hg7 ha7
                 have k7 : w7'.cell? ⟨w.heap.size + 1, 1, none⟩ = some (.slice A2 n2 c2) := (Blk.grown (HBX6.out.blk.ext (by ((repeat (first | with_reducible exact Ext.refl _ | with_reducible assumption | with_reducible refine Ext.alloc ?_ _ | with_reducible refine Ext.drew ?_ | with_reducible refine Ext.drewN ?_ _ | with_reducible refine Ext.setCell ?_ (by first | exact Nat.le_refl _ | assumption | (simp; done) | omega) _ | with_reducible refine Ext.trans ?_ (by with_reducible assumption))); done))) hg7 (fun e => own_blk_ne HBX6.out.reds HBX6.out.blk (by decide) e.symm)).cell 1
                 have k9 : w7'.cell? ⟨w.heap.size + 1, 0, none⟩ = some (.slice A1 n1 c1) := (Blk.grown (HBX6.out.blk.ext (by ((repeat (first | with_reducible exact Ext.refl _ | with_reducible assumption | with_reducible refine Ext.alloc ?_ _ | with_reducible refine Ext.drew ?_ | with_reducible refine Ext.drewN ?_ _ | with_reducible refine Ext.setCell ?_ (by first | exact Nat.le_refl _ | assumption | (simp; done) | omega) _ | with_reducible refine Ext.trans ?_ (by with_reducible assumption))); done))) hg7 (fun e => own_blk_ne HBX6.out.reds HBX6.out.blk (by decide) e.symm)).cell 0
                 have k8 : w7'.frozen? ⟨w.heap.size + 1, 1, none⟩ = false := (Blk.grown (HBX6.out.blk.ext (by ((repeat (first | with_reducible exact Ext.refl _ | with_reducible assumption | with_reducible refine Ext.alloc ?_ _ | with_reducible refine Ext.drew ?_ | with_reducible refine Ext.drewN ?_ _ | with_reducible refine Ext.setCell ?_ (by first | exact Nat.le_refl _ | assumption | (simp; done) | omega) _ | with_reducible refine Ext.trans ?_ (by with_reducible assumption))); done))) hg7 (fun e => own_blk_ne HBX6.out.reds HBX6.out.blk (by decide) e.symm)).frozen 1)
              | fail)
          all_goals
            have ho8 : w7'.ownsRow (w.heap.size + 1 + 1) 54 4 (.slice A7 (n2 + 1) c7) (n2 + 1) ((c.redirs ++ [(oy, t)]).flatMap redC) := by
              rw [List.flatMap_append, List.flatMap_cons, List.flatMap_nil, List.append_nil, HTC.out]
              exact ho7
            have HZ := hide ((HBX6.out.ext (by ((repeat (first | with_reducible exact Ext.refl _ | with_reducible assumption | with_reducible refine Ext.alloc ?_ _ | with_reducible refine Ext.drew ?_ | with_reducible refine Ext.drewN ?_ _ | with_reducible refine Ext.setCell ?_ (by first | exact Nat.le_refl _ | assumption | (simp; done) | omega) _ | with_reducible refine Ext.trans ?_ (by with_reducible assumption))); done))).red ho8 hg7 (by omega))
            have HPZ := hide ((((HP6.out.ext (by ((repeat (first | with_reducible exact Ext.refl _ | with_reducible assumption | with_reducible refine Ext.alloc ?_ _ | with_reducible refine Ext.drew ?_ | with_reducible refine Ext.drewN ?_ _ | with_reducible refine Ext.setCell ?_ (by first | exact Nat.le_refl _ | assumption | (simp; done) | omega) _ | with_reducible refine Ext.trans ?_ (by with_reducible assumption))); done))).grown hg7 (fun j hj => by have := (HBX6.out.reds.lt j hj).1; omega))).grown (grown_set (g := w.heap.size + 1) (p := ⟨w.heap.size + 1, 1, none⟩) (grown_of_ext (Ext.refl w7') _) (.inl rfl) (.slice A7 (n2 + 1) c7)) (fun j hj => by injection hj with hj; omega))
            have HGZ := hide (grown_set (p := ⟨w.heap.size + 1, 1, none⟩) (grown_out (grown_trans' HGW6.out (grown_of_ext (by ((repeat (first | with_reducible exact Ext.refl _ | with_reducible assumption | with_reducible refine Ext.alloc ?_ _ | with_reducible refine Ext.drew ?_ | with_reducible refine Ext.drewN ?_ _ | with_reducible refine Ext.setCell ?_ (by first | exact Nat.le_refl _ | assumption | (simp; done) | omega) _ | with_reducible refine Ext.trans ?_ (by with_reducible assumption))); done)) _)) hg7 (fun j hj => by have := (HBX6.out.reds.lt j hj).1; omega)) (.inr (by show w.heap.size ≤ w.heap.size + 1; omega)) (.slice A7 (n2 + 1) c7))
            have HRZ := hide (((HBR6.out.ext (by ((repeat (first | with_reducible exact Ext.refl _ | with_reducible assumption | with_reducible refine Ext.alloc ?_ _ | with_reducible refine Ext.drew ?_ | with_reducible refine Ext.drewN ?_ _ | with_reducible refine Ext.setCell ?_ (by first | exact Nat.le_refl _ | assumption | (simp; done) | omega) _ | with_reducible refine Ext.trans ?_ (by with_reducible assumption))); done))).grown hg7 (fun e => by have := (HBX6.out.reds.lt _ e.symm).1; omega)).far (p := ⟨w.heap.size + 1, 1, none⟩) (by show w.heap.size ≠ w.heap.size + 1; omega) (.slice A7 (n2 + 1) c7))
            have HL3 := hide (show (c.redirs ++ [(oy, t)]).length = n2 + 1 by rw [List.length_append, HL2.out]; rfl)
            clear ho7 ho8 hg7 ha7 k7 k8 k9 d0 d1 m0 m1 m2 m3 m4 c0 b1 hOp HBX6 HP6 HGW6 HBR6
            generalize w7'.setCell ⟨w.heap.size + 1, 1, none⟩ (.slice A7 (n2 + 1) c7) = W8 at *
            go_wp2_with fail
            go_roundg F
            case rel => exact ⟨F, k + 1 + 1, ⟨c.words, c.redirs ++ [(oy, t)]⟩, A1, n1, c1, A7, n2 + 1, c7, rfl, HCM2.out, by omega, HPZ.out, HZ.out, HRZ.out, HL1.out, HL3.out, by omega, HGZ.out⟩
            case measure => omega
        · have hw2f : isT oT [] (ls.drop (k + 1)) = false := by simpa using hw2
          rw [hw2f]
          have HXN := hide (show X = (none, ls.drop (k + 1)) by
            rw [← HCM.out, HDR.out]
            have h2 := HRT.out
            rw [HDR.out] at h2
            simp only [cmdP]
            rw [if_neg HOP.out, if_pos h2]
            cases hl : ls.drop (k + 1) with
            | nil => rfl
            | cons u r =>
              rw [hl] at hw2f
              simp only
              rw [if_neg (show ¬ oT u = [] by simpa [isT] using hw2f)])
          have r0 : W7.cell? ⟨w.heap.size, 0, none⟩ = some (.slice none 0 0) := HBR8.out.cell 0
          have r1 : W7.cell? ⟨w.heap.size, 1, none⟩ = some (.slice none 0 0) := HBR8.out.cell 1
          have f0 : W7.frozen? ⟨w.heap.size, 0, none⟩ = false := HBR8.out.frozen 0
          have f1 : W7.frozen? ⟨w.heap.size, 1, none⟩ = false := HBR8.out.frozen 1
          clear hw2 hw2f
          go_wp2_with fail
          have hg4 : W7.grownBy ((W7.setCell ⟨w.heap.size, 0, none⟩ (.slice none 0 0)).setCell ⟨w.heap.size, 1, none⟩ (.slice none 0 0)) (some w.heap.size) :=
            grown_set (grown_set (grown_of_ext (Ext.refl W7) _) (p := ⟨w.heap.size, 0, none⟩) (.inl rfl) _) (p := ⟨w.heap.size, 1, none⟩) (.inl rfl) _
          have HPF := hide (HP8.out.grown hg4 (fun j hj => by injection hj with hj; omega))
          have HGF := hide (grown_out HGW8.out hg4 (fun j hj => by injection hj with hj; omega))
          have hb4 := (HBR8.out.set_ 0 (.slice none 0 0)).set_ 1 (.slice none 0 0)
          generalize (W7.setCell ⟨w.heap.size, 0, none⟩ (.slice none 0 0)).setCell ⟨w.heap.size, 1, none⟩ (.slice none 0 0) = Wf at *
          have z0 : Wf.cell? ⟨w.heap.size, 0, none⟩ = some (.slice none 0 0) := hb4.cell 0
          have z1 : Wf.cell? ⟨w.heap.size, 1, none⟩ = some (.slice none 0 0) := hb4.cell 1
          (try simp only [Exit.inBlock, Exit.then])
          refine bodyPost_ret (v := .tuple #[.agg #[.slice none 0 0, .slice none 0 0], .bool false]) (by simp [results, Tryd.results42, go_sem, z0, z1]) rfl ⟨k + 1, none, 0, 0, none, 0, 0, by rw [HXN.out]; rfl, by rw [HXN.out], HPF.out, HGF.out, fun d hd => by rw [HXN.out] at hd; cases hd⟩
end Go.Proofs.YtjbgkcljjgofnaaDoor
