/- The contract of words.Split at printable text. -/
import Derived.Test.YtjbgkcljjgofnaaDoorWSpA
namespace Go.Proofs.YtjbgkcljjgofnaaDoor
open Go.RowKit
set_option linter.unusedVariables false

/-- What Split returns. -/
def SplitPost (w : World) (R : SRes) (e : Ending) (w' : World) : Prop :=
  Ext w w' ∧ match R with
  | .ok ts => ∃ A c ls, e = .returned (.tuple #[.slice A ls.length c, .int .i64 0, .int .i64 0]) ∧ ls.map (·.1) = ts ∧ ToksAt w' w.heap.size A c ls ∧ ls.length ≤ 1000000
  | .bad at_ => e = .returned (.tuple #[.slice none 0 0, .int .i64 (at_ : Int), .int .i64 22])
def SplitRel (w : World) (gr : Nat) (s : List UInt8) (R : SRes) (g : Nat) (v : Value) (wr : World) : Prop :=
  ∃ (F : Nat) (r : List UInt8) (ls : List (TokD × Value)) (A : Option Addr) (c : Nat) (vp : Value), r.length < F ∧ g = r.length ∧ splitP F s.length r (ls.map (·.1)) = R ∧ v = .slice A ls.length c ∧ ToksAt wr w.heap.size A c ls
    ∧ Blk wr gr 71 #[.string (str s), .int .i64 ((s.length - r.length : Nat) : Int), vp, .int .i64 (-1)] ∧ Ext w wr ∧ r <:+ s ∧ ls.length + r.length ≤ s.length
theorem splitP_step (F n : Nat) (r : List UInt8) (ts : List TokD) (hF : r.length < F) : ∃ F', r.length ≤ F' ∧ splitP F n r ts = match splitS n r ts with | .fin => .ok ts | .bad j => .bad (n - j) | .more ts r => splitP F' n r ts := by
  cases F with
  | zero => omega
  | succ F => exact ⟨F, by omega, rfl⟩
section
variable {n : Nat} {x : UInt8} {r : List UInt8} {ts : List TokD}
theorem splitS_blank (h : x.toNat = 32) : splitS n (x :: r) ts = .more ts r := by
  simp only [splitS]
  rw [if_pos h]
theorem splitS_hash (h : x.toNat = 35) : splitS n (x :: r) ts = .fin := by
  simp only [splitS]
  rw [if_neg (by omega), if_pos h]
theorem splitS_op (h1 : x.toNat ≠ 32) (h2 : x.toNat ≠ 35) (h : opL (x :: r) ≠ []) : splitS n (x :: r) ts = .more (ts ++ [⟨opL (x :: r), [], n - (x :: r).length⟩]) ((x :: r).drop (opL (x :: r)).length) := by
  simp only [splitS]
  rw [if_neg h1, if_neg h2, if_pos h]
def splitW (n : Nat) (r : List UInt8) (ts : List TokD) : WRes → SStep
  | .bad k => .bad k
  | .ok ps r' => .more (ts ++ [⟨[], ps, n - r.length⟩]) r'
theorem splitS_word (h1 : x.toNat ≠ 32) (h2 : x.toNat ≠ 35) (h : opL (x :: r) = []) : splitS n (x :: r) ts = splitW n (x :: r) ts (wordP ((x :: r).length + 1) (x :: r) []) := by
  simp only [splitS]
  rw [if_neg h1, if_neg h2, if_neg (fun e => e h)]
  cases wordP ((x :: r).length + 1) (x :: r) [] <;> rfl
end
theorem opL_mem (l : List UInt8) (h : opL l ≠ []) : (opL l).length ≤ l.length ∧ (opL l).length ≤ 2 := by
  have key : ∀ os : List (List UInt8), (∀ o ∈ os, o.length ≤ 2) → (opF os l).length ≤ l.length ∧ (opF os l).length ≤ 2 := by
    intro os
    induction os with
    | nil => intro _; simp [opF]
    | cons o os ih =>
      intro ho
      simp only [opF]
      split
      · rename_i hp
        exact ⟨(List.isPrefixOf_iff_prefix.1 hp).length_le, ho o (by simp)⟩
      · exact ih (fun o' h' => ho o' (by simp [h']))
  exact key opsL (by decide)
set_option maxHeartbeats 8000000 in
set_option maxRecDepth 100000 in
theorem split_any (s : List UInt8) (hs : s.length ≤ 200) (hp : Printable s) (w : World) :
    Calls Tryd.prog 9 #[.string (str s)] w fun e w' => SplitPost w (splitD s) e w' := by
  obtain ⟨i0, hi0, hz0, hz1, hz2⟩ := info_parts tok_info
  obtain ⟨R, hR⟩ : ∃ R, splitD s = R := ⟨_, rfl⟩
  rw [hR]
  have HR := hide hR
  have HIX := hide (indexFunc_none s hp w)
  have hss : (str s).size = s.length := str_size s
  clear hR hp
  go_enter Tryd.func9, Tryd.ntmps9
  go_wp2_with fail
  refine HIX.out.mono ?_
  rintro e w1 ⟨rfl, hx1⟩
  have HX1 := hide hx1
  clear hx1 HIX
  go_upto_region 7 with fail
  have HBX := hide (Blk.new w1 71 #[.string (str s), .int .i64 0, .slice none 0 0, .int .i64 (-1)])
  have HX2 := hide (HX1.out.alloc (.cells #[.string (str s), .int .i64 0, .slice none 0 0, .int .i64 (-1)] 71))
  generalize w1.alloc (.cells #[.string (str s), .int .i64 0, .slice none 0 0, .int .i64 (-1)] 71) = W at *
  have hgw := HX1.out.size
  obtain ⟨gr, hgr⟩ : ∃ x, w1.heap.size = x := ⟨_, rfl⟩
  rw [hgr] at HBX hgw ⊢
  clear hgr HX1
  go_wp2_with fail
  go_loopg [7] s.length (SplitRel w gr s R)
  case atStart => exact ⟨s.length + 1, s, [], none, 0, _, Nat.lt_succ_self _, rfl, HR.out, rfl, ToksAt.nil _ _, by rw [Nat.sub_self]; exact HBX.out, HX2.out, List.suffix_refl _, by simp⟩
  case round =>
    obtain ⟨F, r, ls, A, c, vp, hF, rfl, hres, rfl, htk, hbx, hx, hsf, hln⟩ := hrel
    obtain ⟨F', hF', hstep⟩ := splitP_step F s.length r (ls.map (·.1)) hF
    rw [hres] at hstep
    obtain ⟨p1, hp1, hpl1, hpd1⟩ := suf_pos hsf
    rw [hp1] at hbx
    have c0 : wr.cell? ⟨gr, 0, none⟩ = some (.string (str s)) := hbx.cell 0
    have c1 : wr.cell? ⟨gr, 1, none⟩ = some (.int .i64 (p1 : Int)) := hbx.cell 1
    have HBX := hide hbx
    have HTK := hide htk
    have HX := hide hx
    have HP1 := hide hp1
    have HPD := hide hpd1
    have HSF := hide hsf
    clear hres hbx htk hx hp1 hpd1 hsf
    cases r with
    | nil =>
      have hst : R = .ok (ls.map (·.1)) := hstep
      have HRN := hide hst
      have hlt : decide (p1 < s.length) = false := by simp at hpl1 ⊢; omega
      clear hst hstep
      go_wp2_with fail
      go_ret3
      exact ⟨HX.out, by rw [HRN.out]; exact ⟨_, _, _, rfl, rfl, HTK.out, by omega⟩⟩
    | cons x r' =>
      have hlt : decide (p1 < s.length) = true := by simp at hpl1 ⊢; omega
      have hget : s[p1]? = some x := by rw [← List.head?_drop, HPD.out]; rfl
      have ix := str_index (P := Tryd.prog) Tryd.underlying9 hget
      have hpl2 : p1 + r'.length + 1 = s.length := by simp at hpl1; omega
      have HST := hide hstep
      have hfr : ∀ W, (Instr.slice 9 (.string (str s)) (some (.int .i64 (p1 : Int))) none none).run Tryd.prog W = .ok (.string (str (x :: r'))) W := fun W => by
        have := str_from (P := Tryd.prog) (T := 9) Tryd.underlying9 s (k := p1) (by omega) W
        rw [HPD.out] at this
        exact this
      have HOP := hide (op_any (x :: r') wr)
      have f1 : wr.frozen? ⟨gr, 1, none⟩ = false := HBX.out.frozen 1
      clear hget hstep hpl1
      go_wp2_with fail
      refine HOP.out.mono ?_
      rintro e w' ⟨rfl, rfl⟩
      clear HOP hfr
      by_cases x32 : x.toNat = 32
      · rw [splitS_blank x32] at HST
        have t32 : ((x.toNat : Int) == 32) = true := by simp; omega
        have HBN := hide (HBX.out.set_ 1 (.int .i64 ((p1 : Int) + 1)))
        have HTN := hide (HTK.out.kept (grown_set (World.grownBy.refl wr (some gr)) (p := ⟨gr, 1, none⟩) (.inl rfl) (.int .i64 ((p1 : Int) + 1))) HBX.out (by decide) (by decide))
        have HXN := hide (HX.out.setCell (p := ⟨gr, 1, none⟩) hgw (.int .i64 ((p1 : Int) + 1)))
        have HPM := hide (show (p1 : Int) + 1 = ((s.length - r'.length : Nat) : Int) by omega)
        clear x32
        go_wp2_with fail
        go_roundg r'.length
        case rel => exact ⟨F', r', ls, A, c, vp, by simp at hF'; omega, rfl, HST.out.symm, rfl, HTN.out, by rw [← HPM.out]; exact HBN.out, HXN.out, (List.suffix_cons x r').trans HSF.out, by simp at hln; omega⟩
        case measure => simp
      by_cases x35 : x.toNat = 35
      · rw [splitS_hash x35] at HST
        have t32 : ((x.toNat : Int) == 32) = false := by simp; omega
        have t35 : ((x.toNat : Int) == 35) = true := by simp; omega
        clear x32 x35
        go_wp2_with fail
        go_ret3
        exact ⟨HX.out, by rw [HST.out]; exact ⟨_, _, _, rfl, rfl, HTK.out, by omega⟩⟩
      have t32 : ((x.toNat : Int) == 32) = false := by simp; omega
      have t35 : ((x.toNat : Int) == 35) = false := by simp; omega
      by_cases ho : opL (x :: r') = []
      · rw [splitS_word x32 x35 ho] at HST
        have HOE := hide ho
        have hx32 := x32
        have HX32 := hide hx32
        have te : (str (opL (x :: r'))).toList.isEmpty = true := by rw [Lib.toList_data, str_toList, ho]; rfl
        have c2 : wr.cell? ⟨gr, 2, none⟩ = some vp := HBX.out.cell 2
        have f2 : wr.frozen? ⟨gr, 2, none⟩ = false := HBX.out.frozen 2
        have HBN := hide (HBX.out.set_ 2 (.slice none 0 0))
        have HTN := hide (HTK.out.kept (grown_set (World.grownBy.refl wr (some gr)) (p := ⟨gr, 2, none⟩) (.inl rfl) (.slice none 0 0)) HBX.out (by decide) (by decide))
        have HXN := hide (HX.out.setCell (p := ⟨gr, 2, none⟩) hgw (.slice none 0 0))
        clear x32 x35 ho hx32
        go_upto_region 12 with fail
        generalize wr.setCell ⟨gr, 2, none⟩ (.slice none 0 0) = W1 at *
        clear c0 c1 c2 f1 f2 HTK HBX HX ix
        have HRD := hide (show RdAt W1 gr s (x :: r') [] (-1) W1 from ⟨⟨none, 0, by rw [HP1.out]; exact HBN.out, World.ownsRow_nil _ _ _ _⟩, HSF.out, HBN.out.lt, World.grownBy.refl _ _⟩)
        have HWA := hide (word_any W1 gr s (x :: r') [] W1 HRD.out (by omega) ⟨by have := HSF.out.length_le; simpa using this, fun p hp => by cases hp⟩)
        clear HRD
        go_wp2_with fail
        refine HWA.out.mono ?_
        rintro e w2 ⟨rfl, hw2⟩
        clear HWA
        cases hwp : wordP ((x :: r').length + 1) (x :: r') [] with
        | bad k =>
          rw [hwp] at hw2 HST
          obtain ⟨r9, ps9, h9⟩ := hw2
          have HXE := hide (HXN.out.grown h9.grown (fun k hk => by injection hk with hk; omega))
          obtain ⟨A9, c9, hb9, ho9⟩ := h9.box
          obtain ⟨m, hm⟩ : ∃ m, s.length - k = m := ⟨_, rfl⟩
          rw [hm] at hb9
          have HMM := hide hm
          have e3 : w2.cell? ⟨gr, 3, none⟩ = some (.int .i64 (m : Int)) := hb9.cell 3
          have hneg : decide ((0 : Int) ≤ (m : Int)) = true := by simp
          clear h9 hb9 ho9 hm hwp
          go_upto_region 14 with fail
          go_quiet (fail)
          have HXQ := hide (HXE.out.drewN nq)
          generalize w2.drewN nq = W9 at *
          clear e3 hneg
          go_wp2_with fail
          go_ret3
          exact ⟨HXQ.out, by rw [HST.out]; show _ = Ending.returned (.tuple #[.slice none 0 0, .int .i64 ((s.length - k : Nat) : Int), .int .i64 22]); rw [HMM.out]; rfl⟩
        | ok ps9 r9 =>
          rw [hwp] at hw2 HST
          have h9 : RdAt W1 gr s r9 ps9 (-1) w2 := hw2
          have hl9 := wordP_lt hwp HX32.out HOE.out
          have HXE := hide (HXN.out.grown h9.grown (fun k hk => by injection hk with hk; omega))
          obtain ⟨A9, c9, hb9, ho9⟩ := h9.box
          have HTE := hide (HTN.out.kept h9.grown HBN.out (by decide) (by decide))
          have HB9 := hide hb9
          have HSF9 := hide h9.suf
          have HPA := hide (show PartsAt w2 w.heap.size (⟨[], ps9, p1⟩, .slice A9 ps9.length c9) from ⟨A9, c9, rfl, own_mono ho9 HXN.out.size⟩)
          have e3 : w2.cell? ⟨gr, 3, none⟩ = some (.int .i64 (-1)) := hb9.cell 3
          have e2 : w2.cell? ⟨gr, 2, none⟩ = some (.slice A9 ps9.length c9) := hb9.cell 2
          have hsz := HXE.out.size
          have HRS := hide ((Blk.new w2 47 #[.string ⟨#[]⟩, .slice A9 ps9.length c9, .int .i64 (p1 : Int)]).rowsF 1 3 rfl)
          have HB2 := hide (hb9.alloc (.cells #[.string ⟨#[]⟩, .slice A9 ps9.length c9, .int .i64 (p1 : Int)] 47))
          have HXA := hide ((Ext.refl w2).alloc (.cells #[.string ⟨#[]⟩, .slice A9 ps9.length c9, .int .i64 (p1 : Int)] 47))
          have hbm : ls.length + 1 ≤ maxLen := by simp [maxLen]; omega
          have hbs : w.heap.size ≤ (w2.alloc (.cells #[.string ⟨#[]⟩, .slice A9 ps9.length c9, .int .i64 (p1 : Int)] 47)).heap.size := by simp; omega
          have HOW := hide (HXA.out.own HTE.out.own)
          have HNB := hide (show some gr ≠ Value.ownBlock (.slice A ls.length c) from Ne.symm (own_blk_ne HOW.out HB2.out (by decide)))
          clear h9 hb9 ho9 hwp hw2
          go_wp2_with (at_builtin; refine wpList_append_any _ rfl (.tmp 53) (.tmp 60) _ rfl w.heap.size 47 i0 _ 3 48 Tryd.underlying36 hi0 hz0 hz1 hz2 rfl (by omega) _ ls.length (ls.flatMap tokC) rfl HOW.out _ _ 1 1 [.string ⟨#[]⟩, .slice A9 ps9.length c9, .int .i64 (p1 : Int)] rfl HRS.out (by simp [Value.oneCell']) hbm (by omega) hbs ?_; intro A3 c3 w3 ho3 hg3 ha3)
          have HTZ := hide (HTE.out.more (x := (⟨[], ps9, p1⟩, .slice A9 ps9.length c9)) HXA.out HPA.out ho3 hg3)
          have HBZ := hide (HB2.out.grown hg3 HNB.out)
          have HXZ := hide ((HXE.out.trans HXA.out).grown hg3 (fun k hk => (HOW.out.lt k hk).1))
          clear ho3 hg3 ha3 HTE HB2 HXE HXA HOW HNB HRS HPA e2 e3
          go_roundg r9.length
          case rel => exact ⟨F', r9, ls ++ [(⟨[], ps9, p1⟩, .slice A9 ps9.length c9)], A3, c3, _, by simp at hF' hl9; omega, rfl, by rw [HST.out, List.map_append]; show _ = splitP F' s.length r9 (ls.map (·.1) ++ [⟨[], ps9, s.length - (x :: r').length⟩]); rw [HP1.out]; rfl, by simp, HTZ.out, HBZ.out, HXZ.out, HSF9.out, by simp at hln hl9 ⊢; omega⟩
          case measure => exact hl9
      · rw [splitS_op x32 x35 ho] at HST
        have hol := opL_mem _ ho
        have hop : 0 < (opL (x :: r')).length := List.length_pos_iff.2 ho
        have te : (str (opL (x :: r'))).toList.isEmpty = false := by rw [Lib.toList_data, str_toList]; cases h : opL (x :: r') with | nil => exact absurd h ho | cons => rfl
        obtain ⟨o, hoo⟩ : ∃ o, opL (x :: r') = o := ⟨_, rfl⟩
        rw [hoo] at HST hol hop te ⊢
        have hso : (str o).size = o.length := str_size o
        have HDS := hide (show (x :: r').drop o.length <:+ s from (List.drop_suffix _ _).trans HSF.out)
        have HPM := hide (show (p1 : Int) + (o.length : Int) = ((s.length - ((x :: r').drop o.length).length : Nat) : Int) by simp at hol ⊢; omega)
        have HRS := hide ((Blk.new wr 47 #[.string (str o), .slice none 0 0, .int .i64 (p1 : Int)]).rowsF 1 3 rfl)
        have HB2 := hide (HBX.out.alloc (.cells #[.string (str o), .slice none 0 0, .int .i64 (p1 : Int)] 47))
        have HXA := hide ((Ext.refl wr).alloc (.cells #[.string (str o), .slice none 0 0, .int .i64 (p1 : Int)] 47))
        have hsz := HX.out.size
        have hbm : ls.length + 1 ≤ maxLen := by simp [maxLen]; omega
        have hbs : w.heap.size ≤ (wr.alloc (.cells #[.string (str o), .slice none 0 0, .int .i64 (p1 : Int)] 47)).heap.size := by simp; omega
        have HOW := hide (HXA.out.own HTK.out.own)
        have HNB := hide (show some gr ≠ Value.ownBlock (.slice A ls.length c) from Ne.symm (own_blk_ne HOW.out HB2.out (by decide)))
        clear x32 x35 ho hoo
        go_wp2_with (at_builtin; refine wpList_append_any _ rfl (.tmp 89) (.tmp 96) _ rfl w.heap.size 47 i0 _ 3 48 Tryd.underlying36 hi0 hz0 hz1 hz2 rfl (by omega) _ ls.length (ls.flatMap tokC) rfl HOW.out _ _ 1 1 [.string (str o), .slice none 0 0, .int .i64 (p1 : Int)] rfl HRS.out (by simp [Value.oneCell']) hbm (by omega) hbs ?_; intro A3 c3 w3 ho3 hg3 ha3; have hf3 : w3.frozen? ⟨gr, 1, none⟩ = false := (HB2.out.grown hg3 HNB.out).frozen 1; have hk3 : w3.cell? ⟨gr, 1, none⟩ = some (.int .i64 (p1 : Int)) := (HB2.out.grown hg3 HNB.out).cell 1)
        have HTZ := hide (HTK.out.more (x := (⟨o, [], p1⟩, .slice none 0 0)) HXA.out ⟨none, 0, rfl, World.ownsRow_nil _ _ _ _⟩ ho3 hg3)
        have HBZ := hide (HB2.out.grown hg3 HNB.out)
        have HXZ := hide ((HX.out.trans HXA.out).grown hg3 (fun k hk => (HOW.out.lt k hk).1))
        have HTY := hide (HTZ.out.kept (grown_set (World.grownBy.refl w3 (some gr)) (p := ⟨gr, 1, none⟩) (.inl rfl) (.int .i64 ((p1 : Int) + (o.length : Int)))) HBZ.out (by decide) (by decide))
        have HBY := hide (HBZ.out.set_ 1 (.int .i64 ((p1 : Int) + (o.length : Int))))
        have HXY := hide (HXZ.out.setCell (p := ⟨gr, 1, none⟩) hgw (.int .i64 ((p1 : Int) + (o.length : Int))))
        clear ho3 hg3 ha3 HTK HB2 HX HXA HOW HNB HRS HBX
        go_roundg ((x :: r').drop o.length).length
        case rel => exact ⟨F', (x :: r').drop o.length, ls ++ [(⟨o, [], p1⟩, .slice none 0 0)], A3, c3, _, by simp at hF' ⊢; omega, rfl, by rw [HST.out, List.map_append]; show _ = splitP F' s.length _ (ls.map (·.1) ++ [⟨o, [], s.length - (x :: r').length⟩]); rw [HP1.out]; rfl, by simp, HTY.out, by rw [← HPM.out]; exact HBY.out, HXY.out, HDS.out, by simp at hln ⊢; omega⟩
        case measure => simp; omega
end Go.Proofs.YtjbgkcljjgofnaaDoor
