/- The walk of WordsBack. -/
import Derived.Test.YtapjfiifpfoppaaDoorWEq
import Derived.Test.YtapjfiifpfoppaaDoorWBackP
namespace Go.Proofs.YtapjfiifpfoppaaDoor
open Go.RowKit
set_option linter.unusedVariables false

theorem tokAt {ls : List (TokD × Value)} {ts : List TokD} (h : ls.map (·.1) = ts) {k : Nat} (hk : k < ls.length) : ts[k]? = some ls[k].1 := by
  rw [← h, List.getElem?_map, List.getElem?_eq_getElem hk]
  rfl
def strV (l : List (List UInt8)) : List Value := l.map fun x => .string (str x)
theorem strV_append (a b : List (List UInt8)) : strV (a ++ b) = strV a ++ strV b := by simp [strV]
def BackRel (w : World) (xs : List (List UInt8)) (v9 v50 : Value) (wr : World) : Prop := ∃ k : Nat, k ≤ xs.length ∧ v50 = .int .i64 k ∧ ∃ A c, v9 = .slice A k c ∧ wr.ownsRow w.heap.size 9 1 (.slice A k c) k (strV (xs.take k)) ∧ Ext w wr
theorem join_any (A : Option Addr) (c B : Nat) (xs : List (List UInt8)) (w : World) (h : w.ownsRow B 9 1 (.slice A xs.length c) xs.length (strV xs)) (hn : xs.length ≤ 1000) (hl : (joinS xs).length ≤ 140737488355328) :
    Calls Tryd.prog 15 #[.slice A xs.length c, .string ⟨#[32]⟩] w fun e w' => e = .returned (.string (str (joinS xs))) ∧ Ext w w' := by
  cases xs with
  | nil => exact (Tryd.strings_Join_none A c ⟨#[32]⟩ w).mono fun e w' ⟨h1, h2⟩ => ⟨h1, h2 ▸ Ext.refl _⟩
  | cons x l =>
    obtain ⟨g, rfl, hg1, hg2, hg3, hg4⟩ := own_addr h (by simp)
    have hrd := Reads.of_own h
    have hm : ((x :: l).map str).map (fun b => b.data.toList) = x :: l := by
      rw [List.map_map]
      conv => rhs; rw [← List.map_id (x :: l)]
      exact List.map_congr_left (fun y _ => str_toList y)
    have hj := Tryd.strings_Join g 0 c ((x :: l).map str) (str [32]) w (fun j y hy => by
      obtain ⟨ad, e, -, hc⟩ := hrd.2 (by simp)
      injection e with e
      subst e
      have := hc j (.string y) (by rw [strV, List.getElem?_map]; rw [List.getElem?_map] at hy; cases hq : (x :: l)[j]? with | none => rw [hq] at hy; cases hy | some z => rw [hq] at hy; simp at hy; rw [← hy]; rfl)
      rwa [add_lit] at this) hg2 (by simp at hn ⊢; omega) (by simpa using hg3) (by rw [hm, str_toList, join_lib]; exact hl)
    rw [hm, str_toList, join_lib, List.length_map] at hj
    exact hj
set_option maxHeartbeats 8000000 in
set_option maxRecDepth 100000 in
theorem back_walk (l : List UInt8) (hl : l.length ≤ 9223372036854775807) (w : World) (hm : MaxAt w) :
    Calls Tryd.prog 4 #[.string (str l)] w fun e w' => e = .returned (.bool true) ∧ Ext w w' := by
  obtain ⟨i0, hi0, hz0, hz1, hz2⟩ := info_parts string_info
  have HPR := hide (printable_any l hl 60 (by omega) w)
  obtain ⟨s, hs⟩ : ∃ s, prnL (l.take 60) = s := ⟨_, rfl⟩
  have hsl : s.length ≤ 60 := by rw [← hs]; simp [prnL]; omega
  have hsp : Printable s := by rw [← hs]; exact prnL_ok _
  rw [hs] at HPR
  have HSP := hide (fun w => split_any s (by omega) hsp w)
  have HPS := hide hsp
  have HTWO := hide (fun w => split_any [97, 39, 98, 32, 99, 39, 36, 100, 124, 101] (by decide) (by show ∀ c ∈ [97, 39, 98, 32, 99, 39, 36, 100, 124, 101], 32 ≤ UInt8.toNat c ∧ UInt8.toNat c ≤ 126; decide) w)
  have HM := hide hm
  clear hsp hs hm
  go_enter Tryd.func4, Tryd.ntmps4
  go_wp2_with fail
  refine HPR.out.mono ?_
  rintro e w0 ⟨rfl, hx0⟩
  have HX0 := hide hx0
  clear hx0 HPR
  go_wp2_with fail
  refine (HSP.out w0).mono ?_
  rintro e w1 ⟨hx1, hpost⟩
  have HX1 := hide (HX0.out.trans hx1)
  have hB01 := hx1.size
  have twoF : ∀ (w2 : World) (A9 : Option Addr) (c9 : Nat) (ls9 : List (TokD × Value)), ls9.map (·.1) = [⟨[], [⟨[97], false, false⟩, ⟨[98, 32, 99], false, true⟩, ⟨[100], true, false⟩], 0⟩, ⟨[124], [], 8⟩, ⟨[], [⟨[101], false, false⟩], 9⟩] → ToksAt w2 w1.heap.size A9 c9 ls9 → ls9.length = 3 ∧ ∃ b off Ap cp, A9 = some ⟨b, off, none⟩ ∧ w2.cell? ⟨b, off + 1, none⟩ = some (.slice Ap 3 cp) := by
    intro w2 A9 c9 ls9 hts9 htk9
    have hl9 : ls9.length = 3 := by have := congrArg List.length hts9; simpa using this
    refine ⟨hl9, ?_⟩
    have hrd := Reads.of_own htk9.own
    obtain ⟨b, off, rfl, -⟩ := hrd.addr (by omega) (by omega)
    obtain ⟨Ap, cp, ep, -⟩ := htk9.parts _ (List.getElem_mem (show 0 < ls9.length by omega))
    have h3 : (ls9[0]'(by omega)).1.parts.length = 3 := by
      have := congrArg (fun l => l[0]?) hts9
      simp only [List.getElem?_map, List.getElem?_eq_getElem (show 0 < ls9.length by omega)] at this
      simpa using congrArg (Option.map (fun t => t.parts.length)) this
    rw [h3] at ep
    have := Reads.elem tokC_len hrd 0 (by omega) (by omega) 1 (by omega) (u := (ls9[0]'(by omega)).2) rfl
    rw [ep] at this
    exact ⟨b, off, Ap, cp, rfl, by simpa using this⟩
  have HTF := hide twoF
  clear twoF
  cases hR : splitD s with
  | bad a =>
    rw [hR] at hpost
    have he : e = .returned (.tuple #[.slice none 0 0, .int .i64 (a : Int), .int .i64 22]) := hpost
    subst he
    clear hpost hR HSP hx1
    go_wp2_with fail
    refine (HTWO.out w1).mono ?_
    rintro e w2 ⟨hx2, hpost⟩
    rw [split_two] at hpost
    obtain ⟨A9, c9, ls9, rfl, hts9, htk9, -⟩ := hpost
    obtain ⟨h3, b, off, Ap, cp, rfl, hc⟩ := HTF.out w2 A9 c9 ls9 hts9 htk9
    rw [h3]
    have HX2 := hide (HX1.out.trans hx2)
    clear hx2 hts9 htk9 h3 HTWO HTF
    go_wp2_with fail
    go_ret
    exact ⟨rfl, HX2.out⟩
  | ok ts =>
    rw [hR] at hpost
    obtain ⟨A, c, ls, rfl, hts, htk, h6⟩ := hpost
    have htok := splitD_toks HPS.out hR
    have hsm := splitD_small hR
    have HCT := hide (splitD_count hR)
    have HTOK := hide htok
    have HSM := hide hsm
    have HTS := hide hts
    have HTK := hide htk
    clear hts htk hR HSP hx1 htok hsm
    go_wp2_with fail
    refine (HTWO.out w1).mono ?_
    rintro e w2 ⟨hx2, hpost⟩
    rw [split_two] at hpost
    obtain ⟨A9, c9, ls9, rfl, hts9, htk9, -⟩ := hpost
    obtain ⟨h3, b, off, Ap, cp, rfl, hc⟩ := HTF.out w2 A9 c9 ls9 hts9 htk9
    rw [h3]
    have HX2 := hide (HX1.out.trans hx2)
    have HTK2 := hide (HTK.out.ext hx2)
    have hB12 := hx2.size
    clear hx2 hts9 htk9 h3 HTWO HTF
    obtain ⟨xs, hxs⟩ : ∃ xs, ts.map printTok = xs := ⟨_, rfl⟩
    have hxl : xs.length = ls.length := by rw [← hxs, ← HTS.out]; simp
    have HXS := hide hxs
    have HXL := hide hxl
    have hl60 : ls.length ≤ 60 := by have := HCT.out; rw [← HTS.out] at this; simp at this; omega
    clear hxs hxl
    go_wp2_with fail
    go_loopw [9, 50] (BackRel w2 xs) (fun _ i _ => ls.length - (intOf i).toNat)
    case atStart => exact ⟨0, Nat.zero_le _, rfl, none, 0, rfl, World.ownsRow_nil _ _ _ _, Ext.refl _⟩
    case round =>
      obtain ⟨k, hk, rfl, A3, c3, rfl, ho, hx⟩ := hrel
      rw [HXL.out] at hk
      have HO := hide ho
      have HX := hide hx
      clear ho hx
      by_cases hlt : k < ls.length
      · have hkt : k < ts.length := by rw [← HXL.out, ← HXS.out, List.length_map] at hlt; exact hlt
        have htk : ts[k]? = some ls[k].1 := tokAt HTS.out hlt
        have hte : ts[k] = ls[k].1 := by rw [List.getElem?_eq_getElem hkt] at htk; exact Option.some.inj htk
        have hsm := HSM.out _ (List.getElem_mem hkt)
        rw [hte] at hsm
        have hxk : xs[k]? = some (printTok ls[k].1) := by rw [← HXS.out, List.getElem?_map, htk]; rfl
        have HTN := hide (show strV (xs.take (k + 1)) = strV (xs.take k) ++ [.string (str (printTok ls[k].1))] from by
          obtain ⟨hk2, e⟩ := List.getElem?_eq_some_iff.1 hxk
          rw [List.take_succ_eq_append_getElem hk2, strV_append, e]
          rfl)
        have hrd := HX.out.reads (Reads.of_own HTK2.out.own) (Nat.le_refl _)
        obtain ⟨b2, off2, rfl, -⟩ := hrd.addr (by omega) (by omega)
        obtain ⟨Aq, cq, eq, oq⟩ := HTK2.out.parts _ (List.getElem_mem hlt)
        have q0 := Reads.elem tokC_len hrd k hlt (by omega) 0 (by omega) (u := .string (str ls[k].1.op)) rfl
        have q1 := Reads.elem tokC_len hrd k hlt (by omega) 1 (by omega) (u := ls[k].2) rfl
        have q2 := Reads.elem tokC_len hrd k hlt (by omega) 2 (by omega) (u := .int .i64 (ls[k].1.at_ : Int)) rfl
        rw [Nat.add_zero] at q0
        rw [eq] at q1
        have HPR := hide (fun (W : World) (hx : Ext w2 W) => print_any ls[k].1 Aq cq w2.heap.size W (hx.reads (Reads.of_own oq) (Nat.le_refl _)) hx.size (by have := hsm.1; omega) (fun p hp => by have := hsm.2 p hp; omega) (HM.out.ext (HX2.out.trans hx)) (ls[k].1.at_ : Int))
        have HXA := hide (HX.out.alloc (.cells #[.string (str ls[k].1.op), .slice Aq ls[k].1.parts.length cq, .int .i64 (ls[k].1.at_ : Int)] 36))
        have HXB := hide ((Ext.refl wr).alloc (.cells #[.string (str ls[k].1.op), .slice Aq ls[k].1.parts.length cq, .int .i64 (ls[k].1.at_ : Int)] 36))
        generalize ls[k].1 = tk at *
        obtain ⟨op, ps, ta⟩ := tk
        dsimp only at *
        generalize str op = X at *
        generalize printTok ⟨op, ps, ta⟩ = pt at *
        clear hkt htk hte hsm hxk hrd eq oq
        go_wp2_with fail
        refine (HPR.out _ HXA.out).mono ?_
        rintro e w3 ⟨rfl, hx3⟩
        have HX3 := hide (HXB.out.trans hx3)
        clear hx3 HPR HXA HXB q0 q1 q2
        have HRS := hide ((Blk.new w3 9 #[.string (str pt)]).reads)
        have HXN := hide (HX3.out.alloc (.cells #[.string (str pt)] 9))
        have HOW := hide (HXN.out.own HO.out)
        have hsz := HX.out.size
        have hsz3 := HX3.out.size
        have hbs : w2.heap.size ≤ (w3.alloc (.cells #[.string (str pt)] 9)).heap.size := by simp; omega
        have hbm : k + 1 ≤ maxLen := by simp [maxLen]; omega
        go_wp2_with (at_builtin; refine wpList_append_any _ rfl (.tmp 54) (.tmp 57) _ rfl w2.heap.size 9 i0 _ 1 16 Tryd.underlying31 hi0 hz0 hz1 hz2 rfl (by omega) _ k (strV (xs.take k)) rfl HOW.out _ _ 1 1 [.string (str pt)] rfl HRS.out (by simp [Value.oneCell']) hbm (by omega) hbs ?_; intro A4 c4 w4 ho4 hg4 ha4)
        have HO4 := hide (show w4.ownsRow w2.heap.size 9 1 (.slice A4 (k + 1) c4) (k + 1) (strV (xs.take (k + 1))) from by rw [HTN.out]; exact ho4)
        have HX4 := hide ((HX.out.trans HXN.out).grown hg4 (fun g hg => (HOW.out.lt g hg).1))
        clear ho4 hg4 ha4 HOW HXN HX3 HRS
        go_roundw
        case rel => exact ⟨k + 1, by rw [HXL.out]; omega, by go_num, A4, c4, rfl, HO4.out, HX4.out⟩
        case measure => simp [intOf]; omega
      · obtain rfl : k = ls.length := by omega
        rw [← HXL.out, List.take_length] at HO
        have hjl : (joinS xs).length ≤ 60 * 1000000 := by
          refine Nat.le_trans (join_len 999999 xs ?_) ?_
          · intro x hx
            rw [← HXS.out] at hx
            obtain ⟨t, ht, rfl⟩ := List.mem_map.1 hx
            have hs := HSM.out t ht
            unfold printTok
            rcases HTOK.out t ht with ⟨h1, -⟩ | ⟨h1, -⟩
            · split
              · have key : ∀ o ∈ opsL, o.length ≤ 2 := by decide
                have := key _ h1
                omega
              · rename_i h0
                refine Nat.le_trans (print_len _ 60 (fun p hp => by have := hs.2 p hp; omega)) ?_
                have := hs.1
                calc t.parts.length * (4 * 60 + 3) ≤ 60 * (4 * 60 + 3) := Nat.mul_le_mul_right _ (by omega)
                  _ ≤ 999999 := by decide
            · rw [if_neg (fun k => k h1)]
              refine Nat.le_trans (print_len _ 60 (fun p hp => by have := hs.2 p hp; omega)) ?_
              have := hs.1
              calc t.parts.length * (4 * 60 + 3) ≤ 60 * (4 * 60 + 3) := Nat.mul_le_mul_right _ (by omega)
                _ ≤ 999999 := by decide
          · rw [HXL.out]
            calc ls.length * (999999 + 1) ≤ 60 * (999999 + 1) := Nat.mul_le_mul_right _ hl60
              _ ≤ 60 * 1000000 := by decide
        have hpt := prn_line ts HTOK.out
        obtain ⟨ms, hms, hsame⟩ := read_back_line ts HTOK.out
        rw [HXS.out] at hpt hms
        have HJ := hide (join_any A3 c3 w2.heap.size xs wr HO.out (by rw [HXL.out]; omega) (by omega))
        rw [HXL.out] at HJ
        have HSP := hide (fun (h : (joinS xs).length ≤ 200) w => split_any (joinS xs) h hpt w)
        rw [hms] at HSP
        have HSAME := hide hsame
        have htl : (str (joinS xs)).size = (joinS xs).length := str_size _
        have HXW := hide (HX2.out.trans HX.out)
        clear hpt hms hsame hjl HO
        go_wp2_with fail
        refine HJ.out.mono ?_
        rintro e w3 ⟨rfl, hx3⟩
        have HX3 := hide (HXW.out.trans hx3)
        have HX23 := hide (HX.out.trans hx3)
        clear hx3 HJ
        by_cases h200 : 200 < (joinS xs).length
        · go_wp2_with fail
          go_ret
          exact ⟨rfl, HX3.out⟩
        · go_wp2_with fail
          refine (HSP.out (by omega) w3).mono ?_
          rintro e w4 ⟨hx4, hpost⟩
          obtain ⟨A5, c5, ms5, rfl, hts5, htk5, -⟩ := hpost
          have HX4 := hide (HX3.out.trans hx4)
          have HEQ := hide (toks_equal w0.heap.size A A5 c c5 ls ms5 w4 (HTK2.out.ext (HX23.out.trans hx4)) ⟨own_mono htk5.own (Nat.le_trans hB01 (Nat.le_trans hB12 HX23.out.size)), fun x hx => by
            obtain ⟨A6, c6, e6, o6⟩ := htk5.parts x hx
            exact ⟨A6, c6, e6, own_mono o6 (Nat.le_trans hB01 (Nat.le_trans hB12 HX23.out.size))⟩⟩ (by
              have h1 := HSAME.out
              rw [← hts5, ← HTS.out, List.map_map, List.map_map] at h1
              exact h1.symm) (by omega) (fun x hx => by
              have := (HSM.out x.1 (by rw [← HTS.out]; exact List.mem_map_of_mem hx)).1
              omega))
          clear hx4 hts5 htk5 HSP HX3
          go_wp2_with fail
          refine HEQ.out.mono ?_
          rintro e w5 ⟨rfl, hx5⟩
          have HX5 := hide (HX4.out.trans hx5)
          clear hx5 HEQ
          go_wp2_with fail
          go_ret
          exact ⟨rfl, HX5.out⟩
end Go.Proofs.YtapjfiifpfoppaaDoor
