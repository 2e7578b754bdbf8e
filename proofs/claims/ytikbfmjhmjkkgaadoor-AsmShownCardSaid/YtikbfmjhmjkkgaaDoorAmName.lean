/- The contracts of asm.register and asm.Name. -/
import Derived.Test.YtikbfmjhmjkkgaaDoorAmBase
import Derived.Deep.QuietTactic
import Derived.BigQuiet
namespace Go.Proofs.YtikbfmjhmjkkgaaDoor
open Go.RowKit
set_option linter.unusedVariables false

theorem str_index {P : Program} {T : TypeId} (hT : P.underlying T = some .string) {l : List UInt8} {k : Nat} {c : UInt8} (h : l[k]? = some c) (W : World) : (Instr.index T (.string (str l)) (.int .i64 (k : Int))).run P W = .ok (.int .u8 (c.toNat : Int)) W := by
  obtain ⟨hk, rfl⟩ := List.getElem?_eq_some_iff.1 h
  have hs := str_size l
  rw [run_index_string W T (str l) .i64 (k : Int) hT, dif_pos ⟨by omega, by omega⟩]
  rfl
/-- What register answers: below 0 where the text is none. -/
def regI (s : Bs) : Int := if regB s = true then ((s.getD 1 0).toNat : Int) - 48 else -1
theorem regI_neg (s : Bs) : decide (regI s ≥ 0) = regB s := by
  unfold regI
  cases h : regB s with
  | false => rfl
  | true =>
    have h' := h
    unfold regB at h'
    rw [decide_eq_true_eq] at h'
    rw [if_pos rfl, decide_eq_true_eq]
    omega
set_option maxHeartbeats 4000000 in
set_option maxRecDepth 100000 in
theorem reg_any (s : Bs) (w : World) (hl : s.length ≤ 1000000) : Calls Tryd.prog 53 #[.string (str s)] w fun e w' => e = .returned (.int .i64 (regI s)) ∧ w = w' := by
  have hls := str_size s
  have HLS := hide hls
  clear hls
  have hlen : ∀ W : World, (Builtin.len_ #[9] 3 #[.string (str s)]).run Tryd.prog W = .ok (.int .i64 (s.length : Int)) W := fun W => by
    rw [run_len_string W _ _ _ Tryd.underlying9, HLS.out]; rfl
  have HI := hide (show regI s = if regB s = true then ((s.getD 1 0).toNat : Int) - 48 else -1 from rfl)
  by_cases h2 : s.length = 2
  · match s, h2 with
    | [a, b], _ =>
      have ia := str_index (P := Tryd.prog) Tryd.underlying9 (l := [a, b]) (k := 0) (c := a) rfl
      have ib := str_index (P := Tryd.prog) Tryd.underlying9 (l := [a, b]) (k := 1) (c := b) rfl
      have HB := hide (show regB [a, b] = decide (2 = 2 ∧ a.toNat = 114 ∧ 48 ≤ b.toNat ∧ b.toNat < 56) from rfl)
      simp only [List.getD_cons_succ, List.getD_cons_zero] at HI
      have hb256 := b.toNat_lt
      generalize regI [a, b] = rI at *
      generalize regB [a, b] = rB at *
      generalize str [a, b] = S at *
      generalize a.toNat = x at *
      generalize b.toNat = y at *
      have ia' : ∀ W : World, (Instr.index 9 (.string S) (.int .i64 0)).run Tryd.prog W = .ok (.int .u8 (x : Int)) W := ia
      have ib' : ∀ W : World, (Instr.index 9 (.string S) (.int .i64 1)).run Tryd.prog W = .ok (.int .u8 (y : Int)) W := ib
      clear ia ib
      have hlen2 : ∀ W : World, (Builtin.len_ #[9] 3 #[.string S]).run Tryd.prog W = .ok (.int .i64 2) W := hlen
      clear hlen
      by_cases hx : x = 114
      · by_cases h48 : 48 ≤ y
        · by_cases h56 : y < 56
          · have HE := hide (show rI = (y : Int) - 48 by rw [HI.out, HB.out, decide_eq_true ⟨rfl, hx, h48, h56⟩, if_pos rfl])
            subst hx
            have hw : IntKind.u8.wrap ((y : Int) - 48) = (y : Int) - 48 := by rw [IntKind.wrap_u8]; omega
            go_enter Tryd.func53, Tryd.ntmps53
            go_wp2_with fail
            go_ret
            exact ⟨by rw [HE.out]; first | done | rfl, rfl⟩
          · have HE := hide (show rI = -1 by rw [HI.out, HB.out, decide_eq_false (fun h => h56 h.2.2.2)]; rfl)
            subst hx
            go_enter Tryd.func53, Tryd.ntmps53
            go_wp2_with fail
            go_ret
            exact ⟨by rw [HE.out]; first | done | rfl, rfl⟩
        · have HE := hide (show rI = -1 by rw [HI.out, HB.out, decide_eq_false (fun h => h48 h.2.2.1)]; rfl)
          subst hx
          go_enter Tryd.func53, Tryd.ntmps53
          go_wp2_with fail
          go_ret
          exact ⟨by rw [HE.out]; first | done | rfl, rfl⟩
      · have HE := hide (show rI = -1 by rw [HI.out, HB.out, decide_eq_false (fun h => hx h.2.1)]; rfl)
        have hx' : ((x : Int) == 114) = false := by simp; omega
        clear hx
        go_enter Tryd.func53, Tryd.ntmps53
        go_wp2_with fail
        go_ret
        exact ⟨by rw [HE.out]; first | done | rfl, rfl⟩
  · have HE := hide (show regI s = -1 by
      have : regB s = false := decide_eq_false (fun h => h2 h.1)
      unfold regI
      rw [this]
      rfl)
    have h2' : ((s.length : Int) == 2) = false := by simp; omega
    generalize regI s = rI at *
    clear h2 HI
    go_enter Tryd.func53, Tryd.ntmps53
    go_wp2_with fail
    go_ret
    exact ⟨by rw [HE.out]; first | done | rfl, rfl⟩
def AnRel (s : Bs) (v : Value) : Prop := ∃ k : Nat, k ≤ s.length ∧ v = .int .i64 k ∧ chsB k (s.drop k) = chsB 0 s
theorem chs_step (s : Bs) (k : Nat) (h : k < s.length) : chsB k (s.drop k) = (chB k s[k] && chsB (k + 1) (s.drop (k + 1))) := by
  rw [List.drop_eq_getElem_cons h]
  rfl
set_option maxHeartbeats 4000000 in
set_option maxRecDepth 100000 in
theorem aname_any (s : Bs) (w : World) (hl : s.length ≤ 1000000) : Calls Tryd.prog 48 #[.string (str s)] w fun e w' => e = .returned (.bool (nameB s)) ∧ w = w' := by
  have hls := str_size s
  have hlen : ∀ W : World, (Builtin.len_ #[9] 3 #[.string (str s)]).run Tryd.prog W = .ok (.int .i64 (s.length : Int)) W := fun W => by
    rw [run_len_string W _ _ _ Tryd.underlying9, hls]; rfl
  clear hls
  have HR := hide (reg_any s w hl)
  have hrn := regI_neg s
  have HNB := hide (show nameB s = (decide (1 ≤ s.length ∧ s.length ≤ 12) && (!regB s && chsB 0 s)) from rfl)
  have HIX := hide (fun (k : Nat) (c : UInt8) (h : s[k]? = some c) => str_index (P := Tryd.prog) Tryd.underlying9 h)
  have HST := hide (chs_step s)
  by_cases h1 : 1 ≤ s.length
  case neg =>
    have HE := hide (show nameB s = false by rw [HNB.out, decide_eq_false (fun h => h1 h.1)]; rfl)
    generalize str s = S at *
    go_enter Tryd.func48, Tryd.ntmps48
    go_wp2_with fail
    go_ret
    exact ⟨by rw [HE.out]; first | done | rfl, rfl⟩
  by_cases h12 : s.length ≤ 12
  case neg =>
    have HE := hide (show nameB s = false by rw [HNB.out, decide_eq_false (fun h => h12 h.2)]; rfl)
    generalize str s = S at *
    go_enter Tryd.func48, Tryd.ntmps48
    go_wp2_with fail
    go_ret
    exact ⟨by rw [HE.out]; first | done | rfl, rfl⟩
  cases hreg : regB s
  case true =>
    have HE := hide (show nameB s = false by rw [HNB.out, hreg]; simp)
    rw [hreg, decide_eq_true_eq] at hrn
    generalize regI s = r at *
    generalize str s = S at *
    go_enter Tryd.func48, Tryd.ntmps48
    go_wp2_with fail
    refine HR.out.mono ?_
    rintro e w' ⟨rfl, rfl⟩
    go_wp2_with fail
    go_ret
    exact ⟨by rw [HE.out]; first | done | rfl, rfl⟩
  case false =>
    have HNC := hide (show nameB s = chsB 0 s by rw [HNB.out, hreg, decide_eq_true ⟨h1, h12⟩]; rfl)
    rw [hreg, decide_eq_false_iff_not] at hrn
    have hrn2 : regI s < 0 := by omega
    clear hrn
    generalize regI s = r at *
    generalize str s = S at *
    generalize nameB s = nb at *
    clear hreg HNB
    go_enter Tryd.func48, Tryd.ntmps48
    go_wp2_with fail
    refine HR.out.mono ?_
    rintro e w' ⟨rfl, rfl⟩
    clear HR
    go_wp2_with fail
    go_loop [20] (AnRel s) (fun i => s.length - (intOf i).toNat)
    case atStart => exact ⟨0, Nat.zero_le _, rfl, rfl⟩
    case round =>
      obtain ⟨k, hk, rfl, hok⟩ := hrel
      have HOK := hide hok
      clear hok
      by_cases hlt : k < s.length
      · have ix := HIX.out k s[k] (List.getElem?_eq_getElem hlt)
        have hst := HST.out k hlt
        rw [HOK.out] at hst
        have hc256 := s[k].toNat_lt
        have HCB := hide (show chB k s[k] = decide ((97 ≤ s[k].toNat ∧ s[k].toNat ≤ 122) ∨ s[k].toNat = 95 ∨ (k ≠ 0 ∧ 48 ≤ s[k].toNat ∧ s[k].toNat ≤ 57)) from rfl)
        have HS := hide hst
        clear hst
        generalize chB k s[k] = cb at *
        generalize s[k].toNat = x at *
        cases hcb : cb
        case false =>
          have HE := hide (show nb = false by rw [HNC.out, HS.out, hcb]; rfl)
          have hno : ¬ ((97 ≤ x ∧ x ≤ 122) ∨ x = 95 ∨ (k ≠ 0 ∧ 48 ≤ x ∧ x ≤ 57)) := by
            have := HCB.out
            rw [hcb] at this
            exact of_decide_eq_false this.symm
          have h95 : ((x : Int) == 95) = false := by simp; omega
          have h95n : ((x : Int) != 95) = true := by simp; omega
          clear hcb
          by_cases hk0 : k = 0
          case' pos => have hk : ((k : Int) == 0) = true := by simpa using (show (k : Int) = 0 by omega)
          case' neg =>
            have hk : ((k : Int) == 0) = false := by simp; omega
            by_cases h48 : x < 48
            case' neg => have h57 : 57 < x := by omega
          all_goals
            by_cases ha : x < 97
            case' neg => have hz : 122 < x := by omega
          all_goals
            clear hno
            try clear hk0
            first
              | (exfalso; omega)
              | (go_wp2_with fail
                 go_ret
                 exact ⟨by rw [HE.out]; first | done | rfl, rfl⟩)
        case true =>
          have hyes : (97 ≤ x ∧ x ≤ 122) ∨ x = 95 ∨ (k ≠ 0 ∧ 48 ≤ x ∧ x ≤ 57) := by
            have := HCB.out
            rw [hcb] at this
            exact of_decide_eq_true this.symm
          have HOK2 := hide (show chsB (k + 1) (s.drop (k + 1)) = chsB 0 s by rw [HS.out, hcb]; rfl)
          clear hcb
          rcases hyes with ⟨ha, hz⟩ | h95 | ⟨hk0, h48, h57⟩
          case' inr.inl => subst h95
          case' inr.inr =>
            have hk : ((k : Int) == 0) = false := by simp; omega
            have h95 : ((x : Int) == 95) = false := by simp; omega
          all_goals
            go_wp2_with fail
            go_round
            case rel => exact ⟨k + 1, by omega, by go_num, HOK2.out⟩
            case measure => simp [intOf]; omega
      · obtain rfl : k = s.length := by omega
        have HE := hide (show nb = true by rw [HNC.out, ← HOK.out, List.drop_length]; rfl)
        go_wp2_with fail
        go_ret
        exact ⟨by rw [HE.out]; first | done | rfl, rfl⟩
end Go.Proofs.YtikbfmjhmjkkgaaDoor
