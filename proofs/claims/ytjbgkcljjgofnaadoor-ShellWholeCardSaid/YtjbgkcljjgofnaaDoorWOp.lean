/- The contract of words.op. -/
import Derived.Test.YtjbgkcljjgofnaaDoorWName
import Derived.Test.YtjbgkcljjgofnaaDoorArr
namespace Go.Proofs.YtjbgkcljjgofnaaDoor
open Go.RowKit
set_option linter.unusedVariables false

def opsV : Array Value := (opsL.map fun o => Value.string (str o)).toArray
theorem opsV_at (k : Nat) (o : List UInt8) (h : opsL[k]? = some o) : opsV[k]? = some (.string (str o)) := by
  unfold opsV
  rw [List.getElem?_toArray, List.getElem?_map, h]
  rfl
theorem string_info : (Tryd.prog.info? 9).map (fun i => (i.zero, i.size, i.bytes)) = some (some (.string ⟨#[]⟩), 1, 16) := by kernel_rfl
theorem opF_drop (l : List UInt8) (k : Nat) (o : List UInt8) (h : opsL[k]? = some o) : opF (opsL.drop k) l = if o.isPrefixOf l = true then o else opF (opsL.drop (k + 1)) l := by
  obtain ⟨hk, rfl⟩ := List.getElem?_eq_some_iff.1 h
  rw [List.drop_eq_getElem_cons hk]
  rfl
def OpRel (l : List UInt8) (v : Value) : Prop := ∃ k : Nat, k ≤ 10 ∧ v = .int .i64 k ∧ opL l = opF (opsL.drop k) l
set_option maxHeartbeats 4000000 in
set_option maxRecDepth 100000 in
theorem op_any (l : List UInt8) (w : World) : Calls Tryd.prog 21 #[.string (str l)] w fun e w' => e = .returned (.string (str (opL l))) ∧ w = w' := by
  obtain ⟨i0, hi, hz0, hz1, hz2⟩ := info_parts string_info
  go_enter Tryd.func21, Tryd.ntmps21
  go_wp2_with fail
  go_loop [6] (OpRel l) (fun i => 10 - (intOf i).toNat)
  case atStart => exact ⟨0, Nat.zero_le _, rfl, rfl⟩
  case round =>
    obtain ⟨k, hk, rfl, hok⟩ := hrel
    have HOK := hide hok
    clear hok
    by_cases hlt : k < 10
    · obtain ⟨o, ho⟩ : ∃ o, opsL[k]? = some o := ⟨_, List.getElem?_eq_getElem (by simpa [opsL] using hlt)⟩
      have ix := fun W => index_arr (P := Tryd.prog) Tryd.underlying83 Tryd.underlying9 rfl hi hz1 opsV k hlt (opsV_at k o ho) .i64 W
      have HD := hide (opF_drop l k o ho)
      have HP := hide (pfx_any l o w)
      have hl2 : opsV = #[.string ⟨#[38, 38]⟩, .string ⟨#[124, 124]⟩, .string ⟨#[62, 62]⟩, .string ⟨#[124]⟩, .string ⟨#[38]⟩, .string ⟨#[59]⟩, .string ⟨#[60]⟩, .string ⟨#[62]⟩, .string ⟨#[40]⟩, .string ⟨#[41]⟩] := rfl
      rw [hl2] at ix
      clear ho hl2
      cases hp : o.isPrefixOf l
      · rw [hp] at HP HD
        have HR := hide (HOK.out.trans (HD.out.trans (if_neg (by decide))))
        clear hp HD
        go_wp2_with fail
        refine HP.out.mono ?_
        rintro e w' ⟨rfl, rfl⟩
        go_wp2_with fail
        go_round
        case rel => exact ⟨k + 1, by omega, by go_num, HR.out⟩
        case measure => simp [intOf]; omega
      · rw [hp] at HP HD
        have HR := hide (HOK.out.trans (HD.out.trans (if_pos rfl)))
        clear hp HD
        go_wp2_with fail
        refine HP.out.mono ?_
        rintro e w' ⟨rfl, rfl⟩
        go_wp2_with fail
        go_ret
        exact ⟨by rw [HR.out]; rfl, rfl⟩
    · obtain rfl : k = 10 := by omega
      have HR : Hid (opL l = []) := hide (by rw [HOK.out]; rfl)
      go_wp2_with fail
      go_ret
      exact ⟨by rw [HR.out]; rfl, rfl⟩
theorem idx_sgl (t : List UInt8) : Lib.indexByte t 39 = if (sglL t).length < t.length then ((sglL t).length : Int) else -1 := by
  induction t with
  | nil => rfl
  | cons c t ih =>
    by_cases hc : c.toNat = 39
    · have hc' : c = 39 := by apply UInt8.toNat_inj.1; exact hc
      subst hc'
      simp [sglL, Lib.indexByte]
    · have hc' : (c == 39) = false := by simpa using (fun e : c = 39 => hc (by rw [e]; rfl))
      have e : sglL (c :: t) = c :: sglL t := by simp [sglL, hc]
      have e1 : Lib.indexByte (c :: t) 39 = if Lib.indexByte t 39 == -1 then -1 else Lib.indexByte t 39 + 1 := by simp [Lib.indexByte, hc']
      rw [e, e1, ih]
      simp only [List.length_cons]
      by_cases h : (sglL t).length < t.length
      · have hn : (((sglL t).length : Int) == -1) = false := by simp
        have h2 : (sglL t).length + 1 < t.length + 1 := by omega
        rw [if_pos h, hn, if_neg (by decide), if_pos h2]
        rfl
      · have h2 : ¬ (sglL t).length + 1 < t.length + 1 := by omega
        rw [if_neg h, if_pos (by decide), if_neg h2]
theorem idx_esc (c : UInt8) : (decide ((0 : Int) ≤ Lib.indexByte [34, 92, 36] c)) = escB c := by
  have h : ∀ n : Fin 256, (decide ((0 : Int) ≤ Lib.indexByte [34, 92, 36] (UInt8.ofNat n))) = escB (UInt8.ofNat n) := by decide +kernel
  have := h ⟨c.toNat, c.toNat_lt⟩
  simpa using this
end Go.Proofs.YtjbgkcljjgofnaaDoor
