/- The contracts of words.Name and words.op. -/
import Derived.Test.YtjbgkcljjgofnaaDoorWLeaf
namespace Go.Proofs.YtjbgkcljjgofnaaDoor
open Go.RowKit
set_option linter.unusedVariables false

theorem nameOk_snoc (l : List UInt8) (c : UInt8) : nameOk (l ++ [c]) = (nameOk l && (if l.length = 0 then firstC c else nameC c)) := by
  cases l with
  | nil => simp [nameOk]
  | cons d t => simp [nameOk, Bool.and_assoc]
theorem nameOk_next (l : List UInt8) (k : Nat) (c : UInt8) (h : l[k]? = some c) : nameOk (l.take (k + 1)) = (nameOk (l.take k) && (if k = 0 then firstC c else nameC c)) := by
  obtain ⟨hk, rfl⟩ := List.getElem?_eq_some_iff.1 h
  rw [List.take_succ_eq_append_getElem hk, nameOk_snoc, List.length_take, Nat.min_eq_left (Nat.le_of_lt hk)]
theorem nameOk_app (a b : List UInt8) (h : nameOk (a ++ b) = true) : nameOk a = true := by
  cases a with
  | nil => rfl
  | cons c t =>
    simp only [List.cons_append, nameOk, List.all_append, Bool.and_eq_true] at h ⊢
    exact ⟨h.1, h.2.1⟩
theorem nameOk_take (l : List UInt8) (k : Nat) (h : nameOk l = true) : nameOk (l.take k) = true := by
  rw [← List.take_append_drop k l] at h
  exact nameOk_app _ _ h
theorem nameB_stop {l : List UInt8} {k : Nat} {c : UInt8} (h : l[k]? = some c) (hc : (if k = 0 then firstC c else nameC c) = false) : nameB l = false := by
  unfold nameB
  cases h1 : nameOk l
  · rfl
  · have := nameOk_take l (k + 1) h1
    rw [nameOk_next l k c h, hc] at this
    simp at this
def NameRel (l : List UInt8) (v : Value) : Prop := ∃ k : Nat, k ≤ l.length ∧ v = .int .i64 k ∧ nameOk (l.take k) = true
theorem nameC_no {c : UInt8} (hf : firstC c = false) (hd : c.toNat < 48 ∨ 57 < c.toNat) : nameC c = false := by
  unfold nameC
  rw [hf, decide_eq_false (by omega)]
  rfl
theorem nameC_dig {c : UInt8} (hd : 48 ≤ c.toNat ∧ c.toNat ≤ 57) : nameC c = true := by
  unfold nameC
  rw [decide_eq_true hd, Bool.or_true]
set_option maxHeartbeats 4000000 in
theorem name_any (l : List UInt8) (w : World) (hl : l.length ≤ 1000000) : Calls Tryd.prog 41 #[.string (str l)] w fun e w' => e = .returned (.bool (nameB l)) ∧ w = w' := by
  have hls := str_size l
  have HLS := hide hls
  clear hls
  go_enter Tryd.func41, Tryd.ntmps41
  have hsz : (str l).size ≤ 1000000 := by rw [HLS.out]; exact hl
  have hlen : ∀ W : World, (Builtin.len_ #[9] 3 #[.string (str l)]).run Tryd.prog W = .ok (.int .i64 (l.length : Int)) W := fun W => by
    rw [run_len_string W _ _ _ Tryd.underlying9, HLS.out]; rfl
  go_wp2_with fail
  go_loop [6] (NameRel l) (fun i => l.length - (intOf i).toNat)
  case atStart => exact ⟨0, Nat.zero_le _, rfl, rfl⟩
  case round =>
    obtain ⟨k, hk, rfl, hok⟩ := hrel
    have HOK := hide hok
    clear hok
    by_cases hlt : k < l.length
    · obtain ⟨c, hc⟩ : ∃ c, l[k]? = some c := ⟨_, List.getElem?_eq_getElem hlt⟩
      have ix := str_index (P := Tryd.prog) Tryd.underlying9 hc
      have HF := hide (first_any c w)
      have HNX := hide (nameOk_next l k c hc)
      have HST := hide (@nameB_stop l k c hc)
      have HNO := hide (@nameC_no c)
      have HDG := hide (@nameC_dig c)
      cases hf : firstC c
      · rw [hf] at HF HNX HST HNO
        generalize c.toNat = x at *
        clear hc hf
        by_cases hk0 : k = 0
        · have t1 : ((k : Int) == 0) = true := by simpa using (show (k : Int) = 0 by omega)
          rw [if_pos hk0] at HST
          clear HNX hk0
          go_wp2_with fail
          refine HF.out.mono ?_
          rintro e w' ⟨rfl, rfl⟩
          go_wp2_with fail
          go_ret
          exact ⟨by rw [HST.out trivial]; rfl, rfl⟩
        · have t1 : ((k : Int) == 0) = false := by simpa using (fun e : (k : Int) = 0 => hk0 (by omega))
          rw [if_neg hk0] at HNX HST
          by_cases h48 : x < 48
          · have t2 : decide ((x : Int) < 48) = true := by simpa using (show (x : Int) < 48 by omega)
            go_wp2_with fail
            refine HF.out.mono ?_
            rintro e w' ⟨rfl, rfl⟩
            go_wp2_with fail
            go_ret
            exact ⟨by rw [HST.out (HNO.out trivial (.inl h48))]; rfl, rfl⟩
          · have t2 : decide ((x : Int) < 48) = false := by simpa using (show (48 : Int) ≤ x by omega)
            by_cases h57 : 57 < x
            · have t3 : decide ((57 : Int) < x) = true := by simpa using (show (57 : Int) < x by omega)
              go_wp2_with fail
              refine HF.out.mono ?_
              rintro e w' ⟨rfl, rfl⟩
              go_wp2_with fail
              go_ret
              exact ⟨by rw [HST.out (HNO.out trivial (.inr h57))]; rfl, rfl⟩
            · have t3 : decide ((57 : Int) < x) = false := by simpa using (show (x : Int) ≤ 57 by omega)
              go_wp2_with fail
              refine HF.out.mono ?_
              rintro e w' ⟨rfl, rfl⟩
              go_wp2_with fail
              go_round
              case rel => exact ⟨k + 1, by omega, by go_num, by rw [HNX.out, HOK.out, HDG.out (by omega)]; rfl⟩
              case measure => simp [intOf]; omega
      · rw [hf] at HF HNX
        have hn : nameC c = true := by unfold nameC; rw [hf]; rfl
        rw [hn] at HNX
        generalize c.toNat = x at *
        clear hc hf hn
        go_wp2_with fail
        refine HF.out.mono ?_
        rintro e w' ⟨rfl, rfl⟩
        go_wp2_with fail
        go_round
        case rel => exact ⟨k + 1, by omega, by go_num, by rw [HNX.out, HOK.out]; split <;> rfl⟩
        case measure => simp [intOf]; omega
    · obtain rfl : k = l.length := by omega
      rw [List.take_length] at HOK
      cases l with
      | nil =>
        have he0 : (str []).toList.isEmpty = true := by rw [Lib.toList_data, str_toList]; rfl
        have HE := hide he0
        clear he0
        go_wp2_with fail
        go_ret
        refine ⟨?_, rfl⟩
        show Ending.returned (Value.bool (!(str []).toList.isEmpty)) = _
        rw [HE.out]
        rfl
      | cons c t =>
        have HB : Hid (nameB (c :: t) = true) := by show nameB (c :: t) = true; unfold nameB; rw [HOK.out]; rfl
        have he : (str (c :: t)).toList.isEmpty = false := by rw [Lib.toList_data, str_toList]; rfl
        have he2 : (!(str (c :: t)).toList.isEmpty) = true := by rw [he]; rfl
        go_wp2_with fail
        go_ret
        exact ⟨by rw [HB.out]; rfl, rfl⟩
end Go.Proofs.YtjbgkcljjgofnaaDoor
