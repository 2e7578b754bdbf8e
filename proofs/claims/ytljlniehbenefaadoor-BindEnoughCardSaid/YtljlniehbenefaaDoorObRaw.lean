/- Raw parts: what 'object' makes of them, in plain words: always one that may be. Plain theorems, but for the contract of 'name'. -/
import Derived.Test.YtljlniehbenefaaDoorObChk
import Derived.Test.YtljlniehbenefaaDoorShelf
import Derived.Test.YtljlniehbenefaaDoorRest
namespace Go.Proofs.YtljlniehbenefaaDoor
open Go.RowKit
set_option linter.unusedVariables false

def nameN (n : Int) : Bs := 110 :: Lib.decDigits (restZ n 12).toNat
theorem nameB_N (n : Int) : nameB (nameN n) = true := by
  have h1 := restZ_lo n 12 (by omega)
  have h2 := restZ_hi n 12 (by omega)
  unfold nameN
  obtain ⟨k, hk⟩ : ∃ k, (restZ n 12).toNat = k := ⟨_, rfl⟩
  have h3 : k < 12 := by omega
  rw [hk]
  have : k = 0 ∨ k = 1 ∨ k = 2 ∨ k = 3 ∨ k = 4 ∨ k = 5 ∨ k = 6 ∨ k = 7 ∨ k = 8 ∨ k = 9 ∨ k = 10 ∨ k = 11 := by omega
  rcases this with rfl | rfl | rfl | rfl | rfl | rfl | rfl | rfl | rfl | rfl | rfl | rfl <;> decide +kernel
def mkN (cl dl : Nat) (n : Int) : NmD := if n % 2 = 0 then ⟨nameN n, 2, restZ (n.tdiv 12) (dl + 1 : Nat), decide (n % 3 = 0)⟩ else ⟨nameN n, 1, 4 * restZ (n.tdiv 12) (cl + 1 : Nat), decide (n % 3 = 0)⟩
/-- One raw name more, the i-th. -/
def addN (cl dl : Nat) (acc : List NmD) (i : Nat) (n : Int) : List NmD := if i < 8 ∧ nameN n ∉ acc.map NmD.name then acc ++ [mkN cl dl n] else acc
def namesR (cl dl : Nat) : List Int → List NmD → Nat → List NmD
  | [], acc, _ => acc
  | n :: l, acc, i => namesR cl dl l (addN cl dl acc i n) (i + 1)
def mkE (i : Nat) (n : Int) : NeD := ⟨4 * (i : Int), nameN n, 1 + restZ (n.tdiv 12) 3⟩
def needsR (cl : Nat) : List Int → Nat → List NeD
  | [], _ => []
  | n :: l, i => if i < cl then mkE i n :: needsR cl l (i + 1) else needsR cl l (i + 1)
def objR (code : List Nat) (data : Bs) (names needs : List Int) : ObD := ⟨code.take 20, data.take 40, namesR (code.take 20).length (data.take 40).length names [] 0, needsR (code.take 20).length needs 0⟩
theorem mkN_name (cl dl : Nat) (n : Int) : (mkN cl dl n).name = nameN n := by unfold mkN; split <;> rfl
/-- What holds of names so far. -/
structure NmInv (cl dl : Nat) (acc : List NmD) (i : Nat) : Prop where
  len : acc.length ≤ i
  few : acc.length ≤ 8
  nodup : (acc.map NmD.name).Nodup
  made : ∀ x ∈ acc, ∃ n, x = mkN cl dl n
theorem NmInv.add {cl dl : Nat} {acc : List NmD} {i : Nat} (h : NmInv cl dl acc i) (n : Int) : NmInv cl dl (addN cl dl acc i n) (i + 1) := by
  unfold addN
  split
  · rename_i hc
    refine ⟨by rw [List.length_append]; simp; exact h.len, by rw [List.length_append]; have := h.len; simp; omega, ?_, ?_⟩
    · rw [List.map_append, List.nodup_append]
      refine ⟨h.nodup, by simp, fun a ha b hb e => ?_⟩
      simp only [List.map_cons, List.map_nil, List.mem_singleton, mkN_name] at hb
      subst e
      rw [hb] at ha
      exact hc.2 ha
    · intro x hx
      rcases List.mem_append.1 hx with hx | hx
      · exact h.made x hx
      · rw [List.mem_singleton] at hx
        exact ⟨n, hx⟩
  · exact ⟨by have := h.len; omega, h.few, h.nodup, h.made⟩
theorem namesR_inv (cl dl : Nat) : ∀ (l : List Int) (acc : List NmD) (i : Nat), NmInv cl dl acc i → NmInv cl dl (namesR cl dl l acc i) (i + l.length) := by
  intro l
  induction l with
  | nil => intro acc i h; exact h
  | cons n l ih =>
    intro acc i h
    have := ih _ _ (h.add n)
    rw [List.length_cons, show i + (l.length + 1) = i + 1 + l.length by omega]
    exact this
theorem needsR_mem (cl : Nat) : ∀ (l : List Int) (i : Nat) (x : NeD), x ∈ needsR cl l i → ∃ j n, i ≤ j ∧ j < cl ∧ x = mkE j n := by
  intro l
  induction l with
  | nil => intro i x h; cases h
  | cons n l ih =>
    intro i x h
    unfold needsR at h
    split at h
    · rcases List.mem_cons.1 h with rfl | h
      · exact ⟨i, n, Nat.le_refl _, by assumption, rfl⟩
      · obtain ⟨j, m, h1, h2, h3⟩ := ih _ _ h
        exact ⟨j, m, by omega, h2, h3⟩
    · obtain ⟨j, m, h1, h2, h3⟩ := ih _ _ h
      exact ⟨j, m, by omega, h2, h3⟩
theorem needsR_rising (cl : Nat) : ∀ (l : List Int) (i : Nat), (needsR cl l i).Pairwise fun a b => a.pos < b.pos := by
  intro l
  induction l with
  | nil => intro i; exact List.Pairwise.nil
  | cons n l ih =>
    intro i
    unfold needsR
    split
    · refine List.pairwise_cons.2 ⟨fun x hx => ?_, ih _⟩
      obtain ⟨j, m, h1, h2, rfl⟩ := needsR_mem cl l (i + 1) x hx
      show 4 * (i : Int) < 4 * (j : Int)
      omega
    · exact ih _
theorem needsR_len (cl : Nat) : ∀ (l : List Int) (i : Nat), (needsR cl l i).length ≤ cl - i := by
  intro l
  induction l with
  | nil => intro i; simp [needsR]
  | cons n l ih =>
    intro i
    unfold needsR
    split
    · have := ih (i + 1)
      simp only [List.length_cons]
      omega
    · have := ih (i + 1)
      omega
theorem decDigits_12 (k : Nat) (h : k < 12) : (Lib.decDigits k).length ≤ 2 := by
  have : k = 0 ∨ k = 1 ∨ k = 2 ∨ k = 3 ∨ k = 4 ∨ k = 5 ∨ k = 6 ∨ k = 7 ∨ k = 8 ∨ k = 9 ∨ k = 10 ∨ k = 11 := by omega
  rcases this with rfl | rfl | rfl | rfl | rfl | rfl | rfl | rfl | rfl | rfl | rfl | rfl <;> decide +kernel
theorem nameN_len (n : Int) : (nameN n).length ≤ 3 := by
  have h1 := restZ_lo n 12 (by omega)
  have h2 := restZ_hi n 12 (by omega)
  have := decDigits_12 (restZ n 12).toNat (by omega)
  simp only [nameN, List.length_cons]
  omega
/-- A raw part is one that may be. -/
theorem objR_ok (code : List Nat) (data : Bs) (names needs : List Int) : ChkOk (objR code data names needs) := by
  have hc : (code.take 20).length ≤ 20 := by rw [List.length_take]; omega
  have hd : (data.take 40).length ≤ 40 := by rw [List.length_take]; omega
  have hn := namesR_inv (code.take 20).length (data.take 40).length names [] 0 ⟨by simp, by simp, by simp, by simp⟩
  have he := needsR_len (code.take 20).length needs 0
  refine ⟨by show (code.take 20).length ≤ 128; omega, by show (data.take 40).length ≤ 256; omega, by have := hn.few; show _ ≤ 24; exact Nat.le_trans this (by omega), by show _ ≤ 40; exact Nat.le_trans he (by omega), fun n hm => ?_, hn.nodup, fun n hm => ?_, needsR_rising _ _ _⟩
  · obtain ⟨z, rfl⟩ := hn.made n hm
    have h1 := restZ_lo (z.tdiv 12) ((data.take 40).length + 1 : Nat) (by omega)
    have h2 := restZ_hi (z.tdiv 12) ((data.take 40).length + 1 : Nat) (by omega)
    have h3 := restZ_lo (z.tdiv 12) ((code.take 20).length + 1 : Nat) (by omega)
    have h4 := restZ_hi (z.tdiv 12) ((code.take 20).length + 1 : Nat) (by omega)
    refine ⟨by rw [mkN_name]; exact nameB_N z, ?_⟩
    unfold mkN
    split
    · refine ⟨h1, ?_, fun e => ?_⟩
      · show restZ (z.tdiv 12) ((data.take 40).length + 1 : Nat) ≤ ((data.take 40).length : Int)
        omega
      · exact absurd (show (2 : Int) = 1 from e) (by decide)
    · refine ⟨by show (0 : Int) ≤ 4 * _; omega, ?_, fun _ => by show (4 * _ : Int) % 4 = 0; omega⟩
      show (4 * _ : Int) ≤ 4 * ((code.take 20).length : Int)
      omega
  · obtain ⟨j, z, h1, h2, rfl⟩ := needsR_mem _ _ _ _ hm
    have h3 := restZ_lo (z.tdiv 12) 3 (by omega)
    have h4 := restZ_hi (z.tdiv 12) 3 (by omega)
    refine ⟨nameB_N z, by show (1 : Int) ≤ 1 + _; omega, by show (1 : Int) + _ ≤ 3; omega, by show (0 : Int) ≤ 4 * _; omega, by show 4 * (j : Int) < 4 * ((code.take 20).length : Int); omega, by show (4 * (j : Int)) % 4 = 0; omega⟩
theorem itoa_any (k : Nat) (hk : k < 100) (w : World) : Calls Tryd.prog 42 #[.int .i64 (k : Int)] w fun e w' => e = .returned (.string (str (Lib.decDigits k))) ∧ w' = w := Tryd.strconv_Itoa_small k hk w
set_option maxHeartbeats 4000000 in
set_option maxRecDepth 100000 in
theorem name_any (n : Int) (w : World) (h1 : -9223372036854775808 ≤ n) (h2 : n ≤ 9223372036854775807) : Calls Tryd.prog 39 #[.int .i64 n] w fun e w' => e = .returned (.string (str (nameN n))) ∧ w' = w := by
  have h3 := restZ_lo n 12 (by omega)
  have h4 := restZ_hi n 12 (by omega)
  have HR := hide (rest_any n 12 w h1 h2 (by omega) (by omega))
  obtain ⟨k, hk⟩ : ∃ k : Nat, restZ n 12 = (k : Int) := ⟨(restZ n 12).toNat, by omega⟩
  have hk12 : k < 12 := by omega
  have HN := hide (show nameN n = 110 :: Lib.decDigits k by unfold nameN; rw [hk, Int.toNat_natCast])
  have HI := hide (itoa_any k (by omega) w)
  have hd := decDigits_12 k hk12
  rw [hk] at HR
  have hcat : (⟨#[110]⟩ : ByteArray) ++ str (Lib.decDigits k) = str (nameN n) := by rw [HN.out]; exact str_append [110] (Lib.decDigits k)
  have hsz : (str (Lib.decDigits k)).size ≤ 2 := by rw [str_size]; exact hd
  generalize str (Lib.decDigits k) = D at *
  generalize str (nameN n) = SN at *
  clear h3 h4 hk HN
  go_enter Tryd.func39, Tryd.ntmps39
  go_wp2_with fail
  refine HR.out.mono ?_
  rintro e w' ⟨rfl, rfl⟩
  go_wp2_with fail
  refine HI.out.mono ?_
  rintro e w' ⟨rfl, rfl⟩
  go_wp2_with fail
  go_ret
  exact ⟨rfl, rfl⟩
end Go.Proofs.YtljlniehbenefaaDoor
