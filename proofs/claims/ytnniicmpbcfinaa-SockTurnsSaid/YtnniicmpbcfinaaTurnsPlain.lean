/- The sockets of SockTurns, as plain data; Reach and Accept that must wait. -/
import Derived.Test.YtnniicmpbcfinaaMeet
namespace Go.Proofs.Ytnniicmpbcfinaa
open Go.RowKit
set_option linter.unusedVariables false

theorem accept_wait {w0 : World} {gs : Nat} {S : Nat → Option SkD} {M : Nat → MemS} (i : Nat) (d : SkD) (w : World) (h : SkAt w0 gs S M w) (hi : i < 16) (hS : S i = some d) (hk : d.kind = 2) (hq : d.queue = []) :
    Calls Try.prog 17 #[.pointer (some ⟨gs, 0, none⟩), .int .i64 ((i : Int) + 1)] w fun e w' => e = .returned (.tuple #[.int .i64 0, .int .i64 9]) ∧ w = w' := by
  have HF := hide (find_at i w h hi)
  have hb := h.box i d hS
  obtain ⟨Ai, ci, hvi, -, -, -⟩ := own_form (h.q i d hS)
  rw [hq] at hvi
  have c0 : w.cell? ⟨(M i).b, 0, none⟩ = some (.int .i64 d.kind) := hb.cell 0
  have c3 : w.cell? ⟨(M i).b, 3, none⟩ = some (M i).vq := hb.cell 3
  rw [hk] at c0
  rw [hvi] at c3
  simp only [List.length_nil] at c3
  simp only [ptrS, hS, Option.isSome_some, if_true] at HF
  clear h hS hk hb hq hvi
  generalize (M i).b = bi at *
  go_enter Try.func17, Try.ntmps17
  go_wp2_with fail
  refine HF.out.mono ?_
  rintro e w' ⟨rfl, rfl⟩
  go_wp2_with fail
  go_ret2
  exact ⟨rfl, rfl⟩
theorem reach_wait {w0 : World} {gs : Nat} {S : Nat → Option SkD} {M : Nat → MemS} (i m : Nat) (di dm : SkD) (port : Int) (w : World) (h : SkAt w0 gs S M w) (hi : i < 16) (hSi : S i = some di) (hki : di.kind = 0) (hp : 1 ≤ port ∧ port ≤ 99)
    (hm : m < 16) (hSm : S m = some dm) (hpm : dm.port = port) (hkm : dm.kind = 2) (hno : ∀ j d, j < m → S j = some d → ¬ Has port d) (hmany : (dm.queue.length : Int) = dm.many) :
    Calls Try.prog 16 #[.pointer (some ⟨gs, 0, none⟩), .int .i64 ((i : Int) + 1), .int .i64 port] w fun e w' => e = .returned (.int .i64 9) ∧ ∃ d, w' = w.drewN d := by
  have HF := hide (find_at i w h hi)
  have HN := hide (named_at m port w h (by omega) hno (.inr ⟨dm, hSm, hpm, by omega⟩))
  rw [namedV_at M m (by omega)] at HN
  have hbi := h.box i di hSi
  have hbm := h.box m dm hSm
  obtain ⟨Aq, cq, hvq, -, -, -⟩ := own_form (h.q m dm hSm)
  have c0 : w.cell? ⟨(M i).b, 0, none⟩ = some (.int .i64 di.kind) := hbi.cell 0
  have m0 : w.cell? ⟨(M m).b, 0, none⟩ = some (.int .i64 dm.kind) := hbm.cell 0
  have m2 : w.cell? ⟨(M m).b, 2, none⟩ = some (.int .i64 dm.many) := hbm.cell 2
  have m3 : w.cell? ⟨(M m).b, 3, none⟩ = some (M m).vq := hbm.cell 3
  rw [hki] at c0
  rw [hkm] at m0
  rw [hvq] at m3
  rw [← hmany] at m2
  have tq : ((dm.queue.length : Int) == (dm.queue.length : Int)) = true := by simp
  simp only [ptrS, hSi, Option.isSome_some, if_true] at HF
  obtain ⟨p1, p2⟩ := hp
  clear h hSi hSm hki hkm hpm hno hvq hbi hbm hmany
  generalize (M i).b = bi at *
  generalize (M m).b = bm at *
  generalize dm.queue.length = ql at *
  go_enter Try.func16, Try.ntmps16
  go_wp2_with fail
  refine HF.out.mono ?_
  rintro e w' ⟨rfl, rfl⟩
  go_wp2_with fail
  refine HN.out.mono ?_
  rintro e w' ⟨rfl, rfl⟩
  go_upto_region 11 with fail
  go_quiet (fail)
  go_wp2_with fail
  go_ret
  exact ⟨rfl, _, rfl⟩

/-- Sockets that wait, from the t-th on, n of them. -/
def qs (j n : Nat) : List Int := (List.range n).map fun t => ((2 * (j + t) + 2 : Nat) : Int) + 1
theorem qs_snoc (n : Nat) : qs 0 (n + 1) = qs 0 n ++ [((2 * n + 2 : Nat) : Int) + 1] := by simp [qs, List.range_succ]
theorem qs_cons (j n : Nat) : qs j (n + 1) = (((2 * j + 2 : Nat) : Int) + 1) :: qs (j + 1) n := by
  unfold qs
  rw [List.range_succ_eq_map]
  simp only [List.map_cons, List.map_map, Nat.add_zero, List.cons.injEq, true_and]
  refine List.map_congr_left (fun t _ => ?_)
  simp only [Function.comp_apply]
  congr 2
  omega
theorem qs_length (j n : Nat) : (qs j n).length = n := by simp [qs]
/-- What the t-th one has to read, where the first j have read. -/
def inF (j x : Nat) : List UInt8 := if x < 2 * j + 2 then [] else [UInt8.ofNat ((x - 2) / 2)]
/-- i have joined; where q says who waits; where late, one more socket is there. -/
def turnS (port many : Int) (i j : Nat) (q : List Int) (late : Bool) : Nat → Option SkD := fun x =>
  if x = 0 then some (hearD port many q)
  else if x < 2 * i + 1 then (if x % 2 = 1 then some (joinD port ((x + 1 : Nat) + 1) [] false) else some (joinD port ((x - 1 : Nat) + 1) (inF j x) false))
  else if x = 2 * i + 1 ∧ late = true then some skZero else none
theorem turnS_zero (port many : Int) (i j : Nat) (q : List Int) (late : Bool) : turnS port many i j q late 0 = some (hearD port many q) := rfl
theorem turnS_c (port many : Int) (i j : Nat) (q : List Int) (late : Bool) (t : Nat) (h : t < i) : turnS port many i j q late (2 * t + 1) = some (joinD port ((2 * t + 2 : Nat) + 1) [] false) := by
  unfold turnS
  rw [if_neg (by omega), if_pos (by omega), if_pos (by omega)]
theorem turnS_a (port many : Int) (i j : Nat) (q : List Int) (late : Bool) (t : Nat) (h : t < i) : turnS port many i j q late (2 * t + 2) = some (joinD port ((2 * t + 1 : Nat) + 1) (inF j (2 * t + 2)) false) := by
  unfold turnS
  rw [if_neg (by omega), if_pos (by omega), if_neg (by omega)]
  rfl
theorem turnS_free (port many : Int) (i j : Nat) (q : List Int) (x : Nat) (h : 2 * i + 1 ≤ x) : turnS port many i j q false x = none := by
  unfold turnS
  rw [if_neg (by omega), if_neg (by omega), if_neg (by simp)]
theorem turnS_late (port many : Int) (i j : Nat) (q : List Int) : turnS port many i j q true (2 * i + 1) = some skZero := by
  unfold turnS
  rw [if_neg (by omega), if_neg (by omega), if_pos (by simp)]
theorem turnS_far (port many : Int) (i j : Nat) (q : List Int) (x : Nat) (h : 2 * i + 2 ≤ x) : turnS port many i j q true x = none := by
  unfold turnS
  rw [if_neg (by omega), if_neg (by omega), if_neg (by omega)]
theorem turnS_some (port many : Int) (i j : Nat) (q : List Int) (late : Bool) (x : Nat) (h : x < 2 * i + 1) : (turnS port many i j q late x).isSome = true := by
  unfold turnS
  split
  · rfl
  · split <;> rfl
theorem turnS_made (port many : Int) (i j : Nat) (q : List Int) : updN (turnS port many i j q false) (2 * i + 1) (some skZero) = turnS port many i j q true := by
  funext x
  by_cases e : x = 2 * i + 1
  · subst e; rw [updN_same, turnS_late]
  · rw [updN_other _ _ _ _ e]
    unfold turnS
    simp [e]
/-- One more has come, and has written its number. -/
theorem turnS_next (port many : Int) (i : Nat) (q : List Int) (q' : List Int) :
    updN (updN (updN (updN (turnS port many i 0 q true) (2 * i + 2) (some { skZero with kind := 3, port := port, peer := ((2 * i + 1 : Nat) : Int) + 1 })) (2 * i + 1) (some { skZero with kind := 3, port := port, peer := ((2 * i + 2 : Nat) : Int) + 1 })) 0 (some { hearD port many q with queue := q' }))
      (2 * i + 2) (some { joinD port ((2 * i + 1 : Nat) + 1) [] false with inn := [] ++ [UInt8.ofNat i] }) = turnS port many (i + 1) 0 q' false := by
  funext x
  by_cases e2 : x = 2 * i + 2
  · subst e2
    rw [updN_same, turnS_a _ _ _ _ _ _ i (by omega)]
    simp [joinD, inF]
  · rw [updN_other _ _ _ _ e2]
    by_cases e0 : x = 0
    · subst e0; rw [updN_same]; rfl
    · rw [updN_other _ _ _ _ e0]
      by_cases e1 : x = 2 * i + 1
      · subst e1
        rw [updN_same, turnS_c _ _ _ _ _ _ i (by omega)]
        rfl
      · rw [updN_other _ _ _ _ e1, updN_other _ _ _ _ e2]
        unfold turnS
        rw [if_neg e0, if_neg e0]
        by_cases hx : x < 2 * i + 1
        · rw [if_pos hx, if_pos (show x < 2 * (i + 1) + 1 by omega)]
        · rw [if_neg hx, if_neg (show ¬ x < 2 * (i + 1) + 1 by omega), if_neg (by omega), if_neg (by simp)]
/-- The first one who waits has been accepted, and read. -/
theorem turnS_read (port many : Int) (i j : Nat) (q q' : List Int) (hj : j < i) :
    updN (updN (turnS port many i j q true) 0 (some { hearD port many q with queue := q' })) (2 * j + 2) (some { joinD port ((2 * j + 1 : Nat) + 1) (inF j (2 * j + 2)) false with inn := (inF j (2 * j + 2)).drop 1 }) = turnS port many i (j + 1) q' true := by
  funext x
  by_cases e2 : x = 2 * j + 2
  · subst e2
    rw [updN_same, turnS_a _ _ _ _ _ _ j hj]
    simp [joinD, inF]
  · rw [updN_other _ _ _ _ e2]
    by_cases e0 : x = 0
    · subst e0; rw [updN_same]; rfl
    · rw [updN_other _ _ _ _ e0]
      unfold turnS
      rw [if_neg e0, if_neg e0]
      split
      · split
        · rfl
        · have : inF j x = inF (j + 1) x := by
            unfold inF
            by_cases h : x < 2 * j + 2
            · rw [if_pos h, if_pos (by omega)]
            · rw [if_neg h, if_neg (by omega)]
          rw [this]
      · rfl
end Go.Proofs.Ytnniicmpbcfinaa
