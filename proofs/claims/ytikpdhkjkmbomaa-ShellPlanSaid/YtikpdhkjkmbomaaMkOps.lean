/- The contracts of (*maker).least, shut, turn. -/
import Derived.Test.YtikpdhkjkmbomaaMkStep
namespace Go.Proofs.Ytikpdhkjkmbomaa
open Go.RowKit
set_option linter.unusedVariables false

def boolsV (bs : List Bool) : List Value := bs.map .bool
theorem cells_bools {w : World} {B n b off : Nat} {bs : List Bool} (h : Reads w B 1 (some ⟨b, off, none⟩) n (boolsV bs)) (k : Nat) (hk : k < n) : w.cell? ⟨b, off + k, none⟩ = some (.bool (bs.getD k false)) := by
  obtain ⟨ad, e, hlt, hc⟩ := h.2 (by omega)
  injection e with e
  subst e
  have hl : bs.length = n := by have := h.1; simpa [boolsV] using this
  have := hc k (.bool (bs.getD k false)) (by simp [boolsV, List.getD_eq_getElem?_getD, List.getElem?_eq_getElem (show k < bs.length by omega)])
  rwa [add_lit] at this
def IdxBRel (bs : List Bool) (v : Bool) (n : Nat) (i : Value) : Prop := ∃ k : Nat, k ≤ n ∧ i = .int .i64 k ∧ idxB v bs 0 = idxB v (bs.drop k) k
theorem idxB_at (bs : List Bool) (v : Bool) (k : Nat) (hk : k < bs.length) : idxB v (bs.drop k) k = if v = bs.getD k false then (k : Int) else idxB v (bs.drop (k + 1)) ((k + 1 : Nat) : Int) := by
  rw [List.drop_eq_getElem_cons hk]
  show (if v = bs[k] then (k : Int) else idxB v (bs.drop (k + 1)) ((k : Int) + 1)) = _
  simp [List.getD_eq_getElem?_getD, hk]
theorem index_bools (A : Option Addr) (n c B : Nat) (bs : List Bool) (v : Bool) (w : World) (hx : Reads w B 1 A n (boolsV bs)) (hn : n ≤ maxLen) :
    Calls Try.prog 16 #[.slice A n c, .bool v] w fun e w' => e = .returned (.int .i64 (idxB v bs 0)) ∧ w = w' := by
  unfold maxLen at hn
  have lx : bs.length = n := by have := hx.1; simpa [boolsV] using this
  have LX := hide lx
  have HX := hide hx
  clear lx hx
  go_enter Try.func16, Try.ntmps16
  go_wp2_with fail
  go_loop [8] (IdxBRel bs v n) (fun i => n - (intOf i).toNat)
  case atStart => exact ⟨0, Nat.zero_le _, rfl, rfl⟩
  case round =>
    obtain ⟨k, hk, rfl, hne⟩ := hrel
    by_cases hlt : k < n
    · obtain ⟨b, off, rfl, -, -⟩ := HX.out.at1 (by omega)
      have g1 : w.cell? ⟨b, off + k, none⟩ = some (.bool (bs.getD k false)) := cells_bools HX.out k hlt
      rw [idxB_at bs v k (by rw [LX.out]; exact hlt)] at hne
      generalize bs.getD k false = x at g1 hne
      by_cases he : v = x
      · have t1 : (v == x) = true := by simpa using he
        rw [if_pos he] at hne
        have HNE := hide hne
        clear he hne
        go_wp2_with fail
        go_ret
        exact ⟨by rw [HNE.out]; rfl, rfl⟩
      · have t1 : (v == x) = false := by simpa using he
        rw [if_neg he] at hne
        have HNE := hide hne
        clear hne
        go_wp2_with fail
        go_round
        case rel => exact ⟨k + 1, by omega, by go_num, HNE.out⟩
        case measure => simp [intOf]; omega
    · obtain rfl : k = n := by omega
      have HNE := hide hne
      clear hne
      go_wp2_with fail
      go_ret
      refine ⟨?_, rfl⟩
      rw [HNE.out, List.drop_eq_nil_of_le (by rw [LX.out]; exact Nat.le_refl _)]
      rfl
section
variable {w0 w w' : World} {gs gm : Nat} {T : Track} {L : List StepD} {m : MkD}
theorem maker_reads (h : Blk w gm 60 (makerC gs m)) : Reads w w.heap.size 1 (some ⟨gm, 2, none⟩) 8 (boolsV (listH m.hv)) := by
  refine ⟨rfl, fun _ => ⟨_, rfl, h.lt, fun j u hu => ?_⟩⟩
  rw [add_lit, h.cell]
  have hj : j < 8 := (List.getElem?_eq_some_iff.1 hu).1
  rw [makerC_at j hj, ← hu]
  have : j = 0 ∨ j = 1 ∨ j = 2 ∨ j = 3 ∨ j = 4 ∨ j = 5 ∨ j = 6 ∨ j = 7 := by omega
  rcases this with rfl | rfl | rfl | rfl | rfl | rfl | rfl | rfl <;> rfl
end
set_option maxHeartbeats 8000000 in
set_option maxRecDepth 100000 in
theorem least_any (w0 : World) (gs gm : Nat) (T : Track) (m : MkD) (w : World) (h : MkAt w0 gs gm T m w) :
    Calls Try.prog 11 #[.pointer (some ⟨gm, 0, none⟩)] w fun r w' => r = .returned (.int .i64 (freeI m.hv)) ∧ MkAt w0 gs gm T (leastM m) w' := by
  obtain ⟨hbm, hne, hlo⟩ := h.maker
  have HI := hide (index_bools (some ⟨gm, 2, none⟩) 8 8 _ (listH m.hv) false w (maker_reads hbm) (by simp [maxLen]))
  have HM := hide h
  obtain ⟨hf1, hf2⟩ := freeI_ge m.hv
  have hfr : ∀ i, w.frozen? ⟨gm, i, none⟩ = false := fun i => hbm.frozen i
  have hcl : ∀ i, i < 8 → w.cell? ⟨gm, 2 + i, none⟩ = some (.bool (m.hv i)) := fun i hi => by rw [hbm.cell, makerC_at i hi]
  have HL := hide (show leastM m = if 0 ≤ freeI m.hv then { m with hv := updN m.hv (freeI m.hv).toNat true } else m from rfl)
  have HQ := hide (show idxB false (listH m.hv) 0 = freeI m.hv from rfl)
  generalize freeI m.hv = z at *
  clear h hbm
  go_enter Try.func11, Try.ntmps11
  go_wp2_with fail
  refine HI.out.mono ?_
  rintro r w1 ⟨rfl, rfl⟩
  rw [HQ.out]
  by_cases hz : 0 ≤ z
  · obtain ⟨n, rfl⟩ : ∃ n : Nat, z = (n : Int) := ⟨z.toNat, (Int.toNat_of_nonneg hz).symm⟩
    have hn8 : n < 8 := by omega
    have hc := hcl n hn8
    have HU := hide (HM.out.mark n hn8 true)
    rw [if_pos hz] at HL
    clear hcl
    go_wp2_with fail
    go_ret
    exact ⟨rfl, by rw [HL.out, Int.toNat_natCast]; exact HU.out⟩
  · rw [if_neg hz] at HL
    go_wp2_with fail
    go_ret
    exact ⟨rfl, by rw [HL.out]; exact HM.out⟩
set_option maxHeartbeats 8000000 in
set_option maxRecDepth 100000 in
theorem shut_any (w0 : World) (gs gm : Nat) (T : Track) (m : MkD) (w : World) (h : MkAt w0 gs gm T m w) (hl : m.steps.length ≤ 900) (n : Int) (h1 : -1 ≤ n) (h8 : n < 8) :
    Calls Try.prog 13 #[.pointer (some ⟨gm, 0, none⟩), .int .i64 n] w fun r w' => r = .returned (.tuple #[]) ∧ MkAt w0 gs gm T (shutM m n) w' := by
  obtain ⟨hbm, hne, hlo⟩ := h.maker
  have HM := hide h
  have hcl : ∀ i, i < 8 → w.cell? ⟨gm, 2 + i, none⟩ = some (.bool (m.hv i)) := fun i hi => by rw [hbm.cell, makerC_at i hi]
  have HL := hide (show shutM m n = if 0 ≤ n ∧ m.hv n.toNat = true then { (stepM m ⟨6, n, 0, 0, []⟩) with hv := updN m.hv n.toNat false } else m from rfl)
  clear h hbm
  by_cases hz : 0 ≤ n
  · obtain ⟨k, rfl⟩ : ∃ k : Nat, n = (k : Int) := ⟨n.toNat, (Int.toNat_of_nonneg hz).symm⟩
    have hn8 : k < 8 := by omega
    have hc := hcl k hn8
    rw [Int.toNat_natCast] at HL
    clear hcl
    cases hk : m.hv k
    · rw [if_neg (fun e => by have := e.2; rw [hk] at this; cases this)] at HL
      rw [hk] at hc
      go_enter Try.func13, Try.ntmps13
      go_wp2_with fail
      (first | go_end0 | ((try simp only [Exit.inBlock, Exit.then]); refine bodyPost_ret (results_none rfl _ _ _) rfl ?_))
      exact ⟨rfl, by rw [HL.out]; exact HM.out⟩
    · rw [if_pos ⟨hz, hk⟩] at HL
      rw [hk] at hc
      go_enter Try.func13, Try.ntmps13
      go_wp2_with fail
      refine (step_any w0 gs gm T m w HM.out hl 6 k 0 0 []).mono ?_
      rintro r w1 ⟨rfl, hm1⟩
      have hbm := hm1.maker.1
      have hfr : w1.frozen? ⟨gm, 2 + k, none⟩ = false := hbm.frozen _
      have hc1 : w1.cell? ⟨gm, 2 + k, none⟩ = some (.bool (m.hv k)) := by rw [hbm.cell]; exact makerC_at (m := stepM m ⟨6, k, 0, 0, []⟩) k hn8
      have HU := hide (hm1.mark k hn8 false)
      clear hm1 hbm hc
      go_wp2_with fail
      (first | go_end0 | ((try simp only [Exit.inBlock, Exit.then]); refine bodyPost_ret (results_none rfl _ _ _) rfl ?_))
      exact ⟨rfl, by rw [HL.out]; exact HU.out⟩
  · rw [if_neg (fun e => hz e.1)] at HL
    go_enter Try.func13, Try.ntmps13
    go_wp2_with fail
    (first | go_end0 | ((try simp only [Exit.inBlock, Exit.then]); refine bodyPost_ret (results_none rfl _ _ _) rfl ?_))
    exact ⟨rfl, by rw [HL.out]; exact HM.out⟩
set_option maxHeartbeats 8000000 in
set_option maxRecDepth 100000 in
theorem turn_any (w0 : World) (gs gm : Nat) (T : Track) (m : MkD) (w : World) (h : MkAt w0 gs gm T m w) (hl : m.steps.length ≤ 800) (x : Int) (y : Nat) (h1 : -1 ≤ x) (h8 : x < 8) (hy : y < 8) :
    Calls Try.prog 17 #[.pointer (some ⟨gm, 0, none⟩), .int .i64 x, .int .i64 y] w fun r w' => r = .returned (.tuple #[]) ∧ MkAt w0 gs gm T (turnM m x y) w' := by
  have HM := hide h
  have HL := hide (show turnM m x y = if x < 0 ∨ x = (y : Int) then m else shutM { (stepM m ⟨11, x, y, 0, []⟩) with hv := updN m.hv y true } x from rfl)
  clear h
  by_cases hz : x < 0
  · rw [if_pos (.inl hz)] at HL
    go_enter Try.func17, Try.ntmps17
    go_wp2_with fail
    (first | go_end0 | ((try simp only [Exit.inBlock, Exit.then]); refine bodyPost_ret (results_none rfl _ _ _) rfl ?_))
    exact ⟨rfl, by rw [HL.out]; exact HM.out⟩
  by_cases he : x = (y : Int)
  · rw [if_pos (.inr he)] at HL
    subst he
    go_enter Try.func17, Try.ntmps17
    go_wp2_with fail
    (first | go_end0 | ((try simp only [Exit.inBlock, Exit.then]); refine bodyPost_ret (results_none rfl _ _ _) rfl ?_))
    exact ⟨rfl, by rw [HL.out]; exact HM.out⟩
  rw [if_neg (fun e => e.elim hz he)] at HL
  go_enter Try.func17, Try.ntmps17
  go_wp2_with fail
  refine (step_any w0 gs gm T m w HM.out (by omega) 11 x y 0 []).mono ?_
  rintro r w1 ⟨rfl, hm1⟩
  have hbm := hm1.maker.1
  have hfr : w1.frozen? ⟨gm, 2 + y, none⟩ = false := hbm.frozen _
  have hc1 : w1.cell? ⟨gm, 2 + y, none⟩ = some (.bool (m.hv y)) := by rw [hbm.cell]; exact makerC_at (m := stepM m ⟨11, x, y, 0, []⟩) y hy
  have HU := hide (hm1.mark y hy true)
  clear hm1 hbm
  go_wp2_with fail
  refine (shut_any w0 gs gm T { (stepM m ⟨11, x, y, 0, []⟩) with hv := updN m.hv y true } _ HU.out (by show (stepM m _).steps.length ≤ 900; rw [step_len]; omega) x h1 h8).mono ?_
  rintro r w2 ⟨rfl, hm2⟩
  have HM2 := hide hm2
  clear hm2
  go_wp2_with fail
  (first | go_end0 | ((try simp only [Exit.inBlock, Exit.then]); refine bodyPost_ret (results_none rfl _ _ _) rfl ?_))
  exact ⟨rfl, by rw [HL.out]; exact HM2.out⟩
end Go.Proofs.Ytikpdhkjkmbomaa
