/- What Drop leans on: a search that finds nothing, a socket that goes. -/
import Derived.Test.YtnniicmpbcfinaaSockIO
namespace Go.Proofs.Ytnniicmpbcfinaa
open Go.RowKit
set_option linter.unusedVariables false

section
variable {w0 w w' : World} {gs : Nat} {S : Nat → Option SkD} {M : Nat → MemS}
/-- A socket is taken off the table. -/
theorem SkAt.del (h : SkAt w0 gs S M w) (i : Nat) (hi : i < 16) : SkAt w0 gs (updN S i none) M (w.setCell ⟨gs, i, none⟩ (.pointer none)) := by
  obtain ⟨cs, hT⟩ := h.blkT
  have hg := grown_set (World.grownBy.refl w (some gs)) i (.pointer none)
  have oth : ∀ j e, updN S i none j = some e → S j = some e := fun j e he => by
    unfold updN at he
    split at he
    · cases he
    · exact he
  refine ⟨(h.tab.set i hi _).congr (fun o ho => ?_), ?_, ?_, ?_, ?_, ?_, ?_, ?_, h.gsb, ?_, ?_⟩
  · by_cases e : o = i
    · subst e; simp [ptrS, updN]
    · simp [ptrS, updN, e]
  · intro j hj
    rw [updN_other _ _ _ _ (by omega)]
    exact h.far j hj
  · intro j e he
    have hbj := h.box j e (oth j e he)
    exact hbj.grown hg (fun e' => by injection e' with e'; exact Blk.ne_ hbj hT (by decide) e')
  · intro j e he
    have hqj := h.q j e (oth j e he)
    exact own_of_keep hqj (fun k' hv => hg.block k' (hqj.lt k' hv).2 (fun e' => own_blk_ne hqj hT (by decide) (by rw [hv, e'])))
  · intro j e he
    have hqj := h.inn j e (oth j e he)
    exact own_of_keep hqj (fun k' hv => hg.block k' (hqj.lt k' hv).2 (fun e' => own_blk_ne hqj hT (by decide) (by rw [hv, e'])))
  · intro j l e e' he he'
    exact h.bi j l e e' (oth j e he) (oth l e' he')
  · intro j l e e' k he he'
    exact h.qi j l e e' k (oth j e he) (oth l e' he')
  · intro j l e e' k he he'
    exact h.ii j l e e' k (oth j e he) (oth l e' he')
  · intro j e he
    exact h.bb j e (oth j e he)
  · exact h.ext.grown hg (fun j hj => by injection hj with hj; have := h.gsb; omega)
end
/-- Only the table and the sockets' boxes may be other ones, and new blocks. -/
def DK (gs : Nat) (S : Nat → Option SkD) (M : Nat → MemS) (w w' : World) : Prop :=
  w.heap.size ≤ w'.heap.size ∧ ∀ k, k < w.heap.size → k ≠ gs → (∀ i, (S i).isSome = true → k ≠ (M i).b) → w'.heap[k]? = w.heap[k]?
theorem DK.refl (gs : Nat) (S : Nat → Option SkD) (M : Nat → MemS) (w : World) : DK gs S M w w := ⟨Nat.le_refl _, fun _ _ _ _ => rfl⟩
theorem DK.trans {gs : Nat} {S : Nat → Option SkD} {M : Nat → MemS} {a b c : World} (h : DK gs S M a b) (k : DK gs S M b c) : DK gs S M a c :=
  ⟨Nat.le_trans h.1 k.1, fun x h1 h2 h3 => (k.2 x (Nat.lt_of_lt_of_le h1 h.1) h2 h3).trans (h.2 x h1 h2 h3)⟩
theorem DK.ext {gs : Nat} {S : Nat → Option SkD} {M : Nat → MemS} {a b : World} (h : Ext a b) : DK gs S M a b := ⟨h.size, fun k hk _ _ => h.block k hk⟩
theorem DK.grown {gs : Nat} {S : Nat → Option SkD} {M : Nat → MemS} {a b : World} {i : Nat} (h : a.grownBy b (some (M i).b)) (hs : (S i).isSome = true) : DK gs S M a b := ⟨h.size, fun k hk _ h3 => h.block k hk (fun e => h3 i hs (by injection e))⟩
theorem DK.tab {gs : Nat} {S : Nat → Option SkD} {M : Nat → MemS} {a b : World} (h : a.grownBy b (some gs)) : DK gs S M a b := ⟨h.size, fun k hk h2 _ => h.block k hk (fun e => h2 (by injection e))⟩
theorem DK.of {gs : Nat} {S S' : Nat → Option SkD} {M M' : Nat → MemS} {a b : World} (h : DK gs S' M' a b) (hs : ∀ i, (S' i).isSome = true → (S i).isSome = true) (hm : ∀ i, (M' i).b = (M i).b) : DK gs S M a b :=
  ⟨h.1, fun k h1 h2 h3 => h.2 k h1 h2 (fun i hi => by rw [hm i]; exact h3 i (hs i hi))⟩

theorem gone_lone {w0 : World} {gs : Nat} {S : Nat → Option SkD} {M : Nat → MemS} (i : Nat) (d : SkD) (w : World) (h : SkAt w0 gs S M w) (hi : i < 16) (hS : S i = some d) (hp : d.peer = 0) :
    Calls Try.prog 30 #[.pointer (some ⟨gs, 0, none⟩), .int .i64 ((i : Int) + 1)] w fun e w' => e = .returned (.tuple #[]) ∧ SkAt w0 gs (updN S i none) M w' ∧ DK gs S M w w' := by
  have HD := hide (h.del i hi)
  have HK := hide (DK.tab (S := S) (M := M) (grown_set (World.grownBy.refl w (some gs)) i (.pointer none)))
  have hc : w.cell? ⟨gs, i, none⟩ = some (ptrS S M i) := h.tab.cell i hi
  simp only [ptrS, hS, Option.isSome_some, if_true] at hc
  have hb := h.box i d hS
  have c4 : w.cell? ⟨(M i).b, 4, none⟩ = some (.int .i64 d.peer) := hb.cell 4
  rw [hp] at c4
  have f0 := h.tab.frozen i
  have h0 : (0 : Int) ≤ (i : Int) := by omega
  have h1 : (i : Int) < 16 := by omega
  generalize (M i).b = bi at *
  clear h hb hp hS
  go_enter Try.func30, Try.ntmps30
  go_wp2_with fail
  refine (find_zero gs w).mono ?_
  rintro e w' ⟨rfl, rfl⟩
  go_wp2_with fail
  (first | go_end0 | ((try simp only [Exit.inBlock, Exit.then]); refine bodyPost_ret (results_none rfl _ _ _) rfl ?_))
  exact ⟨rfl, HD.out, HK.out⟩
theorem gone_pair {w0 : World} {gs : Nat} {S : Nat → Option SkD} {M : Nat → MemS} (i j : Nat) (d dj : SkD) (w : World) (h : SkAt w0 gs S M w) (hi : i < 16) (hS : S i = some d) (hj : j < 16) (hp : d.peer = (j : Int) + 1) (hSj : S j = some dj) :
    Calls Try.prog 30 #[.pointer (some ⟨gs, 0, none⟩), .int .i64 ((i : Int) + 1)] w fun e w' => e = .returned (.tuple #[]) ∧ SkAt w0 gs (updN (updN S j (some { dj with peer := 0 })) i none) M w' ∧ DK gs S M w w' := by
  have hbj := h.box j dj hSj
  have hg1 := grown_set (World.grownBy.refl w (some (M j).b)) 4 (.int .i64 0)
  have h1 := h.cells (w' := w.setCell ⟨(M j).b, 4, none⟩ (.int .i64 0)) j dj { dj with peer := 0 } hSj hg1 (hbj.set_ 4 _) rfl rfl
  have HD := hide (h1.del i hi)
  have HK := hide ((DK.grown (gs := gs) (S := S) (M := M) hg1 (by simp [hSj])).trans (DK.tab (S := S) (M := M) (grown_set (World.grownBy.refl (w.setCell ⟨(M j).b, 4, none⟩ (.int .i64 0)) (some gs)) i (.pointer none))))
  have hc : w.cell? ⟨gs, i, none⟩ = some (ptrS S M i) := h.tab.cell i hi
  have hc' : (w.setCell ⟨(M j).b, 4, none⟩ (.int .i64 0)).cell? ⟨gs, i, none⟩ = some (ptrS (updN S j (some { dj with peer := 0 })) M i) := h1.tab.cell i hi
  simp only [ptrS, hS, Option.isSome_some, if_true] at hc
  have hb := h.box i d hS
  have c4 : w.cell? ⟨(M i).b, 4, none⟩ = some (.int .i64 d.peer) := hb.cell 4
  have e4 : w.cell? ⟨(M j).b, 4, none⟩ = some (.int .i64 dj.peer) := hbj.cell 4
  rw [hp] at c4
  have f0 := h1.tab.frozen i
  have f4 := hbj.frozen 4
  have HF := hide (find_at j w h hj)
  simp only [ptrS, hSj, Option.isSome_some, if_true] at HF
  have h0 : (0 : Int) ≤ (i : Int) := by omega
  have h1' : (i : Int) < 16 := by omega
  generalize ptrS (updN S j (some { dj with peer := 0 })) M i = pv at *
  generalize (M i).b = bi at *
  generalize (M j).b = bj at *
  clear h hb hp hS hSj h1 hbj hg1
  go_enter Try.func30, Try.ntmps30
  go_wp2_with fail
  refine HF.out.mono ?_
  rintro e w' ⟨rfl, rfl⟩
  go_wp2_with fail
  (first | go_end0 | ((try simp only [Exit.inBlock, Exit.then]); refine bodyPost_ret (results_none rfl _ _ _) rfl ?_))
  exact ⟨rfl, HD.out, HK.out⟩

theorem drop1_at (x y : Int) (p : Addr) (w : World) (hc : w.cell? p = some (.int .i64 y)) :
    Calls Try.prog 29 #[.int .i64 x, .pointer (some p)] w fun e w' => e = .returned (.bool (decide (x = y))) ∧ w = w' := by
  go_enter Try.func29, Try.ntmps29
  go_wp2_with fail
  go_ret
  exact ⟨rfl, rfl⟩
theorem idx_none (A : Option Addr) (n c B : Nat) (xs : List Int) (y : Int) (p : Addr) (w : World) (hr : Reads w B 1 A n (intsV xs)) (hc : w.cell? p = some (.int .i64 y)) (hno : y ∉ xs) (hn : n ≤ 1000000) :
    Calls Try.prog 31 #[.slice A n c, .func (.func 29) #[] #[.pointer (some p)]] w fun e w' => e = .returned (.int .i64 (-1)) ∧ w = w' := by
  have HR := hide hr
  have HC := hide hc
  have HNO := hide hno
  have HL := hide (show xs.length = n by have := hr.1; rw [intsV_length] at this; omega)
  clear hr hc hno
  go_enter Try.func31, Try.ntmps31
  go_wp2_with fail
  go_loop [8] (fun m => ∃ k : Nat, k ≤ n ∧ m = .int .i64 k) (fun m => n - (intOf m).toNat)
  case atStart => exact ⟨0, Nat.zero_le _, rfl⟩
  case round =>
    obtain ⟨k, hk, rfl⟩ := hrel
    by_cases hlt : k < n
    · obtain ⟨b, off, rfl, -, -⟩ := HR.out.at1 (by omega)
      have ck := cells_ints HR.out k hlt
      have HN := hide (show ¬ (xs.getD k 0 = y) by
        intro e
        apply HNO.out
        rw [← e, List.getD_eq_getElem?_getD, List.getElem?_eq_getElem (by rw [HL.out]; exact hlt)]
        exact List.getElem_mem _)
      generalize xs.getD k 0 = x at *
      go_wp2_with fail
      refine (drop1_at x y p w HC.out).mono ?_
      rintro e w' ⟨rfl, rfl⟩
      rw [decide_eq_false HN.out]
      go_wp2_with fail
      go_round
      case rel => exact ⟨k + 1, by omega, by go_num⟩
      case measure => simp [intOf]; omega
    · obtain rfl : n = k := by omega
      go_wp2_with fail
      go_ret
      exact ⟨rfl, rfl⟩
theorem del_none (A : Option Addr) (n c B : Nat) (xs : List Int) (y : Int) (p : Addr) (w : World) (hr : Reads w B 1 A n (intsV xs)) (hc : w.cell? p = some (.int .i64 y)) (hno : y ∉ xs) (hn : n ≤ 1000000) :
    Calls Try.prog 28 #[.slice A n c, .func (.func 29) #[] #[.pointer (some p)]] w fun e w' => e = .returned (.slice A n c) ∧ w = w' := by
  have HI := hide (idx_none A n c B xs y p w hr hc hno hn)
  clear hr hc hno hn
  go_enter Try.func28, Try.ntmps28
  go_wp2_with fail
  refine HI.out.mono ?_
  rintro e w' ⟨rfl, rfl⟩
  go_wp2_with fail
  go_ret
  exact ⟨rfl, rfl⟩
end Go.Proofs.Ytnniicmpbcfinaa
