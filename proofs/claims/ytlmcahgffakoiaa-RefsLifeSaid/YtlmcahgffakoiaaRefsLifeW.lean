/- The walk of RefsLife. Printed by gen_life.py. -/
import Derived.Test.YtlmcahgffakoiaaRefsWrong
import Derived.Test.YtlmcahgffakoiaaLifePlain
import Derived.Test.YtlmcahgffakoiaaMapO
import Derived.Test.YtlmcahgffakoiaaRest
import Derived.Deep.CutBlock
import Derived.Deep.LoopGhost
namespace Go.Proofs.Ytlmcahgffakoiaa
open Go.RowKit
set_option linter.unusedVariables false

theorem own_keptB {w w' : World} {base size n : Nat} {e : TypeId} {v : Value} {xs : List Value} {row : Option Nat} (h : w.ownsRow base e size v n xs) (hg : w.grownBy w' row) (hne : ∀ j, v.ownBlock = some j → row ≠ some j) : w'.ownsRow base e size v n xs :=
  h.kept hg (by
    cases hv : v.ownBlock with
    | none => simp
    | some j => exact .inr (fun e => hne j hv e.symm))
theorem rclone_any (A : Option Addr) (n c B : Nat) (xs : List Value) (w : World) (hr : Reads w B 4 A n xs) (h1 : ∀ u ∈ xs, u.oneCell' = true) (hB : B ≤ w.heap.size) (hn : n ≤ 1000000) (hA : A = none → n = 0) :
    Calls Try.prog 14 #[.slice A n c] w fun e w' => ∃ A' c', e = .returned (.slice A' n c') ∧ w'.ownsRow w.heap.size 27 4 (.slice A' n c') n xs ∧ Ext w w' := by
  obtain ⟨i0, hi0, hz0, hz1, hz2⟩ := info_parts rec_info
  have q : ∀ (w : World) (a : Option Addr) (n c n' c' : Nat), (binOp .eql 23 (.slice a n c) (.slice none n' c')).run Try.prog w = .ok (.bool a.isNone) w := fun w a n c n' c' => Lib.run_eql_slice_nil w _ _ a n c n' c' Try.underlying23
  rcases A with _ | ad
  · obtain rfl := hA rfl
    have hx : xs = [] := List.eq_nil_of_length_eq_zero (by simpa using hr.1)
    subst hx
    go_enter Try.func14, Try.ntmps14
    go_wp2
    go_ret
    exact ⟨_, _, rfl, World.ownsRow_nil _ _ _ _, Ext.refl _⟩
  · have hr' := hr.alloc hB (.cells #[] 27)
    have HR := hide hr'
    clear hr hr' hA
    go_enter Try.func14, Try.ntmps14
    go_wp2_with (at_builtin; refine wpList_append_any _ rfl (.tmp 5) (.tmp 6) _ rfl w.heap.size 27 i0 _ 4 32 Try.underlying23 hi0 hz0 hz1 hz2 rfl (by omega) _ 0 [] rfl (World.ownsRow_made w #[] 0 (Nat.le_refl _) (Nat.zero_le _) rfl) B (some ad) n c xs rfl HR.out h1 (by simp only [maxLen]; omega) (by omega) (by simp) ?_; intro A1 c1 w1 hown1 hg1 hat1)
    go_ret
    refine ⟨A1, c1, by simp, by simpa using hown1, ?_⟩
    exact ((Ext.refl w).alloc _).grown hg1 (fun k hk => by injection hk with hk; subst hk; exact Nat.le_refl _)


def restM (n k : Int) : Nat := (restZ n k).toNat
theorem restM_lt (n k : Int) (hk : 0 < k) : (restM n k : Int) < k := by
  have h1 := restZ_lo n k (by omega)
  have h2 := restZ_hi n k (by omega)
  unfold restM
  omega
theorem rest_m (n k : Int) (w : World) (hn : -9223372036854775808 ≤ n) (hn' : n ≤ 9223372036854775807) (hk : 0 < k) (hk' : k ≤ 9223372036854775807) :
    Calls Try.prog 6 #[.int .i64 n, .int .i64 k] w fun e w' => e = .returned (.int .i64 (restM n k : Nat)) ∧ w = w' :=
  (rest_any n k w hn hn' hk hk').mono fun e w' ⟨he, hw⟩ => ⟨by rw [he]; exact ret_int (by have := restZ_lo n k hk; unfold restM; omega), hw⟩
/-- Behind so many of the numbers: the records, the map. -/
def LifeAt (w : World) (m : Nat) (x : Value) (wr : World) : Prop :=
  ∃ (ys : List RecD) (f : Nat → Option Int) (s : Nat) (A : Option Addr) (c : Nat), x = .slice A m c ∧ ys.length = m ∧ m ≤ 40 ∧ LifeInv ys f ∧ s = (setL (isM f) 64).length ∧ MapO wr w.heap.size m f s ∧
    wr.ownsRow (w.heap.size + 1) 27 4 (.slice A m c) m (recsV ys) ∧ Ext w wr ∧ w.heap.size < wr.heap.size
def LifeRel (w : World) (n gk : Nat) (x i : Value) (wr : World) : Prop := ∃ k : Nat, k ≤ n ∧ k ≤ 40 ∧ i = .int .i64 k ∧ gk = n - k ∧ LifeAt w k x wr
def LifeCut (w : World) (x : Value) (wr : World) : Prop := ∃ m, LifeAt w m x wr
def LifeEnd (w : World) (n : Nat) (i : Value) (wr : World) : Prop := ∃ k : Nat, k ≤ n ∧ i = .int .i64 k ∧ Ext w wr

set_option maxHeartbeats 8000000 in
set_option maxRecDepth 100000 in
theorem life_walk (l : List Int) (fitl : ∀ z ∈ l, -9223372036854775808 ≤ z ∧ z ≤ 9223372036854775807) (A : Option Addr) (n c : Nat) (w : World) (hr : Reads w w.heap.size 1 A n (intsV l)) (hnc : n ≤ c) (hc : c ≤ maxLen) :
    Calls Try.prog 5 #[.slice A n c] w fun e w' => e = .returned (.bool true) ∧ Ext w w' := by
  obtain ⟨i0, hi0, hz0, hz1, hz2⟩ := info_parts rec_info
  have hmm := @run_makeMap Try.prog
  unfold maxLen at hc
  have HN := hide (show l.length = n by have := hr.1; rw [intsV_length] at this; omega)
  have HR := hide hr
  have HF := hide fitl
  clear hr fitl
  go_enter Try.func5, Try.ntmps5
  go_upto_block 0 with fail
  clear hmm
  have HM0 := hide (MapO.made w)
  have HX0 := hide ((Ext.refl w).alloc (.map #[] 0))
  go_cut [3] (LifeCut w)
  case first =>
    go_wp2_with fail
    go_loopg [3, 24] n (LifeRel w n)
    case atStart => exact ⟨0, Nat.zero_le _, Nat.zero_le _, rfl, rfl, [], _, 0, none, 0, rfl, rfl, Nat.zero_le _, LifeInv.start, rfl, HM0.out, World.ownsRow_nil _ _ _ _, HX0.out, by simp⟩
    case round =>
      obtain ⟨k, hk, hk40, rfl, hgk, ys, f, s, A1, c1, rfl, hlen, -, hinv, hs, hmap, ho, hx, hsz⟩ := hrel
      have HGK := hide hgk
      have HLEN := hide hlen
      have HI := hide hinv
      have HS := hide hs
      have HM := hide hmap
      have HO := hide ho
      have HX := hide hx
      clear hgk hlen hinv hs hmap ho hx HM0 HX0
      by_cases hlt : k < n
      · obtain ⟨b, off, rfl, -, -⟩ := HR.out.at1 (by omega)
        have hkl : k < l.length := by rw [HN.out]; exact hlt
        have g1 : wr.cell? ⟨b, off + k, none⟩ = some (.int .i64 (l.getD k 0)) := cells_ints (HX.out.reads HR.out (Nat.le_refl _)) k hlt
        have hg : l.getD k 0 = l[k] := by simp [List.getD_eq_getElem?_getD, hkl]
        rw [hg] at g1
        have f1 := HF.out l[k] (List.getElem_mem hkl)
        have F1 := hide f1
        clear hg f1
        generalize l[k] = z at *
        by_cases h40 : k < 40
        · have hoi := restM_lt z 5 (by omega)
          go_wp2_with fail
          refine (rest_m z 5 _ F1.out.1 F1.out.2 (by omega) (by omega)).mono ?_
          rintro e w' ⟨rfl, rfl⟩
          generalize restM z 5 = o at *
          have ho5 : o < 5 := by omega
          clear hoi
          have hlk := HM.out.look o (by omega)
          cases hfo : f o with
          | none =>
            have HFO := hide hfo
            rw [hfo] at hlk
            simp only [Option.getD_none, Option.isSome_none] at hlk
            clear hfo
            obtain ⟨W3, hrun, hm3, hg3⟩ := HM.out.store (by simp only [maxLen]; omega) o (by omega) (1) (by omega) (by omega)
            have HO3 := hide (own_keptB HO.out hg3 (fun j hv e => by injection e with e; have := (HO.out.lt j hv).1; omega))
            have HX3 := hide (HX.out.grown hg3 (fun j hj => by injection hj with hj; omega))
            have hs3 : w.heap.size < W3.heap.size := by have := hg3.size; omega
            have HM3 := hide hm3
            have HC3 := hide (count_put (v := 1) HS.out (show o < 64 by omega))
            clear hm3 hg3
            have HO4 := HO3
            have HX4 := HX3
            have HM4 := HM3
            have HC4 := HC3
            have hs4 := hs3
            have HI4 := hide (HI.out.next o ho5 5 (some 1) (.inl ⟨HFO.out, rfl, rfl⟩))
            have HB5 := hide (Blk.new W3 27 #[.int .i64 5, .int .i64 0, .int .i64 1, .int .i64 (o : Int)])
            go_wp2_with (at_builtin; refine wpList_append_any _ rfl (.tmp 63) (.tmp 67) 23 rfl (w.heap.size + 1) 27 i0 _ 4 32 Try.underlying23 hi0 hz0 hz1 hz2 rfl (by omega) _ k (recsV ys) rfl (HO4.out.alloc _) _ _ 1 1 [.int .i64 5, .int .i64 0, .int .i64 1, .int .i64 (o : Int)] rfl HB5.out.reads4 (by simp [Value.oneCell']) (by simp only [maxLen]; omega) (by omega) (by simp; omega) ?_; intro A5 c5 w5 ho5' hg5 ha5)
            have HO5 := hide (show w5.ownsRow (w.heap.size + 1) 27 4 (.slice A5 (k + 1) c5) (k + 1) (recsV (ys ++ [(⟨5, 0, 1, o⟩ : RecD)])) by rw [recsV_append]; exact ho5')
            have HM5 := hide ((HM4.out.alloc (recBox 5 0 1 o)).kept hg5 (fun e => by have := (HO4.out.lt _ e.symm).1; omega))
            have HX5 := hide ((HX4.out.alloc (recBox 5 0 1 o)).grown hg5 (fun j hj => by have := (HO4.out.lt j hj).1; omega))
            have hs5 : w.heap.size < w5.heap.size := by have := hg5.size; simp at this; omega
            clear ho5' hg5 ha5 hrun
            go_roundg (n - (k + 1))
            case measure => have := HGK.out; omega
            case rel => exact ⟨k + 1, by omega, by omega, by go_num, rfl, _, _, _, A5, c5, rfl, by simp [HLEN.out], by omega, HI4.out, HC4.out, HM5.out.mono (by omega), HO5.out, HX5.out, hs5⟩
          | some q =>
            have HFO := hide hfo
            rw [hfo] at hlk
            simp only [Option.getD_some, Option.isSome_some] at hlk
            obtain ⟨hq1, hq2, -, -⟩ := HI.out.val o q hfo
            have hq3 : q ≤ 40 := by have := HLEN.out; omega
            clear hfo hq2
            by_cases hqm : q = -1
            · subst hqm
              obtain ⟨W3, hrun, hm3, hg3⟩ := HM.out.store (by simp only [maxLen]; omega) o (by omega) (-1) (by omega) (by omega)
              have HO3 := hide (own_keptB HO.out hg3 (fun j hv e => by injection e with e; have := (HO.out.lt j hv).1; omega))
              have HX3 := hide (HX.out.grown hg3 (fun j hj => by injection hj with hj; omega))
              have hs3 : w.heap.size < W3.heap.size := by have := hg3.size; omega
              have HM3 := hide hm3
              have HC3 := hide (count_put (v := -1) HS.out (show o < 64 by omega))
              clear hm3 hg3
              obtain ⟨W4, hrun4, hm4, hg4⟩ := HM3.out.drop o (by omega) 0
              have HO4 := hide (own_keptB HO3.out hg4 (fun j hv e => by injection e with e; have := (HO3.out.lt j hv).1; omega))
              have HX4 := hide (HX3.out.grown hg4 (fun j hj => by injection hj with hj; omega))
              have hs4 : w.heap.size < W4.heap.size := by have := hg4.size; omega
              have HUP := hide (show updN (updN f o (some (-1))) o none = updN f o none by funext x; unfold updN; split <;> rfl)
              have HC4 := hide (count_del HC3.out (show o < 64 by omega))
              rw [HUP.out] at hm4 HC4
              have HM4 := hide hm4
              clear hm4 hg4
              have HI4 := hide (HI.out.next o ho5 9 (none) (.inr (.inl ⟨HFO.out, rfl, rfl⟩)))
              have HB5 := hide (Blk.new W4 27 #[.int .i64 9, .int .i64 0, .int .i64 1, .int .i64 (o : Int)])
              go_wp2_with (at_builtin; refine wpList_append_any _ rfl (.tmp 63) (.tmp 67) 23 rfl (w.heap.size + 1) 27 i0 _ 4 32 Try.underlying23 hi0 hz0 hz1 hz2 rfl (by omega) _ k (recsV ys) rfl (HO4.out.alloc _) _ _ 1 1 [.int .i64 9, .int .i64 0, .int .i64 1, .int .i64 (o : Int)] rfl HB5.out.reads4 (by simp [Value.oneCell']) (by simp only [maxLen]; omega) (by omega) (by simp; omega) ?_; intro A5 c5 w5 ho5' hg5 ha5)
              have HO5 := hide (show w5.ownsRow (w.heap.size + 1) 27 4 (.slice A5 (k + 1) c5) (k + 1) (recsV (ys ++ [(⟨9, 0, 1, o⟩ : RecD)])) by rw [recsV_append]; exact ho5')
              have HM5 := hide ((HM4.out.alloc (recBox 9 0 1 o)).kept hg5 (fun e => by have := (HO4.out.lt _ e.symm).1; omega))
              have HX5 := hide ((HX4.out.alloc (recBox 9 0 1 o)).grown hg5 (fun j hj => by have := (HO4.out.lt j hj).1; omega))
              have hs5 : w.heap.size < w5.heap.size := by have := hg5.size; simp at this; omega
              clear ho5' hg5 ha5 hrun
              go_roundg (n - (k + 1))
              case measure => have := HGK.out; omega
              case rel => exact ⟨k + 1, by omega, by omega, by go_num, rfl, _, _, _, A5, c5, rfl, by simp [HLEN.out], by omega, HI4.out, HC4.out, HM5.out.mono (by omega), HO5.out, HX5.out, hs5⟩
            have tm : (q == -1) = false := by simpa using hqm
            by_cases hq0 : q = 0
            · subst hq0
              obtain ⟨W3, hrun, hm3, hg3⟩ := HM.out.store (by simp only [maxLen]; omega) o (by omega) (-1) (by omega) (by omega)
              have HO3 := hide (own_keptB HO.out hg3 (fun j hv e => by injection e with e; have := (HO.out.lt j hv).1; omega))
              have HX3 := hide (HX.out.grown hg3 (fun j hj => by injection hj with hj; omega))
              have hs3 : w.heap.size < W3.heap.size := by have := hg3.size; omega
              have HM3 := hide hm3
              have HC3 := hide (count_put (v := -1) HS.out (show o < 64 by omega))
              clear hm3 hg3
              have HO4 := HO3
              have HX4 := HX3
              have HM4 := HM3
              have HC4 := HC3
              have hs4 := hs3
              have HI4 := hide (HI.out.next o ho5 8 (some (-1)) (.inr (.inr (.inl ⟨HFO.out, rfl, rfl⟩))))
              have HB5 := hide (Blk.new W3 27 #[.int .i64 8, .int .i64 0, .int .i64 1, .int .i64 (o : Int)])
              go_wp2_with (at_builtin; refine wpList_append_any _ rfl (.tmp 63) (.tmp 67) 23 rfl (w.heap.size + 1) 27 i0 _ 4 32 Try.underlying23 hi0 hz0 hz1 hz2 rfl (by omega) _ k (recsV ys) rfl (HO4.out.alloc _) _ _ 1 1 [.int .i64 8, .int .i64 0, .int .i64 1, .int .i64 (o : Int)] rfl HB5.out.reads4 (by simp [Value.oneCell']) (by simp only [maxLen]; omega) (by omega) (by simp; omega) ?_; intro A5 c5 w5 ho5' hg5 ha5)
              have HO5 := hide (show w5.ownsRow (w.heap.size + 1) 27 4 (.slice A5 (k + 1) c5) (k + 1) (recsV (ys ++ [(⟨8, 0, 1, o⟩ : RecD)])) by rw [recsV_append]; exact ho5')
              have HM5 := hide ((HM4.out.alloc (recBox 8 0 1 o)).kept hg5 (fun e => by have := (HO4.out.lt _ e.symm).1; omega))
              have HX5 := hide ((HX4.out.alloc (recBox 8 0 1 o)).grown hg5 (fun j hj => by have := (HO4.out.lt j hj).1; omega))
              have hs5 : w.heap.size < w5.heap.size := by have := hg5.size; simp at this; omega
              clear ho5' hg5 ha5 hrun
              go_roundg (n - (k + 1))
              case measure => have := HGK.out; omega
              case rel => exact ⟨k + 1, by omega, by omega, by go_num, rfl, _, _, _, A5, c5, rfl, by simp [HLEN.out], by omega, HI4.out, HC4.out, HM5.out.mono (by omega), HO5.out, HX5.out, hs5⟩
            have t0 : (q == 0) = false := by simpa using hq0
            have hqp : 0 < q := by omega
            by_cases h3 : z.tmod 3 = 0
            · have t3 : (z.tmod 3 == 0) = true := by simpa using h3
              clear h3
              obtain ⟨W3, hrun, hm3, hg3⟩ := HM.out.store (by simp only [maxLen]; omega) o (by omega) (q + 1) (by omega) (by omega)
              have HO3 := hide (own_keptB HO.out hg3 (fun j hv e => by injection e with e; have := (HO.out.lt j hv).1; omega))
              have HX3 := hide (HX.out.grown hg3 (fun j hj => by injection hj with hj; omega))
              have hs3 : w.heap.size < W3.heap.size := by have := hg3.size; omega
              have HM3 := hide hm3
              have HC3 := hide (count_put (v := q + 1) HS.out (show o < 64 by omega))
              clear hm3 hg3
              have HO4 := HO3
              have HX4 := HX3
              have HM4 := HM3
              have HC4 := HC3
              have hs4 := hs3
              have HI4 := hide (HI.out.next o ho5 6 (some (q + 1)) (.inr (.inr (.inr (.inl ⟨q, HFO.out, hqp, rfl, rfl⟩)))))
              have HB5 := hide (Blk.new W3 27 #[.int .i64 6, .int .i64 0, .int .i64 1, .int .i64 (o : Int)])
              go_wp2_with (at_builtin; refine wpList_append_any _ rfl (.tmp 63) (.tmp 67) 23 rfl (w.heap.size + 1) 27 i0 _ 4 32 Try.underlying23 hi0 hz0 hz1 hz2 rfl (by omega) _ k (recsV ys) rfl (HO4.out.alloc _) _ _ 1 1 [.int .i64 6, .int .i64 0, .int .i64 1, .int .i64 (o : Int)] rfl HB5.out.reads4 (by simp [Value.oneCell']) (by simp only [maxLen]; omega) (by omega) (by simp; omega) ?_; intro A5 c5 w5 ho5' hg5 ha5)
              have HO5 := hide (show w5.ownsRow (w.heap.size + 1) 27 4 (.slice A5 (k + 1) c5) (k + 1) (recsV (ys ++ [(⟨6, 0, 1, o⟩ : RecD)])) by rw [recsV_append]; exact ho5')
              have HM5 := hide ((HM4.out.alloc (recBox 6 0 1 o)).kept hg5 (fun e => by have := (HO4.out.lt _ e.symm).1; omega))
              have HX5 := hide ((HX4.out.alloc (recBox 6 0 1 o)).grown hg5 (fun j hj => by have := (HO4.out.lt j hj).1; omega))
              have hs5 : w.heap.size < w5.heap.size := by have := hg5.size; simp at this; omega
              clear ho5' hg5 ha5 hrun
              go_roundg (n - (k + 1))
              case measure => have := HGK.out; omega
              case rel => exact ⟨k + 1, by omega, by omega, by go_num, rfl, _, _, _, A5, c5, rfl, by simp [HLEN.out], by omega, HI4.out, HC4.out, HM5.out.mono (by omega), HO5.out, HX5.out, hs5⟩
            · have t3 : (z.tmod 3 == 0) = false := by simpa using h3
              clear h3
              obtain ⟨W3, hrun, hm3, hg3⟩ := HM.out.store (by simp only [maxLen]; omega) o (by omega) (q - 1) (by omega) (by omega)
              have HO3 := hide (own_keptB HO.out hg3 (fun j hv e => by injection e with e; have := (HO.out.lt j hv).1; omega))
              have HX3 := hide (HX.out.grown hg3 (fun j hj => by injection hj with hj; omega))
              have hs3 : w.heap.size < W3.heap.size := by have := hg3.size; omega
              have HM3 := hide hm3
              have HC3 := hide (count_put (v := q - 1) HS.out (show o < 64 by omega))
              clear hm3 hg3
              have HO4 := HO3
              have HX4 := HX3
              have HM4 := HM3
              have HC4 := HC3
              have hs4 := hs3
              have HI4 := hide (HI.out.next o ho5 7 (some (q - 1)) (.inr (.inr (.inr (.inr ⟨q, HFO.out, hqp, rfl, rfl⟩)))))
              have HB5 := hide (Blk.new W3 27 #[.int .i64 7, .int .i64 0, .int .i64 1, .int .i64 (o : Int)])
              go_wp2_with (at_builtin; refine wpList_append_any _ rfl (.tmp 63) (.tmp 67) 23 rfl (w.heap.size + 1) 27 i0 _ 4 32 Try.underlying23 hi0 hz0 hz1 hz2 rfl (by omega) _ k (recsV ys) rfl (HO4.out.alloc _) _ _ 1 1 [.int .i64 7, .int .i64 0, .int .i64 1, .int .i64 (o : Int)] rfl HB5.out.reads4 (by simp [Value.oneCell']) (by simp only [maxLen]; omega) (by omega) (by simp; omega) ?_; intro A5 c5 w5 ho5' hg5 ha5)
              have HO5 := hide (show w5.ownsRow (w.heap.size + 1) 27 4 (.slice A5 (k + 1) c5) (k + 1) (recsV (ys ++ [(⟨7, 0, 1, o⟩ : RecD)])) by rw [recsV_append]; exact ho5')
              have HM5 := hide ((HM4.out.alloc (recBox 7 0 1 o)).kept hg5 (fun e => by have := (HO4.out.lt _ e.symm).1; omega))
              have HX5 := hide ((HX4.out.alloc (recBox 7 0 1 o)).grown hg5 (fun j hj => by have := (HO4.out.lt j hj).1; omega))
              have hs5 : w.heap.size < w5.heap.size := by have := hg5.size; simp at this; omega
              clear ho5' hg5 ha5 hrun
              go_roundg (n - (k + 1))
              case measure => have := HGK.out; omega
              case rel => exact ⟨k + 1, by omega, by omega, by go_num, rfl, _, _, _, A5, c5, rfl, by simp [HLEN.out], by omega, HI4.out, HC4.out, HM5.out.mono (by omega), HO5.out, HX5.out, hs5⟩
        · obtain rfl : k = 40 := by omega
          go_wp2_with fail
          go_meet
          exact ⟨40, ys, f, s, A1, c1, rfl, HLEN.out, by omega, HI.out, HS.out, HM.out, HO.out, HX.out, hsz⟩
      · obtain rfl : n = k := by omega
        go_wp2_with fail
        go_meet
        exact ⟨n, ys, f, s, A1, c1, rfl, HLEN.out, by omega, HI.out, HS.out, HM.out, HO.out, HX.out, hsz⟩
  case rest =>
    obtain ⟨m, ys, f, s, A1, c1, rfl, hlen, hm40, hinv, hs, hmap, ho, hx, hsz⟩ := hcut
    have HLEN := hide hlen
    have HI := hide hinv
    have HS := hide hs
    have HM := hide hmap
    have HO := hide ho
    have HX := hide hx
    clear hlen hinv hs hmap ho hx HM0 HX0 HF
    have hmc : m ≤ c1 := (own_le HO.out).1
    go_wp2_with fail
    refine (counts_any ys HI.out.ok A1 m c1 _ _ (Reads.of_own HO.out) (Nat.le_refl _) HLEN.out (by omega) hmc).mono ?_
    rintro e w6 ⟨A6, c6, n6, rfl, hn6, hl6, ho6, hx6⟩
    have hns : n6 = s := by rw [HS.out, ← hl6, cntL_length, setL_congr 64 (fun o _ => HI.out.there o)]; rfl
    subst hns
    have HL6 := hide hl6
    have HO6 := hide ho6
    have HX6 := hide hx6
    clear hl6 ho6 hx6
    go_wp2_with fail
    refine (rwrong_any ys HI.out.ok A1 m c1 _ _ (Reads.of_own (HX6.out.own HO.out)) (Nat.le_refl _) HLEN.out (by omega) hmc).mono ?_
    rintro e w7 ⟨hres, hx7⟩
    have he : e = .returned (.tuple #[.int .i64 0, .int .i64 4]) := by
      rcases hres with ⟨he, _⟩ | ⟨i, hi, _, _, hbad⟩
      · exact he
      · rw [HI.out.clean i hi hi] at hbad; cases hbad
    subst he
    have HX7 := hide (HX6.out.trans hx7)
    have HX67 := hide hx7
    clear hres hx7
    go_wp2_with fail
    refine (rclone_any A1 m c1 _ (recsV ys) w7 (Reads.of_own (HX7.out.own HO.out)) (recsV_one _) (Nat.le_refl _) (by omega) (fun h0 => by
      obtain ⟨A', c', hv, _, _, h3⟩ := own_form HO.out
      injection hv with e1 e2 e3
      exact (h3 (e1.symm.trans h0)).1)).mono ?_
    rintro e w8 ⟨A8, c8, rfl, ho8, hx8⟩
    have HO8 := hide ho8
    have HX8 := hide hx8
    have hs8 : w7.heap.size ≤ w8.heap.size := hx8.size
    clear ho8 hx8
    have HB9 := hide (Blk.new w8 27 #[.int .i64 6, .int .i64 0, .int .i64 1, .int .i64 50])
    go_wp2_with (at_builtin; refine wpList_append_any _ rfl (.tmp 82) (.tmp 84) 23 rfl w7.heap.size 27 i0 _ 4 32 Try.underlying23 hi0 hz0 hz1 hz2 rfl (by omega) _ m (recsV ys) rfl (HO8.out.alloc _) _ _ 1 1 [.int .i64 6, .int .i64 0, .int .i64 1, .int .i64 50] rfl HB9.out.reads4 (by simp [Value.oneCell']) (by simp only [maxLen]; omega) (by omega) (by simp; omega) ?_; intro A9 c9 w9 ho9 hg9 ha9)
    have HX9 := hide (show Ext w7 w9 from (HX8.out.alloc _).grown hg9 (fun j hj => (HO8.out.lt j hj).1))
    have HY9 := hide (show Reads w9 w9.heap.size 4 A9 (m + 1) (recsV (ys ++ [(⟨6, 0, 1, 50⟩ : RecD)])) by rw [recsV_append]; exact Reads.of_own ho9)
    have hc9 : m + 1 ≤ c9 := (own_le ho9).1
    have HL9 := hide (show (ys ++ [(⟨6, 0, 1, 50⟩ : RecD)]).length = m + 1 by simp [HLEN.out])
    have HFAR := hide (HI.out.far 50 (by omega)).2
    clear ho9 hg9 ha9 HB9
    refine (rwrong_any (ys ++ [(⟨6, 0, 1, 50⟩ : RecD)]) (fun r hr => by
      rcases List.mem_append.1 hr with hr | hr
      · exact HI.out.ok r hr
      · rw [List.mem_singleton.1 hr]; constructor <;> simp) A9 (m + 1) c9 w9.heap.size w9 HY9.out (Nat.le_refl _) HL9.out (by omega) hc9).mono ?_
    rintro e w10 ⟨hres, hx10⟩
    have he : e = .returned (.tuple #[.int .i64 m, .int .i64 0]) := by
      have hlast : okS (stS ys) ⟨6, 0, 1, 50⟩ = false := by simp [okS, HFAR.out]
      rcases hres with ⟨_, hcl⟩ | ⟨i, hi, he, _, hbad⟩
      · have h1 := hcl ys.length (by simp) (by simp)
        simp [hlast] at h1
      · by_cases hiy : i < ys.length
        · rw [List.getElem_append_left hiy, List.take_append_of_le_length (by omega), HI.out.clean i hiy hiy] at hbad
          cases hbad
        · have : i = m := by have := HLEN.out; have := HL9.out; omega
          subst this
          exact he
    subst he
    have HX10 := hide (HX67.out.trans (HX9.out.trans hx10))
    have HXE := hide (HX.out.trans (HX6.out.trans HX10.out))
    have HM10 := hide (HM.out.ext (HX6.out.trans HX10.out))
    have HC10 := hide (Reads.of_own (HX10.out.own HO6.out))
    have hlen := fun ty => HM10.out.len ty
    have tm : ((m : Int) != (m : Int)) = false := by simp
    have tn : ((n6 : Int) != (n6 : Int)) = false := by simp
    clear hres hx10
    go_wp2_with fail
    clear hlen tm tn
    go_loopw [114] (LifeEnd w10 n6) (fun i _ => n6 - (intOf i).toNat)
    case atStart => exact ⟨0, Nat.zero_le _, rfl, Ext.refl _⟩
    case round =>
      obtain ⟨k, hk, rfl, hx⟩ := hrel
      have HXk := hide hx
      clear hx
      by_cases hlt : k < n6
      · obtain ⟨b, off, rfl, hb⟩ := HC10.out.addr (by omega) (by omega)
        have hkl : k < (cntL (stS ys) 64).length := by rw [HL6.out]; exact hlt
        obtain ⟨q0, q1⟩ := cnt_cells (HXk.out.reads HC10.out (Nat.le_refl _)) k hlt hkl
        obtain ⟨o, hho, hoe⟩ : ∃ o, o ∈ setL (stS ys).there 64 ∧ (cntL (stS ys) 64)[k] = (o, (stS ys).held o) := by
          obtain ⟨o, ho, he⟩ := List.mem_map.1 (List.getElem_mem hkl)
          exact ⟨o, ho, he.symm⟩
        rw [hoe] at q0 q1
        dsimp only at q0 q1
        obtain ⟨ho64, hoth⟩ := (mem_setL _ _ _).1 hho
        rw [HI.out.there o] at hoth
        obtain ⟨q, hq⟩ := Option.isSome_iff_exists.1 hoth
        obtain ⟨hq1, hq2, hq3, -⟩ := HI.out.val o q hq
        rw [hq3] at q1
        have hlk := (HM10.out.ext (HXk.out.alloc (.cells #[.int .i64 (o : Int), .int .i64 (max q 0)] 48))).look o (by omega)
        rw [hq] at hlk
        simp only [Option.getD_some, Option.isSome_some] at hlk
        clear hho hoe hoth hq hq2 hq3
        have HXA := hide (HXk.out.alloc (.cells #[.int .i64 (o : Int), .int .i64 (max q 0)] 48))
        by_cases hneg : q < 0
        · obtain rfl : q = -1 := by omega
          rw [show max (-1 : Int) 0 = 0 by decide] at q1 hlk HXA
          go_wp2_with fail
          go_roundw
          case rel => exact ⟨k + 1, by omega, by go_num, HXA.out⟩
          case measure => simp [intOf]; omega
        · rw [show max q 0 = q by omega] at q1 hlk HXA
          have hq0 : 0 ≤ q := by omega
          have tq : (q != q) = false := by simp
          go_wp2_with fail
          go_roundw
          case rel => exact ⟨k + 1, by omega, by go_num, HXA.out⟩
          case measure => simp [intOf]; omega
      · obtain rfl : k = n6 := by omega
        go_wp2_with fail
        go_ret
        exact ⟨rfl, HXE.out.trans HXk.out⟩
end Go.Proofs.Ytlmcahgffakoiaa
