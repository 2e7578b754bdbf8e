/- The walk of RefsGrace. -/
import Derived.Test.YtlmcahgffakoiaaEarly
import Derived.Test.YtlmcahgffakoiaaRest
import Derived.Deep.CutBlock
import Derived.Deep.DeepCutAuto
namespace Go.Proofs.Ytlmcahgffakoiaa
open Go.RowKit
set_option linter.unusedVariables false

theorem Blk.readsN {w : World} {g : Nat} {t : TypeId} {cs : Array Value} (h : Blk w g t cs) (n size : Nat) (hs : cs.size = n * size) : Reads w w.heap.size size (some ⟨g, 0, none⟩) n cs.toList := by
  refine ⟨by simpa using hs, fun _ => ⟨_, rfl, h.lt, fun j u hu => ?_⟩⟩
  rw [add_lit, Nat.zero_add, h.cell]
  simpa using hu
theorem own_keptG {w w' : World} {base size n : Nat} {e : TypeId} {v : Value} {xs : List Value} {row : Option Nat} (h : w.ownsRow base e size v n xs) (hg : w.grownBy w' row) (hne : ∀ j, v.ownBlock = some j → row ≠ some j) : w'.ownsRow base e size v n xs :=
  h.kept hg (by
    cases hv : v.ownBlock with
    | none => simp
    | some j => exact .inr (fun e => hne j hv e.symm))
def restG (n k : Int) : Nat := (restZ n k).toNat
theorem restG_lt (n k : Int) (hk : 0 < k) : (restG n k : Int) < k := by
  have h1 := restZ_lo n k (by omega)
  have h2 := restZ_hi n k (by omega)
  unfold restG
  omega
theorem rest_g (n k : Int) (w : World) (hn : -9223372036854775808 ≤ n) (hn' : n ≤ 9223372036854775807) (hk : 0 < k) (hk' : k ≤ 9223372036854775807) :
    Calls Try.prog 6 #[.int .i64 n, .int .i64 k] w fun e w' => e = .returned (.int .i64 (restG n k : Nat)) ∧ w = w' :=
  (rest_any n k w hn hn' hk hk').mono fun e w' ⟨he, hw⟩ => ⟨by rw [he]; exact ret_int (by have := restZ_lo n k hk; unfold restG; omega), hw⟩
/-- The records so far, and who reads. -/
def GAt (w : World) (S : Nat → Bool) (N : Nat) (P : List RecD → Prop) (x : Value) (wr : World) : Prop :=
  ∃ (ys : List RecD) (A : Option Addr) (m c : Nat), x = .slice A m c ∧ ys.length = m ∧ m ≤ N ∧ P ys ∧ MapB wr w.heap.size 10 S ∧ wr.ownsRow (w.heap.size + 1) 27 4 (.slice A m c) m (recsV ys) ∧ Ext w wr ∧ w.heap.size < wr.heap.size
def GRel (w : World) (n gk : Nat) (x i : Value) (wr : World) : Prop :=
  ∃ (k : Nat) (S : Nat → Bool) (ys : List RecD) (A : Option Addr) (m c : Nat), k ≤ n ∧ gk = n - k ∧ i = .int .i64 k ∧ x = .slice A m c ∧ ys.length = m ∧ m ≤ k ∧ m ≤ 10 ∧ Enters ys S ∧ MapB wr w.heap.size m S ∧ wr.ownsRow (w.heap.size + 1) 27 4 (.slice A m c) m (recsV ys) ∧ Ext w wr ∧ w.heap.size < wr.heap.size
def fromB (S : Nat → Bool) (t : Nat) : Nat → Bool := fun x => S x && decide (t ≤ x)
theorem fromB_skip {S : Nat → Bool} {t : Nat} (h : S t = false) : fromB S t = fromB S (t + 1) := by
  funext x
  by_cases e : x = t
  · subst e; simp [fromB, h]
  · simp only [fromB, show (t ≤ x ↔ t + 1 ≤ x) by omega]
theorem fromB_upd (S : Nat → Bool) (t : Nat) : updN (fromB S t) t false = fromB S (t + 1) := by
  funext x
  by_cases e : x = t
  · subst e; simp [fromB, updN]
  · rw [updN_other _ _ _ _ e]
    simp only [fromB, show (t ≤ x ↔ t + 1 ≤ x) by omega]
def LRel (w : World) (S : Nat → Bool) (gk : Nat) (x i : Value) (wr : World) : Prop := ∃ t : Nat, t ≤ 7 ∧ gk = 7 - t ∧ i = .int .i64 t ∧ GAt w S (12 + t) (fun ys => Waits ys (fromB S t)) x wr
def GCut (w : World) (S : Nat → Bool) (b : Bool) (x : Value) (wr : World) : Prop := ∃ U : Nat → Bool, (b = true → ∀ x, U x = false) ∧ (b = false → U = S) ∧ GAt w S 20 (fun ys => Waits ys U) x wr

set_option maxHeartbeats 8000000 in
set_option maxRecDepth 100000 in
theorem grace_walk (l : List Int) (fitl : ∀ z ∈ l, -9223372036854775808 ≤ z ∧ z ≤ 9223372036854775807) (late : Int) (fl : -9223372036854775808 ≤ late ∧ late ≤ 9223372036854775807) (b : Bool) (A : Option Addr) (n c : Nat) (w : World) (hr : Reads w w.heap.size 1 A n (intsV l)) (hnc : n ≤ c) (hc : c ≤ maxLen) :
    Calls Try.prog 3 #[.slice A n c, .int .i64 late, .bool b] w fun e w' => e = .returned (.bool true) ∧ Ext w w' := by
  obtain ⟨i0, hi0, hz0, hz1, hz2⟩ := info_parts rec_info
  have hmm := @run_makeMap Try.prog
  unfold maxLen at hc
  have HN := hide (show l.length = n by have := hr.1; rw [intsV_length] at this; omega)
  have HR := hide hr
  have HF := hide fitl
  have HFL := hide fl
  clear hr fitl fl
  go_enter Try.func3, Try.ntmps3
  go_upto_region 3 with fail
  clear hmm
  have HM0 := hide (MapB.made w)
  have HX0 := hide ((Ext.refl w).alloc (.map #[] 0))
  have hs0 : w.heap.size < (w.alloc (.map #[] 0)).heap.size := by simp
  generalize w.alloc (.map #[] 0) = w0 at *
  go_wp2_with fail
  go_loopg [7, 20] n (GRel w n)
  case atStart => exact ⟨0, _, [], none, 0, 0, Nat.zero_le _, rfl, rfl, rfl, rfl, Nat.le_refl _, Nat.zero_le _, Enters.start, HM0.out, World.ownsRow_nil _ _ _ _, HX0.out, hs0⟩
  case round =>
    obtain ⟨k, S, ys, A1, m, c1, hk, hgk, rfl, rfl, hlen, hmk, hm10, hen, hmap, ho, hx, hsz⟩ := hrel
    have HGK := hide hgk
    have HLEN := hide hlen
    have HEN := hide hen
    have HM := hide hmap
    have HO := hide ho
    have HX := hide hx
    clear hgk hlen hen hmap ho hx HM0 HX0 hs0
    by_cases hlt : k < n
    · obtain ⟨b1, off, rfl, -, -⟩ := HR.out.at1 (by omega)
      have hkl : k < l.length := by rw [HN.out]; exact hlt
      have g1 : wr.cell? ⟨b1, off + k, none⟩ = some (.int .i64 (l.getD k 0)) := cells_ints (HX.out.reads HR.out (Nat.le_refl _)) k hlt
      have hg : l.getD k 0 = l[k] := by simp [List.getD_eq_getElem?_getD, hkl]
      rw [hg] at g1
      have F1 := hide (HF.out l[k] (List.getElem_mem hkl))
      clear hg
      generalize l[k] = z at *
      have hlt6 := restG_lt z 6 (by omega)
      go_wp2_with fail
      refine (rest_g z 6 _ F1.out.1 F1.out.2 (by omega) (by omega)).mono ?_
      rintro e w' ⟨rfl, rfl⟩
      generalize restG z 6 = r at *
      obtain ⟨t, ht⟩ : ∃ t : Nat, (1 : Int) + (r : Int) = (t : Int) := ⟨1 + r, by omega⟩
      have ht1 : 1 ≤ t := by omega
      have ht6 : t ≤ 6 := by omega
      go_upto_region 7 with fail
      clear ht hlt6
      have hlk := HM.out.look t (by omega)
      by_cases h10 : k < 10
      · cases hS : S t with
        | true =>
          rw [hS] at hlk
          clear hS
          go_wp2_with fail
          go_roundg (n - (k + 1))
          case measure => have := HGK.out; omega
          case rel => exact ⟨k + 1, S, ys, A1, m, c1, by omega, rfl, by go_num, rfl, HLEN.out, by omega, hm10, HEN.out, HM.out, HO.out, HX.out, hsz⟩
        | false =>
          have HSF := hide hS
          rw [hS] at hlk
          clear hS
          obtain ⟨W3, hrun, hm3, hg3⟩ := HM.out.store (by simp only [maxLen]; omega) t (by omega)
          have HO3 := hide (own_keptG HO.out hg3 (fun j hv e => by injection e with e; have := (HO.out.lt j hv).1; omega))
          have HX3 := hide (HX.out.grown hg3 (fun j hj => by injection hj with hj; omega))
          have hs3 : w.heap.size < W3.heap.size := by have := hg3.size; omega
          have HM3 := hide hm3
          clear hm3 hg3
          have HI4 := hide (HEN.out.next t ht1 ht6 HSF.out)
          have HB5 := hide (Blk.new W3 27 #[.int .i64 3, .int .i64 0, .int .i64 (t : Int), .int .i64 0])
          go_wp2_with (at_builtin; refine wpList_append_any _ rfl (.tmp 38) (.tmp 41) 23 rfl (w.heap.size + 1) 27 i0 _ 4 32 Try.underlying23 hi0 hz0 hz1 hz2 rfl (by omega) _ m (recsV ys) rfl (HO3.out.alloc _) _ _ 1 1 [.int .i64 3, .int .i64 0, .int .i64 (t : Int), .int .i64 0] rfl HB5.out.reads4 (by simp [Value.oneCell']) (by simp only [maxLen]; omega) (by omega) (by simp; omega) ?_; intro A5 c5 w5 ho5 hg5 ha5)
          have HO5 := hide (show w5.ownsRow (w.heap.size + 1) 27 4 (.slice A5 (m + 1) c5) (m + 1) (recsV (ys ++ [ent t])) by rw [recsV_append]; exact ho5)
          have HM5 := hide ((HM3.out.alloc (recBox 3 0 t 0)).kept hg5 (fun e => by have := (HO3.out.lt _ e.symm).1; omega))
          have HX5 := hide ((HX3.out.alloc (recBox 3 0 t 0)).grown hg5 (fun j hj => by have := (HO3.out.lt j hj).1; omega))
          have hs5 : w.heap.size < w5.heap.size := by have := hg5.size; simp at this; omega
          clear ho5 hg5 ha5 hrun
          go_roundg (n - (k + 1))
          case measure => have := HGK.out; omega
          case rel => exact ⟨k + 1, _, _, A5, m + 1, c5, by omega, rfl, by go_num, rfl, by simp [HLEN.out], by omega, by omega, HI4.out, HM5.out, HO5.out, HX5.out, hs5⟩
      · go_wp2_with fail
        go_roundg (n - (k + 1))
        case measure => have := HGK.out; omega
        case rel => exact ⟨k + 1, S, ys, A1, m, c1, by omega, rfl, by go_num, rfl, HLEN.out, by omega, hm10, HEN.out, HM.out, HO.out, HX.out, hsz⟩
    · obtain rfl : n = k := by omega
      have hlt3 := restG_lt late 3 (by omega)
      go_wp2_with fail
      refine (rest_g late 3 _ HFL.out.1 HFL.out.2 (by omega) (by omega)).mono ?_
      rintro e w' ⟨rfl, rfl⟩
      generalize restG late 3 = r at *
      have hr3 : r < 3 := by omega
      have HB3 := hide (Blk.new wr 27 #[.int .i64 8, .int .i64 0, .int .i64 9, .int .i64 3, .int .i64 3, .int .i64 0, .int .i64 (10 + (r : Int)), .int .i64 0])
      have HW3 := hide (HEN.out.wish r hr3)
      go_upto_if 52 with (at_builtin; refine wpList_append_any _ rfl (.tmp 44) (.tmp 50) 23 rfl (w.heap.size + 1) 27 i0 _ 4 32 Try.underlying23 hi0 hz0 hz1 hz2 rfl (by omega) _ m (recsV ys) rfl (HO.out.alloc _) _ _ 2 2 [.int .i64 8, .int .i64 0, .int .i64 9, .int .i64 3, .int .i64 3, .int .i64 0, .int .i64 (10 + (r : Int)), .int .i64 0] rfl (HB3.out.readsN 2 4 rfl) (by simp [Value.oneCell']) (by simp only [maxLen]; omega) (by omega) (by simp; omega) ?_; intro A5 c5 w5 ho5 hg5 ha5)
      have HO5 := hide (show w5.ownsRow (w.heap.size + 1) 27 4 (.slice A5 (m + 2) c5) (m + 2) (recsV (ys ++ [later3, ent (10 + r)])) by
        have e : recsV [later3, ent (10 + r)] = [.int .i64 8, .int .i64 0, .int .i64 9, .int .i64 3, .int .i64 3, .int .i64 0, .int .i64 (10 + (r : Int)), .int .i64 0] := by simp [recsV, recC, ent]
        rw [recsV_append, e]
        exact ho5)
      have HM5 := hide ((HM.out.alloc (.cells #[.int .i64 8, .int .i64 0, .int .i64 9, .int .i64 3, .int .i64 3, .int .i64 0, .int .i64 (10 + (r : Int)), .int .i64 0] 27)).kept hg5 (fun e => by have := (HO.out.lt _ e.symm).1; omega))
      have HX5 := hide ((HX.out.alloc (.cells #[.int .i64 8, .int .i64 0, .int .i64 9, .int .i64 3, .int .i64 3, .int .i64 0, .int .i64 (10 + (r : Int)), .int .i64 0] 27)).grown hg5 (fun j hj => by have := (HO.out.lt j hj).1; omega))
      have hs5 : w.heap.size < w5.heap.size := by have := hg5.size; simp at this; omega
      have HL5 := hide (show (ys ++ [later3, ent (10 + r)]).length = m + 2 by simp [HLEN.out])
      have HST := hide (show GAt w S 12 (fun ys => Waits ys S) (.slice A5 (m + 2) c5) w5 from ⟨_, A5, m + 2, c5, rfl, HL5.out, by omega, HW3.out, HM5.out.mono hm10, HO5.out, HX5.out, hs5⟩)
      have HSM := hide HEN.out.small
      clear ho5 hg5 ha5 HB3 HO HM HX HEN HLEN hsz HGK HF HR HO5 HM5 HX5 HL5 HW3
      go_cut [7] (GCut w S b)
      case first =>
        cases b with
        | false =>
          go_wp2_with fail
          go_meet
          obtain ⟨ys', A', m', c', h1, h2, h3, h4⟩ := HST.out
          exact ⟨S, (fun h => by cases h), (fun _ => rfl), ys', A', m', c', h1, h2, by omega, h4⟩
        | true =>
          go_wp2_with fail
          go_loopg [7, 53] 7 (LRel w S)
          case atStart =>
            obtain ⟨ys', A', m', c', h1, h2, h3, h4, h5⟩ := HST.out
            refine ⟨0, Nat.zero_le _, rfl, rfl, ys', A', m', c', h1, h2, by omega, ?_, h5⟩
            have : fromB S 0 = S := by funext x; simp [fromB]
            rw [this]
            exact h4
          case round =>
            obtain ⟨t, ht, hgt, rfl, ys, A1, m, c1, rfl, hlen, hmt, hwt, hmap, ho, hx, hsz⟩ := hrel
            have HGT := hide hgt
            have HLEN := hide hlen
            have HW := hide hwt
            have HM := hide hmap
            have HO := hide ho
            have HX := hide hx
            clear hgt hlen hwt hmap ho hx HST
            by_cases hlt7 : t < 7
            · have hlk := HM.out.look t (by omega)
              cases hS : S t with
              | false =>
                have HSK := hide (fromB_skip hS)
                rw [hS] at hlk
                clear hS
                go_wp2_with fail
                go_roundg (7 - (t + 1))
                case measure => have := HGT.out; omega
                case rel => exact ⟨t + 1, by omega, rfl, by go_num, ys, A1, m, c1, rfl, HLEN.out, by omega, by rw [← HSK.out]; exact HW.out, HM.out, HO.out, HX.out, hsz⟩
              | true =>
                have HW5 := hide (show Waits (ys ++ [lev t]) (fromB S (t + 1)) by rw [← fromB_upd]; exact HW.out.leave t (by simp [fromB, hS]))
                rw [hS] at hlk
                clear hS
                have HB5 := hide (Blk.new wr 27 #[.int .i64 4, .int .i64 0, .int .i64 (t : Int), .int .i64 0])
                go_wp2_with (at_builtin; refine wpList_append_any _ rfl (.tmp 59) (.tmp 62) 23 rfl (w.heap.size + 1) 27 i0 _ 4 32 Try.underlying23 hi0 hz0 hz1 hz2 rfl (by omega) _ m (recsV ys) rfl (HO.out.alloc _) _ _ 1 1 [.int .i64 4, .int .i64 0, .int .i64 (t : Int), .int .i64 0] rfl HB5.out.reads4 (by simp [Value.oneCell']) (by simp only [maxLen]; omega) (by omega) (by simp; omega) ?_; intro A5 c5 w5 ho5 hg5 ha5)
                have HO5 := hide (show w5.ownsRow (w.heap.size + 1) 27 4 (.slice A5 (m + 1) c5) (m + 1) (recsV (ys ++ [lev t])) by rw [recsV_append]; exact ho5)
                have HM5 := hide ((HM.out.alloc (recBox 4 0 t 0)).kept hg5 (fun e => by have := (HO.out.lt _ e.symm).1; omega))
                have HX5 := hide ((HX.out.alloc (recBox 4 0 t 0)).grown hg5 (fun j hj => by have := (HO.out.lt j hj).1; omega))
                have hs5 : w.heap.size < w5.heap.size := by have := hg5.size; simp at this; omega
                clear ho5 hg5 ha5
                go_roundg (7 - (t + 1))
                case measure => have := HGT.out; omega
                case rel => exact ⟨t + 1, by omega, rfl, by go_num, _, A5, m + 1, c5, rfl, by simp [HLEN.out], by omega, HW5.out, HM5.out, HO5.out, HX5.out, hs5⟩
            · obtain rfl : t = 7 := by omega
              go_wp2_with fail
              go_meet
              refine ⟨fromB S 7, (fun _ x => ?_), (fun h => by cases h), ys, A1, m, c1, rfl, HLEN.out, by omega, HW.out, HM.out, HO.out, HX.out, hsz⟩
              cases hS : S x with
              | false => simp [fromB, hS]
              | true => have := HSM.out x hS; simp [fromB]; omega
      case rest =>
        obtain ⟨U, hUt, hUf, ys, A1, m, c1, rfl, hlen, hm20, hwt, hmap, ho, hx, hsz⟩ := hcut
        have HUT := hide hUt
        have HUF := hide hUf
        have HLEN := hide hlen
        have HW := hide hwt
        have HM := hide hmap
        have HO := hide ho
        have HX := hide hx
        clear hUt hUf hlen hwt hmap ho hx HST
        have HB5 := hide (Blk.new wc 27 #[.int .i64 9, .int .i64 0, .int .i64 9, .int .i64 3])
        go_upto_region 20 with (at_builtin; refine wpList_append_any _ rfl (.tmp 65) (.tmp 67) 23 rfl (w.heap.size + 1) 27 i0 _ 4 32 Try.underlying23 hi0 hz0 hz1 hz2 rfl (by omega) _ m (recsV ys) rfl (HO.out.alloc _) _ _ 1 1 [.int .i64 9, .int .i64 0, .int .i64 9, .int .i64 3] rfl HB5.out.reads4 (by simp [Value.oneCell']) (by simp only [maxLen]; omega) (by omega) (by simp; omega) ?_; intro A5 c5 w5 ho5 hg5 ha5)
        have HO5 := hide (show w5.ownsRow (w.heap.size + 1) 27 4 (.slice A5 (m + 1) c5) (m + 1) (recsV (ys ++ [done3])) by rw [recsV_append]; exact ho5)
        have HM5 := hide ((HM.out.alloc (recBox 9 0 9 3)).kept hg5 (fun e => by have := (HO.out.lt _ e.symm).1; omega))
        have HX5 := hide ((HX.out.alloc (recBox 9 0 9 3)).grown hg5 (fun j hj => by have := (HO.out.lt j hj).1; omega))
        have hc5 : m + 1 ≤ c5 := (own_le ho5).1
        have HL5 := hide (show (ys ++ [done3]).length = m + 1 by simp [HLEN.out])
        clear ho5 hg5 ha5 HB5 HO HM HX
        go_wp2_with fail
        refine (early_any (ys ++ [done3]) HW.out.last.1 A5 (m + 1) c5 _ _ (Reads.of_own HO5.out) (Nat.le_refl _) HL5.out (by omega) hc5).mono ?_
        rintro e w6 ⟨hres, hx6⟩
        have HX6 := hide (HX5.out.trans hx6)
        have HM6 := hide (HM5.out.ext hx6)
        have HOL := hide HW.out.last.2
        have HRES := hide hres
        clear hres hx6
        cases hU : emptyB U with
        | true =>
          have he : e = .returned (.tuple #[.int .i64 0, .int .i64 4]) := by
            rcases HRES.out with ⟨he, _⟩ | ⟨i, hi, _, _, hbad⟩
            · exact he
            · exfalso
              by_cases hiy : i < ys.length
              · rw [List.getElem_append_left hiy, List.take_append_of_le_length (by omega), HW.out.clean i hiy hiy] at hbad
                cases hbad
              · have : i = ys.length := by simp at hi; omega
                subst this
                simp [HOL.out, hU] at hbad
          subst he
          have HCL := hide (show Reads (w6.alloc (.cells #[.int .i64 3, .int .i64 0, .int .i64 1, .int .i64 0, .int .i64 8, .int .i64 0, .int .i64 2, .int .i64 0, .int .i64 9, .int .i64 0, .int .i64 2, .int .i64 0] 27)) (w6.heap.size + 1) 4 (some ⟨w6.heap.size, 0, none⟩) 3 (recsV [ent 1, ⟨8, 0, 2, 0⟩, ⟨9, 0, 2, 0⟩]) from by
            have := (Blk.new w6 27 #[.int .i64 3, .int .i64 0, .int .i64 1, .int .i64 0, .int .i64 8, .int .i64 0, .int .i64 2, .int .i64 0, .int .i64 9, .int .i64 0, .int .i64 2, .int .i64 0]).readsN 3 4 rfl
            rw [show (w6.alloc (.cells #[.int .i64 3, .int .i64 0, .int .i64 1, .int .i64 0, .int .i64 8, .int .i64 0, .int .i64 2, .int .i64 0, .int .i64 9, .int .i64 0, .int .i64 2, .int .i64 0] 27)).heap.size = w6.heap.size + 1 by simp] at this
            exact this)
          have HXB := hide (HX6.out.alloc (.cells #[.int .i64 3, .int .i64 0, .int .i64 1, .int .i64 0, .int .i64 8, .int .i64 0, .int .i64 2, .int .i64 0, .int .i64 9, .int .i64 0, .int .i64 2, .int .i64 0] 27))
          have HU0 := hide hU
          clear hU
          cases b with
          | true =>
            go_wp2_with fail
            refine (early_any [ent 1, ⟨8, 0, 2, 0⟩, ⟨9, 0, 2, 0⟩] (by
              intro r hr
              simp only [List.mem_cons, List.not_mem_nil, or_false] at hr
              rcases hr with rfl | rfl | rfl <;> constructor <;> simp [ent]) _ 3 3 _ _ HCL.out (by simp) rfl (by omega) (by omega)).mono ?_
            rintro e w7 ⟨hres, hx7⟩
            have he : e = .returned (.tuple #[.int .i64 2, .int .i64 0]) := by
              rcases hres with ⟨_, hcl⟩ | ⟨i, hi, he, hci, hbad⟩
              · have h1 := hcl 2 (by simp) (by simp)
                exact absurd h1 (by decide)
              · match i, hi with
                | 0, _ => exact absurd (show false = true from hbad.symm.trans rfl) (by decide)
                | 1, _ => exact absurd (show false = true from hbad.symm.trans rfl) (by decide)
                | 2, _ => exact he
            subst he
            clear hres
            go_wp2_with fail
            go_ret
            exact ⟨rfl, HXB.out.trans hx7⟩
          | false =>
            have hlen := fun ty => HM6.out.len ty
            have hz : (setL S 64).length = 0 := by have := HU0.out; rw [HUF.out rfl] at this; simpa [emptyB] using this
            rw [hz] at hlen
            clear hz
            go_wp2_with fail
            refine (early_any [ent 1, ⟨8, 0, 2, 0⟩, ⟨9, 0, 2, 0⟩] (by
              intro r hr
              simp only [List.mem_cons, List.not_mem_nil, or_false] at hr
              rcases hr with rfl | rfl | rfl <;> constructor <;> simp [ent]) _ 3 3 _ _ HCL.out (by simp) rfl (by omega) (by omega)).mono ?_
            rintro e w7 ⟨hres, hx7⟩
            have he : e = .returned (.tuple #[.int .i64 2, .int .i64 0]) := by
              rcases hres with ⟨_, hcl⟩ | ⟨i, hi, he, hci, hbad⟩
              · have h1 := hcl 2 (by simp) (by simp)
                exact absurd h1 (by decide)
              · match i, hi with
                | 0, _ => exact absurd (show false = true from hbad.symm.trans rfl) (by decide)
                | 1, _ => exact absurd (show false = true from hbad.symm.trans rfl) (by decide)
                | 2, _ => exact he
            subst he
            clear hres
            go_wp2_with fail
            go_ret
            exact ⟨rfl, HXB.out.trans hx7⟩
        | false =>
          have he : e = .returned (.tuple #[.int .i64 m, .int .i64 0]) := by
            rcases HRES.out with ⟨_, hcl⟩ | ⟨i, hi, he, _, hbad⟩
            · have h1 := hcl ys.length (by simp) (by simp)
              simp [HOL.out, hU] at h1
            · by_cases hiy : i < ys.length
              · rw [List.getElem_append_left hiy, List.take_append_of_le_length (by omega), HW.out.clean i hiy hiy] at hbad
                cases hbad
              · have : i = m := by have := HLEN.out; have := HL5.out; omega
                subst this
                exact he
          subst he
          cases b with
          | true =>
            exfalso
            have h0 : U = fun _ => false := funext (HUT.out rfl)
            rw [h0] at hU
            revert hU
            decide
          | false =>
            have hlen := fun ty => HM6.out.len ty
            have hz : (setL S 64).length ≠ 0 := by rw [HUF.out rfl] at hU; simpa [emptyB] using hU
            have hle := setL_le S 64
            generalize (setL S 64).length = q at *
            have hq0 : (q == 0) = false := by simpa using hz
            have hqi : ((q : Int) == 0) = false := by simp; omega
            have hmi : ((m : Int) + 1 - 1) = (m : Int) := by omega
            have hmm : ((m : Int) == (m : Int)) = true := by simp
            clear hU hz
            go_wp2_with fail
            go_ret
            exact ⟨rfl, HX6.out⟩
end Go.Proofs.Ytlmcahgffakoiaa
