/- One end of a stream: its memory, and the contracts of its small functions. -/
import Derived.Test.YtacfffegmmdgfaaRows
import Derived.Test.YtacfffegmmdgfaaMem
import Derived.WalkKit
import Derived.WalkSpells
import Derived.ProofKit
import Derived.Deep.QuietTactic
import Derived.BigQuiet
import Derived.Deep.RegionHeld3
import Derived.StillTailTactics
import Derived.Deep.MidRow
import Derived.Deep.DeepCutAuto
namespace Go.Proofs.Ytacfffegmmdgfaa
open Go.RowKit
set_option linter.unusedVariables false

structure EndD where
  st : Int
  una : Int
  nxt : Int
  top : Int
  first : Int
  rcv : Int
  out : List UInt8
  inn : List UInt8
  peer : Int
  shut : Bool
  fin : Bool
  due : Bool
  wait : Int
  tries : Int
def U32 (x : Int) : Prop := 0 ≤ x ∧ x < 4294967296
structure EndD.Ok (e : EndD) : Prop where
  st : 0 ≤ e.st ∧ e.st ≤ 5
  una : U32 e.una
  nxt : U32 e.nxt
  top : U32 e.top
  first : U32 e.first
  rcv : U32 e.rcv
  out : e.out.length ≤ 64
  inn : e.inn.length ≤ 64
  peer : 0 ≤ e.peer ∧ e.peer ≤ 255
  wait : 0 ≤ e.wait ∧ e.wait ≤ 3
  tries : 0 ≤ e.tries ∧ e.tries ≤ 7
def endC (e : EndD) (vo vi : Value) : Array Value := #[.int .i64 e.st, .int .u32 e.una, .int .u32 e.nxt, .int .u32 e.top, .int .u32 e.first, .int .u32 e.rcv, vo, vi, .int .i64 e.peer, .bool e.shut, .bool e.fin, .bool e.due, .int .i64 e.wait, .int .i64 e.tries]
abbrev EndB (w : World) (g : Nat) (e : EndD) (vo vi : Value) : Prop := Blk w g 55 (endC e vo vi)
abbrev nilV : Value := .slice none 0 0
def end0 : EndD := ⟨0, 0, 0, 0, 0, 0, [], [], 0, false, false, false, 0, 0⟩
def beginE (state iss : Int) : EndD := ⟨state, iss, iss, iss, (iss + 1) % 4294967296, 0, [], [], 0, false, false, false, 0, 0⟩
theorem grown_set {w w' : World} {g : Nat} (h : w.grownBy w' (some g)) (i : Nat) (v : Value) : w.grownBy (w'.setCell ⟨g, i, none⟩ v) (some g) :=
  ⟨h.os, h.tape, h.output, by simpa using h.size, fun k hk hne => (Below.heap_setCell w' ⟨g, i, none⟩ v k (fun e => hne (by rw [e]))).trans (h.block k hk hne)⟩
theorem grown_drewN {w w' : World} {r : Option Nat} (h : w.grownBy w' r) (n : Nat) : w.grownBy (w'.drewN n) r := ⟨h.os, h.tape, h.output, h.size, h.block⟩
theorem grown_alloc {w w' : World} {r : Option Nat} (h : w.grownBy w' r) (o : Obj) : w.grownBy (w'.alloc o) r := ⟨h.os, h.tape, h.output, by have := h.size; simp; omega, fun k hk hne => (Below.heap_alloc w' o k (Nat.lt_of_lt_of_le hk h.size)).trans (h.block k hk hne)⟩

theorem quiet_eq {P : Program} {f : FuncId} {args : Array Value} {w : World} {n : Nat} {v : Value} (h : Calls P f args (w.drewN n) fun e w' => e = .returned v ∧ w.drewN n = w') : Calls P f args (w.drewN n) fun e w'' => e = .returned v ∧ ∃ m, w'' = w.drewN m :=
  h.mono fun _ _ ⟨he, hm⟩ => ⟨he, n, hm.symm⟩

theorem new_any (w : World) : Calls Try.prog 11 #[] w fun e w' => e = .returned (.pointer (some ⟨w.heap.size, 0, none⟩)) ∧ EndB w' w.heap.size end0 nilV nilV ∧ Ext w w' := by
  go_enter Try.func11, Try.ntmps11
  go_wp2
  go_ret
  exact ⟨rfl, Blk.new _ _ _, (Ext.refl w).alloc _⟩

def begunB (e : EndD) : Bool := decide (2 ≤ e.st ∧ e.st ≤ 4)
theorem begun_any (w : World) (g : Nat) (e : EndD) (vo vi : Value) (hb : EndB w g e vo vi) :
    Calls Try.prog 32 #[.pointer (some ⟨g, 0, none⟩)] w fun r w' => r = .returned (.bool (begunB e)) ∧ w = w' := by
  have c0 : w.cell? ⟨g, 0, none⟩ = some (.int .i64 e.st) := hb.cell 0
  by_cases h2 : 2 ≤ e.st
  · by_cases h4 : e.st ≤ 4
    · have HB := hide (show begunB e = true by simp [begunB, h2, h4])
      rw [HB.out]
      clear hb
      generalize e.st = s at *
      go_enter Try.func32, Try.ntmps32
      go_wp2
      go_ret
      exact ⟨rfl, rfl⟩
    · have HB := hide (show begunB e = false by simp [begunB, h4])
      rw [HB.out]
      clear hb
      generalize e.st = s at *
      go_enter Try.func32, Try.ntmps32
      go_wp2
      go_ret
      exact ⟨rfl, rfl⟩
  · have HB := hide (show begunB e = false by simp [begunB, h2])
    rw [HB.out]
    clear hb
    generalize e.st = s at *
    go_enter Try.func32, Try.ntmps32
    go_wp2
    go_ret
    exact ⟨rfl, rfl⟩

theorem Blk.whole {w : World} {g : Nat} {t : TypeId} {cs vs : Array Value} (h : Blk w g t cs) (hs : vs.size = cs.size) : Blk (w.setCells g 0 vs.toList) g t vs := by
  have key : ∀ (l : List Value) (o : Nat) (w : World) (cs : Array Value), Blk w g t cs → o + l.length ≤ cs.size → Blk (w.setCells g o l) g t (cs.toList.take o ++ l ++ cs.toList.drop (o + l.length)).toArray := by
    intro l
    induction l with
    | nil => intro o w cs h _; simpa [World.setCells] using h
    | cons v l ih =>
      intro o w cs h hl
      simp only [List.length_cons] at hl
      have h1 := ih (o + 1) _ _ (h.set_ o v) (by rw [Array.size_setIfInBounds]; omega)
      have e : (cs.setIfInBounds o v).toList.take (o + 1) ++ l ++ (cs.setIfInBounds o v).toList.drop (o + 1 + l.length) = cs.toList.take o ++ (v :: l) ++ cs.toList.drop (o + (v :: l).length) := by
        have ho : o < cs.toList.length := by simp; omega
        rw [Array.toList_setIfInBounds, List.take_succ_eq_append_getElem (by simp; omega), List.take_set_of_le (Nat.le_refl _), List.drop_set_of_lt (by omega)]
        simp [show o + 1 + l.length = o + (l.length + 1) by omega]
      rw [e] at h1
      exact h1
  have := key vs.toList 0 w cs h (by simp; omega)
  have e : (cs.toList.take 0 ++ vs.toList ++ cs.toList.drop (0 + vs.toList.length)).toArray = vs := by
    rw [List.drop_of_length_le (by simp; omega)]
    simp
  rwa [e] at this
theorem grown_sets {g : Nat} : ∀ (vs : List Value) (o : Nat) {w w' : World}, w.grownBy w' (some g) → w.grownBy (w'.setCells g o vs) (some g)
  | [], _, _, _, h => h
  | v :: r, o, _, _, h => grown_sets r (o + 1) (grown_set h o v)
theorem there_blk {w : World} {g : Nat} {t : TypeId} {cs : Array Value} (h : Blk w g t cs) : w.there g 0 cs.size := fun j hj => by
  rw [Nat.zero_add]
  refine ⟨?_, h.frozen j⟩
  rw [h.cell]
  simp [hj]

theorem begin_ok (w : World) (g : Nat) (e : EndD) (vo vi : Value) (state iss : Int) (hb : EndB w g e vo vi) (hs : e.st = 0) (hi : U32 iss) :
    Calls Try.prog 22 #[.pointer (some ⟨g, 0, none⟩), .int .i64 state, .int .u32 iss] w fun r w' => r = .returned (.int .i64 0) ∧ EndB w' g (beginE state iss) nilV nilV ∧ w.grownBy w' (some g) := by
  have c0 : w.cell? ⟨g, 0, none⟩ = some (.int .i64 e.st) := hb.cell 0
  rw [hs] at c0
  have HTH := hide (show w.there g 0 (#[.int .i64 state, .int .u32 iss, .int .u32 iss, .int .u32 iss, .int .u32 ((iss + 1) % 4294967296), .int .u32 0, nilV, nilV, .int .i64 0, .bool false, .bool false, .bool false, .int .i64 0, .int .i64 0] : Array Value).size by have h : w.there g 0 14 := there_blk hb; exact h)
  obtain ⟨W, hW⟩ : ∃ W, W = w.setCells g 0 #[.int .i64 state, .int .u32 iss, .int .u32 iss, .int .u32 iss, .int .u32 ((iss + 1) % 4294967296), .int .u32 0, nilV, nilV, .int .i64 0, .bool false, .bool false, .bool false, .int .i64 0, .int .i64 0].toList := ⟨_, rfl⟩
  have HE := hide (show EndB W g (beginE state iss) nilV nilV by rw [hW]; exact Blk.whole hb rfl)
  have HG := hide (show w.grownBy W (some g) by rw [hW]; exact grown_sets _ 0 (World.grownBy.refl w (some g)))
  have HW := hide hW
  clear hW
  have HI := hide (show (Try.prog.info? 55).map (·.size) = some (#[.int .i64 state, .int .u32 iss, .int .u32 iss, .int .u32 iss, .int .u32 ((iss + 1) % 4294967296), .int .u32 0, nilV, nilV, .int .i64 0, .bool false, .bool false, .bool false, .int .i64 0, .int .i64 0] : Array Value).size by kernel_rfl)
  have H1 := hide (show (#[.int .i64 state, .int .u32 iss, .int .u32 iss, .int .u32 iss, .int .u32 ((iss + 1) % 4294967296), .int .u32 0, nilV, nilV, .int .i64 0, .bool false, .bool false, .bool false, .int .i64 0, .int .i64 0] : Array Value).all (·.oneCell') = true by simp [Value.oneCell'])
  obtain ⟨hi1, hi2⟩ := hi
  clear hb hs
  go_enter Try.func22, Try.ntmps22
  go_wp2_with ((with_reducible refine wpList_store_mid rfl 55 (.tmp 20) (.tmp 19) rfl g 0 #[.int .i64 state, .int .u32 iss, .int .u32 iss, .int .u32 iss, .int .u32 ((iss + 1) % 4294967296), .int .u32 0, nilV, nilV, .int .i64 0, .bool false, .bool false, .bool false, .int .i64 0, .int .i64 0] rfl rfl HTH.out HI.out H1.out ?_; rw [← HW.out]))
  go_ret
  exact ⟨rfl, HE.out, HG.out⟩
theorem call_ok (w : World) (g : Nat) (e : EndD) (vo vi : Value) (iss : Int) (hb : EndB w g e vo vi) (hs : e.st = 0) (hi : U32 iss) :
    Calls Try.prog 12 #[.pointer (some ⟨g, 0, none⟩), .int .u32 iss] w fun r w' => r = .returned (.int .i64 0) ∧ EndB w' g (beginE 2 iss) nilV nilV ∧ w.grownBy w' (some g) := by
  have H := hide (begin_ok w g e vo vi 2 iss hb hs hi)
  clear hb hs hi
  go_enter Try.func12, Try.ntmps12
  go_wp2_with fail
  refine H.out.mono ?_
  rintro e w' ⟨rfl, h1, h2⟩
  have H1 := hide h1
  have H2 := hide h2
  clear h1 h2
  go_wp2_with fail
  go_ret
  exact ⟨rfl, H1.out, H2.out⟩
theorem listen_ok (w : World) (g : Nat) (e : EndD) (vo vi : Value) (iss : Int) (hb : EndB w g e vo vi) (hs : e.st = 0) (hi : U32 iss) :
    Calls Try.prog 13 #[.pointer (some ⟨g, 0, none⟩), .int .u32 iss] w fun r w' => r = .returned (.int .i64 0) ∧ EndB w' g (beginE 1 iss) nilV nilV ∧ w.grownBy w' (some g) := by
  have H := hide (begin_ok w g e vo vi 1 iss hb hs hi)
  clear hb hs hi
  go_enter Try.func13, Try.ntmps13
  go_wp2_with fail
  refine H.out.mono ?_
  rintro e w' ⟨rfl, h1, h2⟩
  have H1 := hide h1
  have H2 := hide h2
  clear h1 h2
  go_wp2_with fail
  go_ret
  exact ⟨rfl, H1.out, H2.out⟩
theorem tell_any (w : World) (g : Nat) (e : EndD) (A : Option Addr) (n c : Nat) (A' : Option Addr) (n' c' : Nat) (hb : EndB w g e (.slice A n c) (.slice A' n' c')) :
    Calls Try.prog 19 #[.pointer (some ⟨g, 0, none⟩)] w fun r w' => r = .returned (.tuple #[.int .i64 e.st, .int .i64 n, .int .i64 n']) ∧ ∃ d, w' = w.drewN d := by
  have c0 : w.cell? ⟨g, 0, none⟩ = some (.int .i64 e.st) := hb.cell 0
  have c6 : w.cell? ⟨g, 6, none⟩ = some (.slice A n c) := hb.cell 6
  have c7 : w.cell? ⟨g, 7, none⟩ = some (.slice A' n' c') := hb.cell 7
  clear hb
  generalize e.st = s at *
  go_enter Try.func19, Try.ntmps19
  go_wp2_with fail
  go_quiet (fail)
  go_wp2_with fail
  go_ret3
  exact ⟨rfl, _, rfl⟩
def tickE (e : EndD) : EndD :=
  if begunB e = false ∨ e.una = e.nxt then e
  else if e.wait + 1 < 3 then { e with wait := e.wait + 1 }
  else if 6 < e.tries + 1 then { e with wait := 0, tries := e.tries + 1, st := 5 }
  else { e with wait := 0, tries := e.tries + 1, nxt := e.una }
theorem tick_any (w : World) (g : Nat) (e : EndD) (vo vi : Value) (hb : EndB w g e vo vi) (ok : e.Ok) :
    Calls Try.prog 17 #[.pointer (some ⟨g, 0, none⟩)] w fun r w' => r = .returned (.tuple #[]) ∧ EndB w' g (tickE e) vo vi ∧ w.grownBy w' (some g) := by
  have HBG := hide (fun n => begun_any (w.drewN n) g e vo vi (hb.drewN n))
  have c1 : w.cell? ⟨g, 1, none⟩ = some (.int .u32 e.una) := hb.cell 1
  have c2 : w.cell? ⟨g, 2, none⟩ = some (.int .u32 e.nxt) := hb.cell 2
  have c12 : w.cell? ⟨g, 12, none⟩ = some (.int .i64 e.wait) := hb.cell 12
  have c13 : w.cell? ⟨g, 13, none⟩ = some (.int .i64 e.tries) := hb.cell 13
  have c0 : w.cell? ⟨g, 0, none⟩ = some (.int .i64 e.st) := hb.cell 0
  have f0 := hb.frozen 0
  have f2 := hb.frozen 2
  have f12 := hb.frozen 12
  have f13 := hb.frozen 13
  obtain ⟨w1, w2⟩ := ok.wait
  obtain ⟨t1, t2⟩ := ok.tries
  have HB := hide hb
  have HT := hide (show tickE e = if begunB e = false ∨ e.una = e.nxt then e else if e.wait + 1 < 3 then { e with wait := e.wait + 1 } else if 6 < e.tries + 1 then { e with wait := 0, tries := e.tries + 1, st := 5 } else { e with wait := 0, tries := e.tries + 1, nxt := e.una } from rfl)
  clear hb ok
  cases hbg : begunB e with
  | false =>
    rw [hbg] at HBG HT
    have HT' := hide (show tickE e = e by rw [HT.out]; simp)
    clear hbg
    go_enter Try.func17, Try.ntmps17
    go_upto_region 0 with fail
    go_quiet ((go_at_call 32; exact quiet_eq (HBG.out _)))
    go_wp2_with fail
    (first | go_end0 | ((try simp only [Exit.inBlock, Exit.then]); refine bodyPost_ret (results_none rfl _ _ _) rfl ?_))
    exact ⟨rfl, by rw [HT'.out]; exact HB.out.drewN _, grown_drewN (World.grownBy.refl w _) _⟩
  | true =>
    rw [hbg] at HBG HT
    clear hbg
    by_cases hu : e.una = e.nxt
    · have tu : (e.una == e.nxt) = true := by simpa using hu
      have HT' := hide (show tickE e = e by rw [HT.out]; simp [hu])
      clear hu
      generalize e.una = ua at *
      generalize e.nxt = nx at *
      go_enter Try.func17, Try.ntmps17
      go_upto_region 0 with fail
      go_quiet ((go_at_call 32; exact quiet_eq (HBG.out _)))
      go_wp2_with fail
      (first | go_end0 | ((try simp only [Exit.inBlock, Exit.then]); refine bodyPost_ret (results_none rfl _ _ _) rfl ?_))
      exact ⟨rfl, by rw [HT'.out]; exact HB.out.drewN _, grown_drewN (World.grownBy.refl w _) _⟩
    · have tu : (e.una == e.nxt) = false := by simpa using hu
      by_cases hw3 : e.wait + 1 < 3
      · have HT' := hide (show tickE e = { e with wait := e.wait + 1 } by rw [HT.out]; simp [hu, hw3])
        have HB1 := hide (fun nq => show EndB ((w.drewN nq).setCell ⟨g, 12, none⟩ (.int .i64 (e.wait + 1))) g { e with wait := e.wait + 1 } vo vi from (HB.out.drewN nq).set_ 12 _)
        generalize e.una = ua at *
        generalize e.nxt = nx at *
        generalize e.wait = wt at *
        go_enter Try.func17, Try.ntmps17
        go_upto_region 0 with fail
        go_quiet ((go_at_call 32; exact quiet_eq (HBG.out _)))
        go_wp2_with fail
        (first | go_end0 | ((try simp only [Exit.inBlock, Exit.then]); refine bodyPost_ret (results_none rfl _ _ _) rfl ?_))
        exact ⟨rfl, by rw [HT'.out]; exact HB1.out _, grown_set (grown_drewN (World.grownBy.refl w _) _) _ _⟩
      · by_cases ht6 : 6 < e.tries + 1
        · have HT' := hide (show tickE e = { e with wait := 0, tries := e.tries + 1, st := 5 } by rw [HT.out]; simp [hu, hw3, ht6])
          have HB1 := hide (fun nq => show EndB (((((w.drewN nq).setCell ⟨g, 12, none⟩ (.int .i64 (e.wait + 1))).setCell ⟨g, 12, none⟩ (.int .i64 0)).setCell ⟨g, 13, none⟩ (.int .i64 (e.tries + 1))).setCell ⟨g, 0, none⟩ (.int .i64 5)) g { e with wait := 0, tries := e.tries + 1, st := 5 } vo vi from ((((HB.out.drewN nq).set_ 12 _).set_ 12 _).set_ 13 _).set_ 0 _)
          generalize e.una = ua at *
          generalize e.nxt = nx at *
          generalize e.wait = wt at *
          generalize e.tries = tr at *
          go_enter Try.func17, Try.ntmps17
          go_upto_region 0 with fail
          go_quiet ((go_at_call 32; exact quiet_eq (HBG.out _)))
          go_wp2_with fail
          (first | go_end0 | ((try simp only [Exit.inBlock, Exit.then]); refine bodyPost_ret (results_none rfl _ _ _) rfl ?_))
          exact ⟨rfl, by rw [HT'.out]; exact HB1.out _, grown_set (grown_set (grown_set (grown_set (grown_drewN (World.grownBy.refl w _) _) _ _) _ _) _ _) _ _⟩
        · have HT' := hide (show tickE e = { e with wait := 0, tries := e.tries + 1, nxt := e.una } by rw [HT.out]; simp [hu, hw3, ht6])
          have HB1 := hide (fun nq => show EndB (((((w.drewN nq).setCell ⟨g, 12, none⟩ (.int .i64 (e.wait + 1))).setCell ⟨g, 12, none⟩ (.int .i64 0)).setCell ⟨g, 13, none⟩ (.int .i64 (e.tries + 1))).setCell ⟨g, 2, none⟩ (.int .u32 e.una)) g { e with wait := 0, tries := e.tries + 1, nxt := e.una } vo vi from ((((HB.out.drewN nq).set_ 12 _).set_ 12 _).set_ 13 _).set_ 2 _)
          generalize e.una = ua at *
          generalize e.nxt = nx at *
          generalize e.wait = wt at *
          generalize e.tries = tr at *
          go_enter Try.func17, Try.ntmps17
          go_upto_region 0 with fail
          go_quiet ((go_at_call 32; exact quiet_eq (HBG.out _)))
          go_wp2_with fail
          (first | go_end0 | ((try simp only [Exit.inBlock, Exit.then]); refine bodyPost_ret (results_none rfl _ _ _) rfl ?_))
          exact ⟨rfl, by rw [HT'.out]; exact HB1.out _, grown_set (grown_set (grown_set (grown_set (grown_drewN (World.grownBy.refl w _) _) _ _) _ _) _ _) _ _⟩
def beforeB (a b : Int) : Bool := decide (2147483648 ≤ (a - b) % 4294967296)
theorem before_any (w : World) (a b : Int) (ha : U32 a) (hb : U32 b) :
    Calls Try.prog 43 #[.int .u32 a, .int .u32 b] w fun r w' => r = .returned (.bool (beforeB a b)) ∧ w = w' := by
  obtain ⟨a1, a2⟩ := ha
  obtain ⟨b1, b2⟩ := hb
  go_enter Try.func43, Try.ntmps43
  go_wp2
  go_ret
  refine ⟨?_, rfl⟩
  show Ending.returned (.bool (decide (wrap32 ((a - b) % 4294967296) < 0))) = _
  congr 2
  unfold wrap32 beforeB
  simp only [decide_eq_decide]
  omega
/-- How many places a segment takes. -/
def spanF (f n : Int) : Int := n + (if f % 2 = 1 then 1 else 0) + (if f / 4 % 2 = 1 then 1 else 0)
theorem span_any (w : World) (q a f wd : Int) (A : Option Addr) (n c : Nat) (hf : 0 ≤ f ∧ f ≤ 15) (hn : n ≤ 1000) :
    Calls Try.prog 42 #[.agg #[.int .u32 q, .int .u32 a, .int .i64 f, .int .i64 wd, .slice A n c]] w fun r w' => r = .returned (.int .i64 (spanF f n)) ∧ Ext w w' := by
  obtain ⟨f1, f2⟩ := hf
  have hc : f = 0 ∨ f = 1 ∨ f = 2 ∨ f = 3 ∨ f = 4 ∨ f = 5 ∨ f = 6 ∨ f = 7 ∨ f = 8 ∨ f = 9 ∨ f = 10 ∨ f = 11 ∨ f = 12 ∨ f = 13 ∨ f = 14 ∨ f = 15 := by omega
  rcases hc with rfl | rfl | rfl | rfl | rfl | rfl | rfl | rfl | rfl | rfl | rfl | rfl | rfl | rfl | rfl | rfl
  all_goals
    go_enter Try.func42, Try.ntmps42
    go_wp2
    go_ret
    exact ⟨ret_int (by simp [spanF]; try omega), (Ext.refl w).alloc _⟩
end Go.Proofs.Ytacfffegmmdgfaa
