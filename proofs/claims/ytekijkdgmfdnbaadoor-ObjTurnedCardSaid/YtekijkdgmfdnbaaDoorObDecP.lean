/- Reading a part, as the program does it: garbage behind an end included; and that it reads what restR reads. Plain theorems. -/
import Derived.Test.YtekijkdgmfdnbaaDoorObRd
namespace Go.Proofs.YtekijkdgmfdnbaaDoor
open Go.RowKit
set_option linter.unusedVariables false

def wordM (s : Option Bs) : Nat × Option Bs := (hv s + 65536 * hv (hs_ s), hs_ (hs_ s))
def nmM (s : Option Bs) : NmD × Option Bs := (⟨tv s, ((hv (ts_ s) % 4 : Nat) : Int), (hv (hs_ (ts_ s)) : Int), decide (4 ≤ hv (ts_ s))⟩, hs_ (hs_ (ts_ s)))
def neM (s : Option Bs) : NeD × Option Bs := (⟨(hv (hs_ (ts_ s)) : Int), tv s, (hv (ts_ s) : Int)⟩, hs_ (hs_ (ts_ s)))
section
variable {α : Type}
def manyM (f : Option Bs → α × Option Bs) : Nat → Option Bs → List α → List α × Option Bs
  | 0, s, acc => (acc, s)
  | _ + 1, none, acc => (acc, none)
  | n + 1, some r, acc => manyM f n (f (some r)).2 (acc ++ [(f (some r)).1])
theorem manyM_none (f : Option Bs → α × Option Bs) (n : Nat) (acc : List α) : manyM f n none acc = (acc, none) := by cases n <;> rfl
def Tracks (f : Option Bs → α × Option Bs) (g : Bs → Option (α × Bs)) : Prop := ∀ r, (g r = none → (f (some r)).2 = none) ∧ ∀ x t, g r = some (x, t) → f (some r) = (x, some t)
theorem manyM_tracks {f : Option Bs → α × Option Bs} {g : Bs → Option (α × Bs)} (h : Tracks f g) : ∀ (n : Nat) (r : Bs) (acc : List α), (manyR g n r = none → (manyM f n (some r) acc).2 = none) ∧ ∀ l t, manyR g n r = some (l, t) → manyM f n (some r) acc = (acc ++ l, some t) := by
  intro n
  induction n with
  | zero =>
    intro r acc
    refine ⟨fun e => (by cases e), fun l t e => ?_⟩
    simp only [manyR, Option.some.injEq, Prod.mk.injEq] at e
    obtain ⟨rfl, rfl⟩ := e
    simp [manyM]
  | succ n ih =>
    intro r acc
    simp only [manyR, manyM]
    cases hg : g r with
    | none => exact ⟨fun _ => by rw [(h r).1 hg, manyM_none], fun l t e => (by cases e)⟩
    | some x =>
      obtain ⟨x, t1⟩ := x
      rw [(h r).2 x t1 hg]
      simp only [Option.bind_some]
      cases hm : manyR g n t1 with
      | none => exact ⟨fun _ => (ih t1 _).1 hm, fun l t e => (by cases e)⟩
      | some y =>
        obtain ⟨l1, t2⟩ := y
        refine ⟨fun e => (by cases e), fun l t e => ?_⟩
        simp only [Option.map_some, Option.some.injEq, Prod.mk.injEq] at e
        obtain ⟨rfl, rfl⟩ := e
        rw [(ih t1 _).2 l1 t2 hm, List.append_assoc]
        rfl
theorem manyM_all {f : Option Bs → α × Option Bs} {P : α → Prop} (h : ∀ s, P (f s).1) : ∀ (n : Nat) (s : Option Bs) (acc : List α), (∀ x ∈ acc, P x) → ∀ x ∈ (manyM f n s acc).1, P x := by
  intro n
  induction n with
  | zero => intro s acc ha; exact ha
  | succ n ih =>
    intro s acc ha
    cases s with
    | none => exact ha
    | some r =>
      refine ih _ _ (fun x hx => ?_)
      rcases List.mem_append.1 hx with hx | hx
      · exact ha x hx
      · rw [List.mem_singleton] at hx
        rw [hx]
        exact h _
theorem manyM_len {f : Option Bs → α × Option Bs} : ∀ (n : Nat) (s : Option Bs) (acc : List α), (manyM f n s acc).1.length ≤ acc.length + n := by
  intro n
  induction n with
  | zero => intro s acc; exact Nat.le_refl _
  | succ n ih =>
    intro s acc
    cases s with
    | none => exact Nat.le_add_right _ _
    | some r =>
      have := ih (f (some r)).2 (acc ++ [(f (some r)).1])
      rw [List.length_append] at this
      simp only [List.length_cons, List.length_nil] at this
      show (manyM f n (f (some r)).2 (acc ++ [(f (some r)).1])).1.length ≤ _
      omega
end
theorem hv_some {r : Bs} {x : Nat} {t : Bs} (h : halfR r = some (x, t)) : hv (some r) = x ∧ hs_ (some r) = some t := by simp [hv, hs_, h]
theorem hv_none {r : Bs} (h : halfR r = none) : hs_ (some r) = none := by simp [hs_, h]
theorem hs_none : hs_ none = none := rfl
theorem tv_some {r : Bs} {x : Bs} {t : Bs} (h : textR r = some (x, t)) : tv (some r) = x ∧ ts_ (some r) = some t := by simp [tv, ts_, h]
theorem tv_none {r : Bs} (h : textR r = none) : ts_ (some r) = none := by simp [ts_, h]
theorem word_tracks : Tracks wordM wordR := by
  intro r
  unfold wordR wordM
  cases h1 : halfR r with
  | none => exact ⟨fun _ => by simp only [hv_none h1, hs_none], fun x t e => by cases e⟩
  | some a =>
    obtain ⟨a, t1⟩ := a
    rw [(hv_some h1).1, (hv_some h1).2]
    simp only [Option.bind_some]
    cases h2 : halfR t1 with
    | none => exact ⟨fun _ => hv_none h2, fun x t e => by cases e⟩
    | some b =>
      obtain ⟨b, t2⟩ := b
      rw [(hv_some h2).1, (hv_some h2).2]
      refine ⟨fun e => (by cases e), fun x t e => ?_⟩
      simp only [Option.map_some, Option.some.injEq, Prod.mk.injEq] at e
      obtain ⟨rfl, rfl⟩ := e
      rfl
theorem nm_tracks : Tracks nmM nmR := by
  intro r
  unfold nmR nmM
  cases h0 : textR r with
  | none => exact ⟨fun _ => by simp only [tv_none h0, hs_none], fun x t e => by cases e⟩
  | some q =>
    obtain ⟨q, t0⟩ := q
    rw [(tv_some h0).1, (tv_some h0).2]
    simp only [Option.bind_some]
    cases h1 : halfR t0 with
    | none => exact ⟨fun _ => by simp only [hv_none h1, hs_none], fun x t e => by cases e⟩
    | some a =>
      obtain ⟨a, t1⟩ := a
      rw [(hv_some h1).1, (hv_some h1).2]
      simp only [Option.bind_some]
      cases h2 : halfR t1 with
      | none => exact ⟨fun _ => hv_none h2, fun x t e => by cases e⟩
      | some b =>
        obtain ⟨b, t2⟩ := b
        rw [(hv_some h2).1, (hv_some h2).2]
        refine ⟨fun e => (by cases e), fun x t e => ?_⟩
        simp only [Option.map_some, Option.some.injEq, Prod.mk.injEq] at e
        obtain ⟨rfl, rfl⟩ := e
        rfl
theorem ne_tracks : Tracks neM neR := by
  intro r
  unfold neR neM
  cases h0 : textR r with
  | none => exact ⟨fun _ => by simp only [tv_none h0, hs_none], fun x t e => by cases e⟩
  | some q =>
    obtain ⟨q, t0⟩ := q
    rw [(tv_some h0).1, (tv_some h0).2]
    simp only [Option.bind_some]
    cases h1 : halfR t0 with
    | none => exact ⟨fun _ => by simp only [hv_none h1, hs_none], fun x t e => by cases e⟩
    | some a =>
      obtain ⟨a, t1⟩ := a
      rw [(hv_some h1).1, (hv_some h1).2]
      simp only [Option.bind_some]
      cases h2 : halfR t1 with
      | none => exact ⟨fun _ => hv_none h2, fun x t e => by cases e⟩
      | some b =>
        obtain ⟨b, t2⟩ := b
        rw [(hv_some h2).1, (hv_some h2).2]
        refine ⟨fun e => (by cases e), fun x t e => ?_⟩
        simp only [Option.map_some, Option.some.injEq, Prod.mk.injEq] at e
        obtain ⟨rfl, rfl⟩ := e
        rfl
/-- The four steps of Decode. -/
def dec1 (bs : Bs) : List Nat × Option Bs := manyM wordM (hv (some bs)) (hs_ (some bs)) []
def dec2 (s : Option Bs) : Bs × Option Bs := (kv (hv s) (hs_ s), ks_ (hv s) (hs_ s))
def dec3 (s : Option Bs) : List NmD × Option Bs := manyM nmM (hv s) (hs_ s) []
def dec4 (s : Option Bs) : List NeD × Option Bs := manyM neM (hv s) (hs_ s) []
def decM (bs : Bs) : ObD × Option Bs := (⟨(dec1 bs).1, (dec2 (dec1 bs).2).1, (dec3 (dec2 (dec1 bs).2).2).1, (dec4 (dec3 (dec2 (dec1 bs).2).2).2).1⟩, (dec4 (dec3 (dec2 (dec1 bs).2).2).2).2)
theorem dec2_none : (dec2 none).2 = none := rfl
theorem dec3_none : (dec3 none).2 = none := by simp [dec3, hs_none, manyM_none]
theorem dec4_none : (dec4 none).2 = none := by simp [dec4, hs_none, manyM_none]
theorem many_steps {α : Type} {f : Option Bs → α × Option Bs} {g : Bs → Option (α × Bs)} (h : Tracks f g) (r : Bs) :
    ((halfR r).bind (fun a => manyR g a.1 a.2) = none → (manyM f (hv (some r)) (hs_ (some r)) []).2 = none) ∧ ∀ l t, (halfR r).bind (fun a => manyR g a.1 a.2) = some (l, t) → manyM f (hv (some r)) (hs_ (some r)) [] = (l, some t) := by
  cases h1 : halfR r with
  | none => exact ⟨fun _ => by rw [hv_none h1, manyM_none], fun l t e => (by cases e)⟩
  | some a =>
    obtain ⟨a, t1⟩ := a
    rw [(hv_some h1).1, (hv_some h1).2]
    simp only [Option.bind_some]
    have := manyM_tracks h a t1 []
    simpa using this
theorem dec2_steps (r : Bs) : ((halfR r).bind (fun a => takeR a.1 a.2) = none → (dec2 (some r)).2 = none) ∧ ∀ l t, (halfR r).bind (fun a => takeR a.1 a.2) = some (l, t) → dec2 (some r) = (l, some t) := by
  unfold dec2
  cases h1 : halfR r with
  | none => exact ⟨fun _ => by rw [hv_none h1]; rfl, fun l t e => (by cases e)⟩
  | some a =>
    obtain ⟨a, t1⟩ := a
    rw [(hv_some h1).1, (hv_some h1).2]
    simp only [Option.bind_some]
    cases h2 : takeR a t1 with
    | none => exact ⟨fun _ => by simp [ks_, h2], fun l t e => (by cases e)⟩
    | some y =>
      obtain ⟨l1, t2⟩ := y
      refine ⟨fun e => (by cases e), fun l t e => ?_⟩
      simp only [Option.some.injEq, Prod.mk.injEq] at e
      obtain ⟨rfl, rfl⟩ := e
      simp [kv, ks_, h2]
theorem restR_eq (r : Bs) : restR r = ((halfR r).bind fun a => manyR wordR a.1 a.2).bind fun cs => ((halfR cs.2).bind fun b => takeR b.1 b.2).bind fun ds => ((halfR ds.2).bind fun c => manyR nmR c.1 c.2).bind fun ns => ((halfR ns.2).bind fun d => manyR neR d.1 d.2).map fun es => (⟨cs.1, ds.1, ns.1, es.1⟩, es.2) := by
  unfold restR
  simp only [Option.bind_assoc, Option.map_bind]
  rfl
theorem decM_rest (bs : Bs) : (restR bs = none → (decM bs).2 = none) ∧ ∀ o t, restR bs = some (o, t) → decM bs = (o, some t) := by
  rw [restR_eq]
  unfold decM dec1
  obtain ⟨a1, a2⟩ := many_steps word_tracks bs
  cases h1 : (halfR bs).bind fun a => manyR wordR a.1 a.2 with
  | none =>
    rw [a1 h1]
    exact ⟨fun _ => by rw [dec2_none, dec3_none, dec4_none], fun o t e => by cases e⟩
  | some x =>
    obtain ⟨l1, t1⟩ := x
    rw [a2 l1 t1 h1]
    simp only [Option.bind_some]
    obtain ⟨b1, b2⟩ := dec2_steps t1
    cases h2 : (halfR t1).bind fun a => takeR a.1 a.2 with
    | none =>
      rw [b1 h2]
      exact ⟨fun _ => by rw [dec3_none, dec4_none], fun o t e => by cases e⟩
    | some x =>
      obtain ⟨l2, t2⟩ := x
      rw [b2 l2 t2 h2]
      simp only [Option.bind_some]
      obtain ⟨c1, c2⟩ := many_steps nm_tracks t2
      unfold dec3
      cases h3 : (halfR t2).bind fun a => manyR nmR a.1 a.2 with
      | none =>
        rw [c1 h3]
        exact ⟨fun _ => by rw [dec4_none], fun o t e => by cases e⟩
      | some x =>
        obtain ⟨l3, t3⟩ := x
        rw [c2 l3 t3 h3]
        simp only [Option.bind_some]
        obtain ⟨d1, d2⟩ := many_steps ne_tracks t3
        unfold dec4
        cases h4 : (halfR t3).bind fun a => manyR neR a.1 a.2 with
        | none =>
          exact ⟨fun _ => d1 h4, fun o t e => by cases e⟩
        | some x =>
          obtain ⟨l4, t4⟩ := x
          rw [d2 l4 t4 h4]
          refine ⟨fun e => (by cases e), fun o t e => ?_⟩
          simp only [Option.map_some, Option.some.injEq, Prod.mk.injEq] at e
          obtain ⟨rfl, rfl⟩ := e
          rfl
theorem kv_len (k : Nat) (s : Option Bs) : (kv k s).length ≤ k := by
  unfold kv
  cases s with
  | none => simp
  | some r =>
    by_cases h : r.length < k
    · simp [takeR, h]
    · simp [takeR, h]; omega
theorem tv_len (s : Option Bs) : (tv s).length ≤ 255 := by
  obtain ⟨h1, h2⟩ := text_take s
  by_cases h : ks_ 1 s = none
  · rw [(h1 h).1]; simp
  · rw [(h2 h).1]
    have := kv_len ((kv 1 s).getD 0 0).toNat (ks_ 1 s)
    have := ((kv 1 s).getD 0 0).toNat_lt
    omega
/-- What is read can be looked at. -/
theorem decM_sm (bs : Bs) : ObSm (decM bs).1 := by
  have a1 := manyM_len (f := wordM) (hv (some bs)) (hs_ (some bs)) []
  have a3 := fun s => manyM_len (f := nmM) (hv s) (hs_ s) []
  have a4 := fun s => manyM_len (f := neM) (hv s) (hs_ s) []
  have b1 := hv_lt (some bs)
  simp only [List.length_nil] at a1 a3 a4
  refine ⟨?_, ?_, ?_, ?_, ?_, ?_, ?_⟩
  · show (manyM wordM _ _ []).1.length ≤ _; omega
  · show (kv _ _).length ≤ _
    have := kv_len (hv (dec1 bs).2) (hs_ (dec1 bs).2)
    have := hv_lt (dec1 bs).2
    omega
  · show (manyM nmM _ _ []).1.length ≤ _
    have := a3 (dec2 (dec1 bs).2).2
    have := hv_lt (dec2 (dec1 bs).2).2
    omega
  · show (manyM neM _ _ []).1.length ≤ _
    have := a4 (dec3 (dec2 (dec1 bs).2).2).2
    have := hv_lt (dec3 (dec2 (dec1 bs).2).2).2
    omega
  · exact manyM_all (P := fun x => x < 4294967296) (fun s => by have := hv_lt s; have := hv_lt (hs_ s); show hv s + 65536 * hv (hs_ s) < _; omega) _ _ [] (by simp)
  · exact manyM_all (P := fun n : NmD => n.name.length ≤ 1000 ∧ (-1000000 ≤ n.pos ∧ n.pos ≤ 1000000) ∧ -1000000 ≤ n.wh ∧ n.wh ≤ 1000000) (fun s => by
      have h1 := tv_len s
      have h2 := hv_lt (ts_ s)
      have h3 := hv_lt (hs_ (ts_ s))
      show (tv s).length ≤ 1000 ∧ (-1000000 ≤ (hv (hs_ (ts_ s)) : Int) ∧ (hv (hs_ (ts_ s)) : Int) ≤ 1000000) ∧ -1000000 ≤ ((hv (ts_ s) % 4 : Nat) : Int) ∧ ((hv (ts_ s) % 4 : Nat) : Int) ≤ 1000000
      omega) _ _ [] (by simp)
  · exact manyM_all (P := fun n : NeD => n.name.length ≤ 1000 ∧ (-1000000 ≤ n.pos ∧ n.pos ≤ 1000000) ∧ -1000000 ≤ n.kind ∧ n.kind ≤ 1000000) (fun s => by
      have h1 := tv_len s
      have h2 := hv_lt (ts_ s)
      have h3 := hv_lt (hs_ (ts_ s))
      show (tv s).length ≤ 1000 ∧ (-1000000 ≤ (hv (hs_ (ts_ s)) : Int) ∧ (hv (hs_ (ts_ s)) : Int) ≤ 1000000) ∧ -1000000 ≤ (hv (ts_ s) : Int) ∧ (hv (ts_ s) : Int) ≤ 1000000
      omega) _ _ [] (by simp)
end Go.Proofs.YtekijkdgmfdnbaaDoor
