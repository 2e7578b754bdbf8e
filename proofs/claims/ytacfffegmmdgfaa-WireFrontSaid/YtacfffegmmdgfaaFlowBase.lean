/- What comes to an end that is as it may be leaves one; functions turned at one place. Plain laws. -/
import Derived.Test.YtacfffegmmdgfaaComeF
import Derived.Test.YtacfffegmmdgfaaOutAny
import Derived.Test.YtacfffegmmdgfaaEndRW
import Derived.Test.YtacfffegmmdgfaaEndWr
namespace Go.Proofs.Ytacfffegmmdgfaa
open Go.RowKit
set_option linter.unusedVariables false

def upd {α : Type} (f : Nat → α) (i : Nat) (x : α) : Nat → α := fun j => if j = i then x else f j
theorem upd_same {α : Type} (f : Nat → α) (i : Nat) (x : α) : upd f i x i = x := if_pos rfl
theorem upd_other {α : Type} (f : Nat → α) {i j : Nat} (x : α) (h : j ≠ i) : upd f i x j = f j := if_neg h
theorem lt2 {i : Nat} (h : i < 2) : i = 0 ∨ i = 1 := by omega
theorem spanF_le (f : Int) (n : Nat) : 0 ≤ spanF f n ∧ spanF f n ≤ n + 2 := by unfold spanF; split <;> split <;> omega
theorem take_ok {e : EndD} (ok : e.Ok) (q f : Int) (ds : List UInt8) : (takeE e q f ds).Ok := by
  unfold takeE
  split
  · exact ok
  · split
    · exact ⟨ok.st, ok.una, ok.nxt, ok.top, ok.first, ok.rcv, ok.out, ok.inn, ok.peer, ok.wait, ok.tries⟩
    · rename_i hr
      refine ⟨ok.st, ok.una, ok.nxt, ok.top, ok.first, ⟨Int.emod_nonneg _ (by omega), Int.emod_lt_of_pos _ (by omega)⟩, ok.out, ?_, ok.peer, ok.wait, ok.tries⟩
      show (e.inn ++ ds).length ≤ 64
      rw [List.length_append]
      unfold refuseB at hr
      simp only [Bool.or_eq_true, not_or, decide_eq_true_iff] at hr
      omega
theorem come_ok {e : EndD} (ok : e.Ok) (q a f wd : Int) (ds : List UInt8) (hq : U32 q) (ha : U32 a) (hw : 0 ≤ wd ∧ wd ≤ 255) : (comeE e q a f wd ds).Ok := by
  have hq1 : U32 ((q + 1) % 4294967296) := ⟨Int.emod_nonneg _ (by omega), Int.emod_lt_of_pos _ (by omega)⟩
  unfold comeE
  split
  · exact ok
  split
  · split
    · exact ok
    · exact ⟨⟨by simp, by simp⟩, ok.una, ok.nxt, ok.top, ok.first, ok.rcv, ok.out, ok.inn, ok.peer, ok.wait, ok.tries⟩
  split
  · split
    · exact ⟨⟨by simp [meetE], by simp [meetE]⟩, ok.una, ok.nxt, ok.top, ok.first, hq1, ok.out, ok.inn, hw, ok.wait, ok.tries⟩
    · exact ok
  split
  · split
    · exact ⟨⟨by simp [openE], by simp [openE]⟩, ok.first, ok.first, ok.first, ok.first, hq1, ok.out, ok.inn, hw, by simp [openE], by simp [openE]⟩
    · exact ok
  split
  · split
    · split
      · exact ⟨ok.st, ok.una, ok.una, ok.top, ok.first, ok.rcv, ok.out, ok.inn, ok.peer, ok.wait, ok.tries⟩
      · exact ok
    · split
      · exact take_ok (heard_ok ok wd hw) _ _ _
      · exact ok
  split
  · exact take_ok ok _ _ _
  · exact take_ok (answer_ok ok a wd ha hw) _ _ _
def comeS (e : EndD) (s : SegD) : EndD := comeE e s.seq s.ack s.fl s.wd s.data
theorem comeS_ok {e : EndD} (ok : e.Ok) {s : SegD} (hs : s.Ok) : (comeS e s).Ok := come_ok ok _ _ _ _ _ hs.seq hs.ack (by have := hs.wd; omega)
def comeL (e : EndD) (l : List SegD) : EndD := l.foldl comeS e
theorem comeL_ok {e : EndD} (ok : e.Ok) {l : List SegD} (h : ∀ s ∈ l, s.Ok) : (comeL e l).Ok := by
  induction l generalizing e with
  | nil => exact ok
  | cons s l ih => exact ih (comeS_ok ok (h s (by simp))) (fun x hx => h x (by simp [hx]))
theorem comeL_snoc (e : EndD) (l : List SegD) (s : SegD) : comeL e (l ++ [s]) = comeS (comeL e l) s := by simp [comeL]
theorem segs_ok_say {e : EndD} (ok : e.Ok) (f : Int) (ds : List UInt8) (hf : f = 0 ∨ f = 1 ∨ f = 4) (hd : ds.length ≤ 32) (h4 : f = 1 → (e.st = 2 ∨ e.st = 3)) (h5 : f ≠ 1 → e.st = 4) : (segOf e f ds).Ok := by
  have hi := ok.inn
  refine ⟨ok.nxt, ?_, ?_, ⟨?_, ?_⟩, hd⟩
  · show U32 (ackE e)
    unfold ackE
    split
    · exact ok.rcv
    · exact ⟨by omega, by omega⟩
  · show flE e f = 1 ∨ flE e f = 2 ∨ flE e f = 3 ∨ flE e f = 6
    unfold flE
    split
    · omega
    · rename_i h
      by_cases h1 : f = 1
      · exact .inl h1
      · have := h5 h1; omega
  · show 0 ≤ 64 - (e.inn.length : Int); omega
  · show 64 - (e.inn.length : Int) ≤ 64; omega
theorem outLoop_ok : ∀ (k : Nat) (e : EndD), e.Ok → e.st = 4 → (outLoop k e).1.Ok ∧ (outLoop k e).1.st = 4 ∧ ∀ s ∈ (outLoop k e).2, s.Ok
  | 0, e, ok, h4 => ⟨ok, h4, fun _ h => by cases h⟩
  | k + 1, e, ok, h4 => by
    unfold outLoop
    split
    · exact ⟨ok, h4, fun _ h => by cases h⟩
    · rename_i hn
      obtain ⟨h1, h2, h3⟩ := outLoop_ok k (sayE e 0 (outN e)) (say_ok ok _ _) h4
      refine ⟨h1, h2, fun s hs => ?_⟩
      rcases List.mem_cons.1 hs with rfl | hs
      · refine segs_ok_say ok 0 _ (.inl rfl) ?_ (fun h => absurd h (by decide)) (fun _ => h4)
        unfold outDs
        rw [List.length_take]
        have : outN e ≤ 32 := by unfold outN; omega
        omega
      · exact h3 s hs
theorem out_ok {e : EndD} (ok : e.Ok) : (outE e).1.Ok ∧ ∀ s ∈ (outE e).2, s.Ok := by
  unfold outE
  split
  · rename_i h
    refine ⟨say_ok ok _ _, fun s hs => ?_⟩
    obtain rfl := List.mem_singleton.1 hs
    exact segs_ok_say ok 1 [] (.inr (.inl rfl)) (by simp) (fun _ => h.1) (fun h => absurd rfl h)
  · split
    · rename_i _ h4
      obtain ⟨h1, h2, h3⟩ := outLoop_ok 64 e ok h4
      generalize outLoop 64 e = r at *
      have hf : (outFin r).1.Ok ∧ (outFin r).1.st = 4 ∧ ∀ s ∈ (outFin r).2, s.Ok := by
        unfold outFin
        split
        · refine ⟨say_ok h1 _ _, h2, fun s hs => ?_⟩
          rcases List.mem_append.1 hs with hs | hs
          · exact h3 s hs
          · obtain rfl := List.mem_singleton.1 hs
            exact segs_ok_say h1 4 [] (.inr (.inr rfl)) (by simp) (fun h => absurd h (by decide)) (fun _ => h2)
        · exact ⟨h1, h2, h3⟩
      obtain ⟨h1, h2, h3⟩ := hf
      generalize outFin r = r at *
      unfold outDue
      split
      · refine ⟨say_ok h1 _ _, fun s hs => ?_⟩
        rcases List.mem_append.1 hs with hs | hs
        · exact h3 s hs
        · obtain rfl := List.mem_singleton.1 hs
          exact segs_ok_say h1 0 [] (.inl rfl) (by simp) (fun h => absurd h (by decide)) (fun _ => h2)
      · exact ⟨h1, h3⟩
    · exact ⟨ok, fun _ h => by cases h⟩
theorem outLoop_same : ∀ (k : Nat) (e : EndD), (outLoop k e).1.out = e.out ∧ (outLoop k e).1.inn = e.inn
  | 0, e => ⟨rfl, rfl⟩
  | k + 1, e => by
    unfold outLoop
    split
    · exact ⟨rfl, rfl⟩
    · exact outLoop_same k (sayE e 0 (outN e))
theorem out_same (e : EndD) : (outE e).1.out = e.out ∧ (outE e).1.inn = e.inn := by
  unfold outE
  split
  · exact ⟨rfl, rfl⟩
  · split
    · have h := outLoop_same 64 e
      generalize outLoop 64 e = r at *
      have hf : (outFin r).1.out = e.out ∧ (outFin r).1.inn = e.inn := by unfold outFin; split <;> exact h
      generalize outFin r = r at *
      unfold outDue
      split <;> exact hf
    · exact ⟨rfl, rfl⟩
theorem Reads.keepF {w w' : World} {F : Nat → Prop} {B n : Nat} {A : Option Addr} {xs : List Value} (h : Reads w B 1 A n xs) (hk : KeepF F w w') (hB : B ≤ w.heap.size) (hF : ∀ a, A = some a → a.block < B → ¬ F a.block) : Reads w' B 1 A n xs :=
  ⟨h.1, fun hn => by
    obtain ⟨ad, e, hb, hc⟩ := h.2 hn
    exact ⟨ad, e, hb, fun j u hu => (World.cell?_of_block (by rw [add_block]; exact hk.block ad.block (by omega) (hF ad e hb))).trans (hc j u hu)⟩⟩
theorem readTo_ok {e : EndD} (ok : e.Ok) (n : Nat) : (readTo e n).Ok :=
  ⟨ok.st, ok.una, ok.nxt, ok.top, ok.first, ok.rcv, ok.out, by show (e.inn.drop _).length ≤ 64; rw [List.length_drop]; have := ok.inn; omega, ok.peer, ok.wait, ok.tries⟩
theorem wrTo_ok {e : EndD} (ok : e.Ok) (ds : List UInt8) : (writeE e ds).1.Ok := by
  unfold writeE
  split
  · exact ok
  split
  · exact ok
  split
  · exact ok
  · refine ⟨ok.st, ok.una, ok.nxt, ok.top, ok.first, ok.rcv, ?_, ok.inn, ok.peer, ok.wait, ok.tries⟩
    show (e.out ++ ds.take (wrN e ds.length)).length ≤ 64
    rw [List.length_append, List.length_take]
    have := ok.out
    unfold wrN
    omega
theorem write_says (e : EndD) (ds : List UInt8) : (writeE e ds).2.1 ≤ ds.length ∧ ((writeE e ds).2.2 = 0 ∨ (writeE e ds).2.1 = 0) := by
  unfold writeE
  split
  · simp
  split
  · simp
  split
  · simp
  · exact ⟨Nat.min_le_left _ _, .inl rfl⟩
def Live (e : EndD) : Prop := e.st ≠ 5 → e.tries ≤ 6
theorem tick_same (e : EndD) : (tickE e).out = e.out ∧ (tickE e).inn = e.inn := by
  unfold tickE
  split
  · exact ⟨rfl, rfl⟩
  split
  · exact ⟨rfl, rfl⟩
  split <;> exact ⟨rfl, rfl⟩
theorem tick_ok {e : EndD} (ok : e.Ok) (hv : Live e) : (tickE e).Ok ∧ Live (tickE e) := by
  unfold tickE
  split
  · exact ⟨ok, hv⟩
  rename_i hn
  have hb : begunB e = true := by cases h : begunB e with | true => rfl | false => exact absurd (.inl h) hn
  have h6 : e.tries ≤ 6 := hv (fun h => by simp [begunB, h] at hb)
  have h1 := ok.wait
  have h2 := ok.tries
  split
  · exact ⟨⟨ok.st, ok.una, ok.nxt, ok.top, ok.first, ok.rcv, ok.out, ok.inn, ok.peer, by dsimp only; omega, ok.tries⟩, fun _ => h6⟩
  split
  · exact ⟨⟨by simp, ok.una, ok.nxt, ok.top, ok.first, ok.rcv, ok.out, ok.inn, ok.peer, by simp, by dsimp only; omega⟩, fun h => absurd rfl h⟩
  · exact ⟨⟨ok.st, ok.una, ok.una, ok.top, ok.first, ok.rcv, ok.out, ok.inn, ok.peer, by simp, by dsimp only; omega⟩, fun _ => by dsimp only; omega⟩
theorem outLoop_st : ∀ (k : Nat) (e : EndD), (outLoop k e).1.st = e.st ∧ (outLoop k e).1.tries = e.tries
  | 0, e => ⟨rfl, rfl⟩
  | k + 1, e => by
    unfold outLoop
    split
    · exact ⟨rfl, rfl⟩
    · exact outLoop_st k (sayE e 0 (outN e))
theorem out_st (e : EndD) : (outE e).1.st = e.st ∧ (outE e).1.tries = e.tries := by
  unfold outE
  split
  · exact ⟨rfl, rfl⟩
  · split
    · have h := outLoop_st 64 e
      generalize outLoop 64 e = r at *
      have hf : (outFin r).1.st = e.st ∧ (outFin r).1.tries = e.tries := by unfold outFin; split <;> exact h
      generalize outFin r = r at *
      unfold outDue
      split <;> exact hf
    · exact ⟨rfl, rfl⟩
theorem out_live {e : EndD} (h : Live e) : Live (outE e).1 := by
  unfold Live
  rw [(out_st e).1, (out_st e).2]
  exact h
theorem take_live {e : EndD} (h : Live e) (q f : Int) (ds : List UInt8) : Live (takeE e q f ds) := by
  unfold takeE
  split
  · exact h
  split <;> exact h
theorem answer_live {e : EndD} (h : Live e) (a wd : Int) : Live (answerE e a wd) := by
  unfold answerE
  split
  · exact h
  split
  · exact fun _ => by simp
  · exact fun _ => by simp [ansTo]
theorem come_live {e : EndD} (h : Live e) (s : SegD) : Live (comeS e s) := by
  unfold comeS comeE
  split
  · exact h
  rename_i h05
  have h6 : e.tries ≤ 6 := h (fun h => h05 (.inr h))
  split
  · split
    · exact h
    · exact fun h => absurd rfl h
  split
  · split
    · exact fun _ => h6
    · exact h
  split
  · split
    · exact fun _ => by simp [openE]
    · exact h
  split
  · split
    · split <;> exact h
    · split
      · exact take_live (fun _ => by simp [heardE]) _ _ _
      · exact h
  split
  · exact take_live h _ _ _
  · exact take_live (answer_live h _ _) _ _ _
theorem comeL_live {e : EndD} (h : Live e) (l : List SegD) : Live (comeL e l) := by
  induction l generalizing e with
  | nil => exact h
  | cons s l ih => exact ih (come_live h s)
theorem write_live {e : EndD} (h : Live e) (ds : List UInt8) : Live (writeE e ds).1 := by
  unfold writeE
  split
  · exact h
  split
  · exact h
  split
  · exact h
  · exact h
end Go.Proofs.Ytacfffegmmdgfaa
