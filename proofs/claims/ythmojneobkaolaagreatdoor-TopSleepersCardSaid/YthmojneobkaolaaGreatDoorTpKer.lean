/- The kernel in memory, and its parts. -/
import Derived.Test.YthmojneobkaolaaGreatDoorTpSpace
import Derived.Test.YthmojneobkaolaaGreatDoorTpSmall
namespace Go.Proofs.YthmojneobkaolaaGreatDoor
open Go.RowKit
set_option linter.unusedVariables false

/-- Where the kernel and its parts lie. -/
structure Hn where
  hk : Nat
  hm : Nat
  bm : Nat
  hf : Nat
  hq : Nat
  hr : Nat
  hw : Nat
  ho : Nat
  hp : Nat
  cw : Value
abbrev pV (g : Nat) : Value := .pointer (some ⟨g, 0, none⟩)
def hdV (H : Hn) : List Value := [.int .i64 1, pV H.hm, pV H.hf, pV H.hq, pV H.hr, pV H.hw, pV H.ho, pV H.hp]
/-- A task when it begins. -/
def tkL (sp : Int) (more cwd : Value) : List Value :=
  [.int .i64 sp, .int .u32 0, .int .u32 0, .int .u32 0, .int .u32 0, .int .u32 0, .int .u32 0, .int .u32 0, .int .u32 0, .int .u32 0, .int .i64 1, .int .i64 0, .int .i64 0, more, .int .i64 127, .int .i64 0, .int .i64 0, cwd, .slice none 0 0] ++ (sigL 0 0 ++ [.bool false])
/-- The kernel's own block: the parts' addresses, the tasks, the clock. -/
def KerM (w : World) (H : Hn) (now : Nat) (T : Nat → List Value) : Prop :=
  ∃ cs : Array Value, Blk w H.hk 68 cs ∧ cs.size = 655 ∧ (∀ j, j < 8 → cs[j]? = (hdV H)[j]?) ∧ cs[654]? = some (.int .u32 (now : Int)) ∧ ∀ p, p < 17 → (T p).length = 38 ∧ ∀ j, j < 38 → cs[8 + p * 38 + j]? = (T p)[j]?
section
variable {w w' : World} {H : Hn} {now : Nat} {T : Nat → List Value}
theorem KerM.hd (h : KerM w H now T) (j : Nat) (hj : j < 8) {v : Value} (hv : (hdV H)[j]? = some v) : w.cell? ⟨H.hk, j, none⟩ = some v := by
  obtain ⟨cs, hb, hs, hh, hn, ht⟩ := h
  rw [hb.cell, hh j hj, hv]
theorem KerM.clock (h : KerM w H now T) : w.cell? ⟨H.hk, 654, none⟩ = some (.int .u32 (now : Int)) := by
  obtain ⟨cs, hb, hs, hh, hn, ht⟩ := h
  rw [hb.cell, hn]
theorem KerM.frozen (h : KerM w H now T) (o : Nat) : w.frozen? ⟨H.hk, o, none⟩ = false := by
  obtain ⟨cs, hb, hs, hh, hn, ht⟩ := h
  exact hb.frozen o
theorem KerM.lt (h : KerM w H now T) : H.hk < w.heap.size := by
  obtain ⟨cs, hb, hs, hh, hn, ht⟩ := h
  exact hb.lt
theorem KerM.cell (h : KerM w H now T) (p : Nat) (hp : p < 17) (j : Nat) {v : Value} (hv : (T p)[j]? = some v) : w.cell? ⟨H.hk, 8 + p * 38 + j, none⟩ = some v := by
  obtain ⟨cs, hb, hs, hh, hn, ht⟩ := h
  have hj := (List.getElem?_eq_some_iff.1 hv).1
  rw [(ht p hp).1] at hj
  rw [hb.cell, (ht p hp).2 j hj, hv]
theorem KerM.range (h : KerM w H now T) (p : Nat) (hp : p < 17) (o : Nat) (l : List Value) (hl : ∀ j v, l[j]? = some v → (T p)[o + j]? = some v) : w.rangeAt H.hk (8 + p * 38 + o) l := fun j v hv => by
  rw [Nat.add_assoc]
  exact h.cell p hp (o + j) (hl j v hv)
theorem KerM.there (h : KerM w H now T) (p : Nat) (hp : p < 17) (o n : Nat) (hn : o + n ≤ 38) : w.there H.hk (8 + p * 38 + o) n := by
  obtain ⟨cs, hb, hs, hh, hn', ht⟩ := h
  exact hb.there_ _ _ (by omega)
theorem KerM.ext (h : KerM w H now T) (hx : Ext w w') : KerM w' H now T := by
  obtain ⟨cs, hb, hs, hh, hn, ht⟩ := h
  exact ⟨cs, hb.ext hx, hs, hh, hn, ht⟩
theorem KerM.keep {b : Nat} {L : List TypeId} {G M : List Nat} (h : KerM w H now T) (hk : KeepL b L G M w w') (hL : 68 ∉ L) (hG : H.hk ∉ G) : KerM w' H now T := by
  obtain ⟨cs, hb, hs, hh, hn, ht⟩ := h
  exact ⟨cs, hk.blk hb hL hG, hs, hh, hn, ht⟩
theorem KerM.kset (h : KerM w H now T) {b : Nat} (hb : b ≤ H.hk) (i : Nat) (v : Value) : KeepL b [68] [] [] w (w.setCell ⟨H.hk, i, none⟩ v) := by
  obtain ⟨cs, hb', hs, hh, hn, ht⟩ := h
  exact KeepL.set hb' (.inl (by simp)) hb i v
theorem KerM.ksets (h : KerM w H now T) {b : Nat} (hb : b ≤ H.hk) (i : Nat) (vs : List Value) : KeepL b [68] [] [] w (w.setCells H.hk i vs) := by
  obtain ⟨cs, hb', hs, hh, hn, ht⟩ := h
  exact KeepL.row hb' (.inl (by simp)) hb (setCells_grown _ _ _ _)
theorem KerM.tick (h : KerM w H now T) (n : Nat) : KerM (w.setCell ⟨H.hk, 654, none⟩ (.int .u32 (n : Int))) H n T := by
  obtain ⟨cs, hb, hs, hh, hn, ht⟩ := h
  refine ⟨_, hb.set_ 654 _, by simpa using hs, fun j hj => ?_, by rw [Array.getElem?_setIfInBounds_self_of_lt (by omega)], fun p hp => ⟨(ht p hp).1, fun j hj => ?_⟩⟩
  · rw [Array.getElem?_setIfInBounds_ne (by omega)]
    exact hh j hj
  · rw [Array.getElem?_setIfInBounds_ne (by omega)]
    exact (ht p hp).2 j hj
theorem KerM.set (h : KerM w H now T) (p : Nat) (hp : p < 17) (j : Nat) (hj : j < 38) (v : Value) : KerM (w.setCell ⟨H.hk, 8 + p * 38 + j, none⟩ v) H now (updN T p ((T p).set j v)) := by
  obtain ⟨cs, hb, hs, hh, hn, ht⟩ := h
  refine ⟨_, hb.set_ _ _, by simpa using hs, fun i hi => ?_, ?_, fun q hq => ?_⟩
  · rw [Array.getElem?_setIfInBounds_ne (by omega)]
    exact hh i hi
  · rw [Array.getElem?_setIfInBounds_ne (by omega)]
    exact hn
  · by_cases e : q = p
    · subst e
      rw [updN_same]
      refine ⟨by rw [List.length_set]; exact (ht q hq).1, fun i hi => ?_⟩
      by_cases e : j = i
      · subst e
        rw [Array.getElem?_setIfInBounds_self_of_lt (by omega), List.getElem?_set_self (by rw [(ht q hq).1]; exact hj)]
      · rw [Array.getElem?_setIfInBounds_ne (by omega), List.getElem?_set_ne e]
        exact (ht q hq).2 i hi
    · rw [updN_other _ _ _ _ e]
      refine ⟨(ht q hq).1, fun i hi => ?_⟩
      rw [Array.getElem?_setIfInBounds_ne (by omega)]
      exact (ht q hq).2 i hi
theorem spl_get (L vs : List Value) (o : Nat) (h : o + vs.length ≤ L.length) (i : Nat) : (spl L o vs)[i]? = if o ≤ i ∧ i < o + vs.length then vs[i - o]? else L[i]? := by
  unfold spl
  have hl : (L.take o).length = o := by rw [List.length_take]; omega
  by_cases h1 : i < o
  · rw [if_neg (by omega), List.getElem?_append_left (by omega), List.getElem?_take, if_pos h1]
  · rw [List.getElem?_append_right (by omega), hl]
    by_cases h2 : i < o + vs.length
    · rw [if_pos (by omega), List.getElem?_append_left (by omega)]
    · rw [if_neg (by omega), List.getElem?_append_right (by omega), List.getElem?_drop]
      congr 1
      omega
theorem KerM.sets (h : KerM w H now T) (p : Nat) (hp : p < 17) (o : Nat) (vs : List Value) (ho : o + vs.length ≤ 38) : KerM (w.setCells H.hk (8 + p * 38 + o) vs) H now (updN T p (spl (T p) o vs)) := by
  obtain ⟨cs, hb, hs, hh, hn, ht⟩ := h
  refine ⟨_, hb.setCells vs _, by rw [arrSet_size]; exact hs, fun i hi => ?_, ?_, fun q hq => ?_⟩
  · rw [arrSet_get _ _ _ (by omega), if_neg (by omega)]
    exact hh i hi
  · rw [arrSet_get _ _ _ (by omega), if_neg (by omega)]
    exact hn
  · by_cases e : q = p
    · subst e
      rw [updN_same]
      refine ⟨by rw [spl_len _ _ _ (by rw [(ht q hq).1]; exact ho)]; exact (ht q hq).1, fun i hi => ?_⟩
      rw [arrSet_get _ _ _ (by omega), spl_get _ _ _ (by rw [(ht q hq).1]; exact ho)]
      by_cases e : o ≤ i ∧ i < o + vs.length
      · rw [if_pos (by omega), if_pos e]
        congr 1
        omega
      · rw [if_neg (by omega), if_neg e]
        exact (ht q hq).2 i hi
    · rw [updN_other _ _ _ _ e]
      refine ⟨(ht q hq).1, fun i hi => ?_⟩
      rw [arrSet_get _ _ _ (by omega), if_neg (by omega)]
      exact (ht q hq).2 i hi
end
/-- What is known of a task. -/
structure TaskP (l : List Value) (pd x : Int) (zz : Bool) : Prop where
  len : l.length = 38
  user : l[11]? = some (.int .i64 0)
  sg : ∀ j, j < 18 → l[19 + j]? = (sigL pd x)[j]?
  zz : l[37]? = some (.bool zz)
theorem TaskP.sleep {l : List Value} {pd x : Int} {zz : Bool} (h : TaskP l pd x zz) (b : Bool) : TaskP (l.set 37 (.bool b)) pd x b :=
  ⟨by rw [List.length_set]; exact h.len, by rw [List.getElem?_set_ne (by omega)]; exact h.user, fun j hj => by rw [List.getElem?_set_ne (by omega)]; exact h.sg j hj, by rw [List.getElem?_set_self (by rw [h.len]; omega)]⟩
theorem TaskP.sig {l : List Value} {pd x : Int} {zz : Bool} (h : TaskP l pd x zz) (p' x' : Int) : TaskP (spl l 19 (sigL p' x')) p' x' zz := by
  have hl : (sigL p' x').length = 18 := rfl
  refine ⟨by rw [spl_len _ _ _ (by rw [h.len, hl]; omega)]; exact h.len, ?_, fun j hj => ?_, ?_⟩
  · rw [spl_get _ _ _ (by rw [h.len, hl]; omega), if_neg (by omega)]
    exact h.user
  · rw [spl_get _ _ _ (by rw [h.len, hl]; omega), if_pos (by rw [hl]; omega)]
    congr 1
    omega
  · rw [spl_get _ _ _ (by rw [h.len, hl]; omega), if_neg (by rw [hl]; omega)]
    exact h.zz
theorem tkL_task (sp : Int) (more cwd : Value) : TaskP (tkL sp more cwd) 0 0 false := by
  refine ⟨rfl, rfl, fun j hj => ?_, rfl⟩
  unfold tkL
  rw [List.getElem?_append_right (by simp only [List.length_cons, List.length_nil]; omega), List.getElem?_append_left (by show _ < 18; simp only [List.length_cons, List.length_nil]; omega)]
  congr 1
  simp only [List.length_cons, List.length_nil]
  omega
/-- The kernel's plain state: how many processes, the clock, the timers, who sleeps, what signals wait and are heard. -/
structure KSt where
  n : Nat
  now : Nat
  ls : List (Nat × Nat)
  zz : Nat → Bool
  sg : Nat → Int × Int
theorem RunN.keep {b b' : Nat} {L : List TypeId} {G M : List Nat} {w w' : World} {hr n : Nat} (h : RunN b w hr n) (hk : KeepL b' L G M w w') (h1 : 114 ∉ L) (h2 : 118 ∉ L) (hG : G = []) : RunN b w' hr n := by
  obtain ⟨A, cp, tick, stamp, xs, h⟩ := h
  subst hG
  exact ⟨A, cp, tick, stamp, xs, hk.blk h.box h1 (by simp), h.ge, hk.own h.row h2 (fun _ _ => by simp), h.kind⟩
theorem WheelAt.keep {b b' : Nat} {L : List TypeId} {G M : List Nat} {w w' : World} {hw now : Nat} {ls : List (Nat × Nat)} (h : WheelAt b w hw now ls) (hk : KeepL b' L G M w w') (h1 : 108 ∉ L) (h2 : tmT ∉ L) (hG : G = []) : WheelAt b w' hw now ls := by
  obtain ⟨A, n, cp, h⟩ := h
  subst hG
  exact ⟨A, n, cp, hk.blk h.box h1 (by simp), h.ge, hk.own h.row h2 (fun _ _ => by simp), h.small, h.nows⟩
theorem ProcAt.keep {b' : Nat} {L : List TypeId} {G M : List Nat} {w w' : World} {g n : Nat} (h : ProcAt w g n) (hk : KeepL b' L G M w w') (h1 : 185 ∉ L) (hG : G = []) : ProcAt w' g n := by
  obtain ⟨cs, hb, hs, hc⟩ := h
  subst hG
  exact ⟨cs, hk.blk hb h1 (by simp), hs, hc⟩
theorem OpenAt.keep {b' : Nat} {L : List TypeId} {G M : List Nat} {w w' : World} {g : Nat} (h : OpenAt w g) (hk : KeepL b' L G M w w') (h1 : 180 ∉ L) (hG : G = []) : OpenAt w' g := by
  obtain ⟨cs, hb, hs, hc⟩ := h
  subst hG
  exact ⟨cs, hk.blk hb h1 (by simp), hs, hc⟩
/-- The whole kernel. -/
structure KAt (b : Nat) (w : World) (H : Hn) (s : KSt) : Prop where
  ker : ∃ T, KerM w H s.now T ∧ T 1 = tkL 1 (.slice none 0 0) H.cw ∧ w.ownsRow b 3 1 H.cw 1 [.int .i64 1] ∧ ∀ p, 1 ≤ p → p ≤ s.n → TaskP (T p) (s.sg p).1 (s.sg p).2 (s.zz p)
  proc : ProcAt w H.hp s.n
  opn : OpenAt w H.ho
  space : SpaceAt b w H.hm H.bm s.n
  run : ∃ m, 0 < m ∧ m ≤ s.n ∧ RunN b w H.hr m
  wheel : WheelAt b w H.hw s.now s.ls
  ge : b ≤ H.hk ∧ b ≤ H.hp ∧ b ≤ H.ho
  bw : b ≤ w.heap.size
abbrev kTs : List TypeId := [68, 185, 180, 114, 118, 108, tmT]
/-- All of a call's frame. -/
def KKeep (b : Nat) (H : Hn) (w w' : World) : Prop := KeepL b kTs [] [H.bm] w w'
end Go.Proofs.YthmojneobkaolaaGreatDoor
