/- A program that runs, in memory; what is kept beside it. Plain theorems, no condition. -/
import Derived.Test.YtjmonkacijncbaaGreatDoorTlArgs
import Derived.Test.YtjmonkacijncbaaGreatDoorTlMeanTr
import Derived.Deep.RegionHeld3
namespace Go.Proofs.YtjmonkacijncbaaGreatDoor
open Go.RowKit
set_option linter.unusedVariables false

/-- All blocks stay but the one at hp, and (where u is false) rows of bytes. -/
structure KeepX (hp : Nat) (u : Bool) (w w' : World) : Prop where
  os : w'.os = w.os
  tape : w'.tape = w.tape
  output : w'.output = w.output
  size : w.heap.size ≤ w'.heap.size
  block : ∀ k, k < w.heap.size → k ≠ hp → (u = true ∨ ∀ cs, ¬ Blk w k 5 cs) → w'.heap[k]? = w.heap[k]?
theorem KeepX.of {w w' : World} (h : Ext w w') (hp : Nat) (u : Bool) : KeepX hp u w w' := ⟨h.os, h.tape, h.output, h.size, fun k hk _ _ => h.block k hk⟩
theorem KeepX.refl (hp : Nat) (u : Bool) (w : World) : KeepX hp u w w := .of (Ext.refl w) hp u
theorem KeepX.trans {hp : Nat} {u : Bool} {a b c : World} (h : KeepX hp u a b) (k : KeepX hp u b c) : KeepX hp u a c :=
  ⟨k.os.trans h.os, k.tape.trans h.tape, k.output.trans h.output, Nat.le_trans h.size k.size, fun i hi hne hu => by
    have h1 := h.block i hi hne hu
    rw [← h1]
    exact k.block i (Nat.lt_of_lt_of_le hi h.size) hne (hu.imp id fun hn cs hb => hn cs (h1.symm.trans hb))⟩
theorem KeepX.weak {hp : Nat} {u : Bool} {a b : World} (h : KeepX hp true a b) : KeepX hp u a b := ⟨h.os, h.tape, h.output, h.size, fun i hi hne _ => h.block i hi hne (.inl rfl)⟩
theorem KeepX.set (hp : Nat) (u : Bool) (w : World) (i : Nat) (v : Value) : KeepX hp u w (w.setCell ⟨hp, i, none⟩ v) :=
  ⟨rfl, rfl, rfl, by simp, fun k _ hne _ => Below.heap_setCell w ⟨hp, i, none⟩ v k hne⟩
theorem KeepX.grown {hp : Nat} {w w' : World} {base size n : Nat} {v : Value} {xs : List Value} (ho : w.ownsRow base 5 size v n xs) (hg : w.grownBy w' v.ownBlock) : KeepX hp false w w' :=
  ⟨hg.os, hg.tape, hg.output, hg.size, fun k hk _ hu => hg.block k hk fun e => by
    rcases hu with hu | hu
    · cases hu
    · rcases ho.2 with ⟨rfl, _⟩ | ⟨g, cap, cur, rfl, _, hh, _⟩
      · simp [Value.ownBlock] at e
      · simp only [Value.ownBlock, Option.some.injEq] at e
        rw [e] at hu
        exact hu _ hh⟩
theorem KeepX.ext {hp : Nat} {u : Bool} {w0 w w' : World} (h : KeepX hp true w w') (hx : Ext w0 w) (hh : w0.heap.size ≤ hp) : Ext w0 w' :=
  ⟨h.os.trans hx.os, h.tape.trans hx.tape, h.output.trans hx.output, Nat.le_trans hx.size h.size, fun k hk => (h.block k (Nat.lt_of_lt_of_le hk hx.size) (by omega) (.inl rfl)).trans (hx.block k hk)⟩
theorem KeepX.blk {hp : Nat} {u : Bool} {w w' : World} (h : KeepX hp u w w') {g : Nat} {t : TypeId} {cs : Array Value} (hb : Blk w g t cs) (hne : g ≠ hp) (hu : u = true ∨ t ≠ 5) : Blk w' g t cs :=
  (h.block g hb.lt hne (hu.imp id fun ht cs' hb' => Blk.ne_ hb hb' ht rfl)).trans hb
theorem KeepX.own {hp : Nat} {u : Bool} {w w' : World} (h : KeepX hp u w w') {base size n : Nat} {e : TypeId} {v : Value} {xs : List Value} (ho : w.ownsRow base e size v n xs) (hne : v.ownBlock ≠ some hp) (hu : u = true ∨ e ≠ 5) : w'.ownsRow base e size v n xs := by
  refine ⟨ho.1, ?_⟩
  rcases ho.2 with hn | ⟨g, cap, cur, rfl, hb, hgg, rest⟩
  · exact .inl hn
  · exact .inr ⟨g, cap, cur, rfl, hb, h.blk hgg (fun e => hne (by rw [e]; rfl)) hu, rest⟩
/-- Reads of bytes outside the block hp stay where all else stays. -/
theorem KeepX.bytes {hp : Nat} {w w' : World} (h : KeepX hp true w w') {n : Nat} {A : Option Addr} {b : Bs} (hr : Reads w w.heap.size 1 A n (bytesV b)) {t : TypeId} {cs : Array Value} (hb : Blk w hp t cs) (hc : ∀ (i : Nat) (x : Int), cs[i]? ≠ some (.int .u8 x)) : Reads w' w'.heap.size 1 A n (bytesV b) := by
  by_cases hn : n = 0
  · subst hn
    have : bytesV b = [] := List.eq_nil_of_length_eq_zero (by have := hr.1; omega)
    rw [this]
    exact ⟨rfl, fun h => absurd h (by omega)⟩
  · obtain ⟨g, off, rfl, hg, hcell⟩ := hr.at1 (by omega)
    have hne : g ≠ hp := by
      rintro rfl
      have h1 := hcell 0 (by omega)
      rw [bytesV_getElem, hb.cell] at h1
      exact hc _ _ h1
    exact ⟨hr.1, fun h0 => by
      obtain ⟨ad, e, hb', hc'⟩ := hr.2 h0
      injection e with e
      subst e
      exact ⟨_, rfl, Nat.lt_of_lt_of_le hb' h.size, fun j u hu => (World.cell?_of_block (by rw [add_block]; exact h.block g hg hne (.inl rfl))).trans (hc' j u hu)⟩⟩
theorem tool_nob {N : ByteArray} {sA sB sC : Value} {d st : Int} {q : Bool} (ha : ∀ x, sA ≠ .int .u8 x) (hb : ∀ x, sB ≠ .int .u8 x) (hc : ∀ x, sC ≠ .int .u8 x) : ∀ (i : Nat) (x : Int), (#[.string N, sA, .int .i64 d, .bool q, sB, sC, .int .i64 st] : Array Value)[i]? ≠ some (.int .u8 x) := by
  intro i x h
  match i, h with
  | 0, h => simp at h
  | 1, h => exact ha x (by simpa using h)
  | 2, h => simp at h
  | 3, h => simp at h
  | 4, h => exact hb x (by simpa using h)
  | 5, h => exact hc x (by simpa using h)
  | 6, h => simp at h
  | i + 7, h => simp at h
/-- A program that runs: what its block holds. -/
structure ToolM (w0 w : World) (hp : Nat) (nm : Bs) (L : List Bs) (d : Int) (q : Bool) (st : Int) (inp out : Bs) (A : Option Addr) (n c : Nat) (Ai : Option Addr) (mi ci : Nat) (Ao : Option Addr) (mo co : Nat) : Prop where
  box : Blk w hp 80 #[.string (str nm), .slice A n c, .int .i64 d, .bool q, .slice Ai mi ci, .slice Ao mo co, .int .i64 st]
  ge : w0.heap.size ≤ hp
  ext : Ext w0 w
  args : w.ownsRow w0.heap.size 9 1 (.slice A n c) n (strsV L)
  inn : w.ownsRow w0.heap.size 5 1 (.slice Ai mi ci) mi (bytesV inp)
  outr : Reads w w.heap.size 1 Ao mo (bytesV out)
  oc : mo ≤ co ∧ co ≤ maxLen
section
variable {w0 w w' : World} {hp : Nat} {nm : Bs} {L : List Bs} {d : Int} {q : Bool} {st : Int} {inp out : Bs} {A : Option Addr} {n c : Nat} {Ai : Option Addr} {mi ci : Nat} {Ao : Option Addr} {mo co : Nat}
theorem ToolM.next (h : ToolM w0 w hp nm L d q st inp out A n c Ai mi ci Ao mo co) (hk : KeepX hp true w w') {d' st' : Int} {q' : Bool}
    (hb : Blk w' hp 80 #[.string (str nm), .slice A n c, .int .i64 d', .bool q', .slice Ai mi ci, .slice Ao mo co, .int .i64 st']) : ToolM w0 w' hp nm L d' q' st' inp out A n c Ai mi ci Ao mo co :=
  ⟨hb, h.ge, hk.ext (u := true) h.ext h.ge, hk.own h.args (own_blk_ne h.args h.box (by decide)) (.inl rfl), hk.own h.inn (own_blk_ne h.inn h.box (by decide)) (.inl rfl),
    hk.bytes h.outr h.box (tool_nob (by simp) (by simp) (by simp)), h.oc⟩
theorem ToolM.more (h : ToolM w0 w hp nm L d q st inp out A n c Ai mi ci Ao mo co) (hx : Ext w w') : ToolM w0 w' hp nm L d q st inp out A n c Ai mi ci Ao mo co :=
  ⟨h.box.ext hx, h.ge, h.ext.trans hx, hx.own h.args, hx.own h.inn, (hx.reads h.outr (Nat.le_refl _)).more hx.size, h.oc⟩
/-- What is to be written is there now. -/
theorem ToolM.told (h : ToolM w0 w hp nm L d q st inp out A n c Ai mi ci Ao mo co) (hk : KeepX hp true w w') {d' st' : Int} {q' : Bool} {out' : Bs} {Ao' : Option Addr} {mo' co' : Nat}
    (hb : Blk w' hp 80 #[.string (str nm), .slice A n c, .int .i64 d', .bool q', .slice Ai mi ci, .slice Ao' mo' co', .int .i64 st']) (ho : Reads w w.heap.size 1 Ao' mo' (bytesV out')) (hc : mo' ≤ co' ∧ co' ≤ maxLen) : ToolM w0 w' hp nm L d' q' st' inp out' A n c Ai mi ci Ao' mo' co' :=
  ⟨hb, h.ge, hk.ext (u := true) h.ext h.ge, hk.own h.args (own_blk_ne h.args h.box (by decide)) (.inl rfl), hk.own h.inn (own_blk_ne h.inn h.box (by decide)) (.inl rfl),
    hk.bytes ho h.box (tool_nob (by simp) (by simp) (by simp)), hc⟩
end
theorem own_cap2 {w : World} {base size n c : Nat} {e : TypeId} {A : Option Addr} {xs : List Value} (h : w.ownsRow base e size (.slice A n c) n xs) : A = none → c = 0 := own_cap h
/-- What a program does behind the reckoning. -/
def doingOf (o : Bs) : Int := if o.length = 0 then 3 else 2
set_option maxHeartbeats 8000000 in
set_option maxRecDepth 100000 in
theorem reckon_any {w0 w : World} {hp : Nat} {nm : Bs} {L : List Bs} {q : Bool} {st : Int} {inp out : Bs} {A : Option Addr} {n c : Nat} {Ai : Option Addr} {mi ci : Nat} {Ao : Option Addr} {mo co : Nat} {f : Bs → Bs} {s : Bs → Int}
    (hm : MeanAt nm L f s) (hL : LibOk w0) (h : ToolM w0 w hp nm L 1 q st inp out A n c Ai mi ci Ao mo co) (hi : inp.length ≤ 1024) :
    Calls Tryz.prog 47 #[.pointer (some ⟨hp, 0, none⟩)] w fun e w' => e = .returned (.tuple #[]) ∧ (∃ Ao' mo' co', ToolM w0 w' hp nm L (doingOf (f inp)) q (s inp) inp (f inp) A n c Ai mi ci Ao' mo' co') ∧ KeepX hp true w w' := by
  have hmi : mi ≤ 1024 := by have := bytes_len (Reads.of_own h.inn); omega
  have HMN := hide (hm inp w.drew A n c w.heap.size Ai mi ci w.heap.size ((hL.ext h.ext).ext ((Ext.refl w).drew)) (Reads.of_own h.args).drew (Nat.le_refl _) (own_le h.args).1 (Reads.of_own h.inn).drew (Nat.le_refl _) (own_le h.inn).1 hmi (own_cap h.inn))
  have c0 : w.cell? ⟨hp, 0, none⟩ = some (.string (str nm)) := h.box.cell 0
  have c1 : w.cell? ⟨hp, 1, none⟩ = some (.slice A n c) := h.box.cell 1
  have c4 : w.cell? ⟨hp, 4, none⟩ = some (.slice Ai mi ci) := h.box.cell 4
  have H := hide h
  clear hm hL h hmi hi
  generalize f inp = F at *
  generalize s inp = S at *
  generalize str nm = N at *
  go_enter Tryz.func47, Tryz.ntmps47
  go_upto_region 0 with fail
  go_region_held3 (fun w' => w'.cell? ⟨hp, 0, none⟩ = some (.string N) ∧ w'.cell? ⟨hp, 1, none⟩ = some (.slice A n c) ∧ w'.cell? ⟨hp, 4, none⟩ = some (.slice Ai mi ci)) (first | exact ⟨c0, c1, c4⟩ | exact ⟨Ext.cell (w := w.drew) hx1 c0, Ext.cell (w := w.drew) hx1 c1, Ext.cell (w := w.drew) hx1 c4⟩ | fail)
    (first | (go_at_call 20; (with_reducible refine HMN.out.mono ?_); rintro e w1 ⟨Ao', mo', co', rfl, hol, hoc, hocm, hor, hon, hx1⟩) | fail)
  all_goals
    have HM := hide (H.out.more ((Ext.refl w).drew.trans hx1))
    have HK := hide (KeepX.of ((Ext.refl w).drew.trans hx1) hp true)
    have f5 := HM.out.box.frozen 5
    have f6 := HM.out.box.frozen 6
    have f2 := HM.out.box.frozen 2
    have k5 : w1.cell? ⟨hp, 5, none⟩ = some (.slice Ao mo co) := HM.out.box.cell 5
    have k6 : w1.cell? ⟨hp, 6, none⟩ = some (.int .i64 st) := HM.out.box.cell 6
    have k2 : w1.cell? ⟨hp, 2, none⟩ = some (.int .i64 1) := HM.out.box.cell 2
    have HOR := hide hor
    have HOC := hide hoc
    have HOM := hide hocm
    have HOL := hide hol
    clear hor hoc hocm hol hx1 c0 c1 c4 H HMN
    by_cases h0 : mo' = 0
    · have HF := hide (show doingOf F = 3 from if_pos (by rw [HOL.out]; exact h0))
      subst h0
      go_wp2_with fail
      (first | go_end0 | ((try simp only [Exit.inBlock, Exit.then]); refine bodyPost_ret (results_none rfl _ _ _) rfl ?_))
      refine ⟨rfl, ⟨Ao', 0, co', ?_⟩, HK.out.trans ((((KeepX.set hp true w1 5 _).trans (KeepX.set hp true _ 6 _)).trans (KeepX.set hp true _ 2 _)).trans (KeepX.set hp true _ 2 _))⟩
      rw [HF.out]
      exact HM.out.told ((((KeepX.set hp true w1 5 _).trans (KeepX.set hp true _ 6 _)).trans (KeepX.set hp true _ 2 _)).trans (KeepX.set hp true _ 2 _)) ((((HM.out.box.set_ 5 _).set_ 6 _).set_ 2 _).set_ 2 _) HOR.out ⟨HOC.out, HOM.out⟩
    · have HF := hide (show doingOf F = 2 from if_neg (by rw [HOL.out]; exact h0))
      have t1 : ((mo' : Int) == 0) = false := beq_eq_false_iff_ne.2 (by omega)
      clear h0
      go_wp2_with fail
      (first | go_end0 | ((try simp only [Exit.inBlock, Exit.then]); refine bodyPost_ret (results_none rfl _ _ _) rfl ?_))
      refine ⟨rfl, ⟨Ao', mo', co', ?_⟩, HK.out.trans (((KeepX.set hp true w1 5 _).trans (KeepX.set hp true _ 6 _)).trans (KeepX.set hp true _ 2 _))⟩
      rw [HF.out]
      exact HM.out.told (((KeepX.set hp true w1 5 _).trans (KeepX.set hp true _ 6 _)).trans (KeepX.set hp true _ 2 _)) (((HM.out.box.set_ 5 _).set_ 6 _).set_ 2 _) HOR.out ⟨HOC.out, HOM.out⟩
end Go.Proofs.YtjmonkacijncbaaGreatDoor
