/- A unit in memory: its box, its words, its marks, its needs. Plain theorems. -/
import Derived.Test.YtikbfmjhmjkkgaaDoorAmP
import Derived.Test.YtikbfmjhmjkkgaaDoorFlat
import Derived.WalkKit
import Derived.WalkSpells
import Derived.ProofKit
import Derived.BigQuiet
import Derived.Deep.RegionHeld3
import Derived.Deep.RegionLaw
import Derived.Deep.CutBlock
import Derived.Deep.DeepCutAuto
import Derived.Deep.QuietTactic
namespace Go.Proofs.YtikbfmjhmjkkgaaDoor
open Go.RowKit
set_option linter.unusedVariables false

abbrev unT : TypeId := 28
abbrev mkT : TypeId := 82
abbrev ndT : TypeId := 41
abbrev wdT : TypeId := 33
theorem need_info : (Tryd.prog.info? 41).map (fun i => (i.zero, i.size, i.bytes)) = some (some (.agg #[.int .i64 0, .string ⟨#[]⟩, .int .i64 0]), 3, 32) := by kernel_rfl
theorem mark_info : (Tryd.prog.info? 82).map (fun i => (i.zero, i.size, i.bytes)) = some (some (.agg #[.string ⟨#[]⟩, .int .i64 0]), 2, 24) := by kernel_rfl
theorem word_info : (Tryd.prog.info? 33).map (fun i => (i.zero, i.size, i.bytes)) = some (some (.int .u32 0), 1, 4) := by kernel_rfl
theorem string_info : (Tryd.prog.info? 9).map (fun i => (i.zero, i.size, i.bytes)) = some (some (.string ⟨#[]⟩), 1, 16) := by kernel_rfl
def markC (m : Bs × Nat) : List Value := [.string (str m.1), .int .i64 (m.2 : Int)]
def needC (n : Nat × Bs × Nat) : List Value := [.int .i64 (n.1 : Int), .string (str n.2.1), .int .i64 (n.2.2 : Int)]
def u32V (l : List Nat) : List Value := l.map fun (x : Nat) => Value.int .u32 (x : Int)
theorem markC_len (m : Bs × Nat) : (markC m).length = 2 := rfl
theorem needC_len (n : Nat × Bs × Nat) : (needC n).length = 3 := rfl
theorem u32V_len (l : List Nat) : (u32V l).length = l.length := by simp [u32V]
theorem u32V_app (l : List Nat) (x : Nat) : u32V (l ++ [x]) = u32V l ++ [.int .u32 (x : Int)] := by simp [u32V]
theorem rows_blk {w : World} {g : Nat} {t : TypeId} {cs : Array Value} (h : Blk w g t cs) (n size : Nat) (hs : cs.size = n * size) : Reads w w.heap.size size (some ⟨g, 0, none⟩) n cs.toList := by
  refine ⟨by simpa using hs, fun _ => ⟨_, rfl, h.lt, fun j u hu => ?_⟩⟩
  rw [add_lit, Nat.zero_add, h.cell]
  simpa using hu
theorem own_own_ne {w : World} {b1 b2 s1 s2 n1 n2 : Nat} {e1 e2 : TypeId} {v1 v2 : Value} {x1 x2 : List Value} (h1 : w.ownsRow b1 e1 s1 v1 n1 x1) (h2 : w.ownsRow b2 e2 s2 v2 n2 x2) (hne : e1 ≠ e2) (j : Nat) (hj : v1.ownBlock = some j) : v2.ownBlock ≠ some j := by
  rcases h1.2 with ⟨rfl, _⟩ | ⟨g, cap, cur, rfl, _, hh, _⟩
  · cases hj
  · have : g = j := by simpa [Value.ownBlock] using hj
    subst this
    exact own_blk_ne (t := e1) (g := g) (cs := cur) h2 hh (fun e => hne e.symm)
theorem own_keptB {w w' : World} {base size n : Nat} {e : TypeId} {v : Value} {xs : List Value} {row : Option Nat} (h : w.ownsRow base e size v n xs) (hg : w.grownBy w' row) (hne : ∀ j, v.ownBlock = some j → row ≠ some j) : w'.ownsRow base e size v n xs :=
  h.kept hg (by
    cases hv : v.ownBlock with
    | none => exact .inl rfl
    | some j => exact .inr (fun e => hne j hv e.symm))
/-- Blocks of strings stay as they are. -/
def KeepS (w w' : World) : Prop := ∀ g cs, Blk w g 9 cs → Blk w' g 9 cs
theorem KeepS.refl (w : World) : KeepS w w := fun _ _ h => h
theorem KeepS.ext {w w' : World} (h : Ext w w') : KeepS w w' := fun g cs hb => hb.ext h
theorem KeepS.trans {a b c : World} (h : KeepS a b) (k : KeepS b c) : KeepS a c := fun g cs hb => k g cs (h g cs hb)
theorem KeepS.grow {base n sz i gu : Nat} {v u : Value} {xs : List Value} {U W : World} {T : TypeId} {cs : Array Value} (hT : T ≠ 9) (hg : U.grownBy W v.ownBlock) (ho : U.ownsRow base T sz v n xs) (hbox : Blk W gu unT cs) : KeepS U (W.setCell ⟨gu, i, none⟩ u) := fun g cs' hb => by
  have h2 := hb.grown hg (own_blk_ne ho hb hT).symm
  exact h2.far (p := ⟨gu, i, none⟩) (Blk.ne_ h2 hbox (by decide)) _
/-- The unit u behind block gu; what is laid above w0 alone is used. -/
structure UnAt (w0 wk : World) (gu : Nat) (u : UnD) (n1 n2 n3 : Nat) (A1 A2 A3 : Option Addr) (c1 c2 c3 : Nat) (w : World) : Prop where
  box : Blk w gu unT #[.slice A1 n1 c1, .slice A2 n2 c2, .slice A3 n3 c3]
  rc : w.ownsRow w0.heap.size wdT 1 (.slice A1 n1 c1) n1 (u32V u.code)
  rm : w.ownsRow w0.heap.size mkT 2 (.slice A2 n2 c2) n2 (u.marks.flatMap markC)
  rn : w.ownsRow w0.heap.size ndT 3 (.slice A3 n3 c3) n3 (u.needs.flatMap needC)
  l1 : u.code.length = n1
  l2 : u.marks.length = n2
  l3 : u.needs.length = n3
  gb : w0.heap.size ≤ gu
  ext : Ext w0 w
  ks : KeepS wk w
def UnOk (w0 wk : World) (gu : Nat) (u : UnD) (w : World) : Prop := ∃ n1 n2 n3 A1 A2 A3 c1 c2 c3, UnAt w0 wk gu u n1 n2 n3 A1 A2 A3 c1 c2 c3 w
section
variable {w0 wk w U W : World} {gu : Nat} {u : UnD} {n1 n2 n3 : Nat} {A1 A2 A3 A' : Option Addr} {c1 c2 c3 c' : Nat}
theorem UnAt.to (h : UnAt w0 wk gu u n1 n2 n3 A1 A2 A3 c1 c2 c3 w) (hx : Ext w U) : UnAt w0 wk gu u n1 n2 n3 A1 A2 A3 c1 c2 c3 U :=
  ⟨h.box.ext hx, hx.own h.rc, hx.own h.rm, hx.own h.rn, h.l1, h.l2, h.l3, h.gb, h.ext.trans hx, h.ks.trans (KeepS.ext hx)⟩
theorem UnOk.to (h : UnOk w0 wk gu u w) (hx : Ext w U) : UnOk w0 wk gu u U := by
  obtain ⟨n1, n2, n3, A1, A2, A3, c1, c2, c3, h⟩ := h
  exact ⟨n1, n2, n3, A1, A2, A3, c1, c2, c3, h.to hx⟩
theorem UnOk.ext (h : UnOk w0 wk gu u w) : Ext w0 w := by
  obtain ⟨n1, n2, n3, A1, A2, A3, c1, c2, c3, h⟩ := h
  exact h.ext
theorem UnAt.needed (h : UnAt w0 wk gu u n1 n2 n3 A1 A2 A3 c1 c2 c3 w) (x : Nat × Bs × Nat) (hx : Ext w U)
    (ho : W.ownsRow w0.heap.size ndT 3 (.slice A' (n3 + 1) c') (n3 + 1) (u.needs.flatMap needC ++ needC x)) (hg : U.grownBy W (Value.ownBlock (.slice A3 n3 c3))) :
    UnAt w0 wk gu ⟨u.code, u.marks, u.needs ++ [x]⟩ n1 n2 (n3 + 1) A1 A2 A' c1 c2 c' (W.setCell ⟨gu, 2, none⟩ (.slice A' (n3 + 1) c')) := by
  have h1 := h.to hx
  have hb := h1.box.grown hg (own_blk_ne h1.rn h1.box (by decide)).symm
  have k1 := own_keptB h1.rc hg (fun j hj e => own_own_ne h1.rc h1.rn (by decide) j hj e)
  have k2 := own_keptB h1.rm hg (fun j hj e => own_own_ne h1.rm h1.rn (by decide) j hj e)
  refine ⟨hb.set_ 2 _, own_far k1 (p := ⟨gu, 2, none⟩) (own_blk_ne k1 hb (by decide)) _, own_far k2 (p := ⟨gu, 2, none⟩) (own_blk_ne k2 hb (by decide)) _, ?_, h.l1, h.l2, by simp [h.l3], h.gb, ((h1.ext.grown hg (fun k hk => (h1.rn.lt k hk).1)).setCell (p := ⟨gu, 2, none⟩) h.gb _), h1.ks.trans (KeepS.grow (by decide) hg h1.rn hb)⟩
  rw [List.flatMap_append, List.flatMap_cons, List.flatMap_nil, List.append_nil]
  exact own_far ho (p := ⟨gu, 2, none⟩) (own_blk_ne ho hb (by decide)) _
theorem UnAt.coded (h : UnAt w0 wk gu u n1 n2 n3 A1 A2 A3 c1 c2 c3 w) (x : Nat) (hx : Ext w U)
    (ho : W.ownsRow w0.heap.size wdT 1 (.slice A' (n1 + 1) c') (n1 + 1) (u32V u.code ++ [.int .u32 (x : Int)])) (hg : U.grownBy W (Value.ownBlock (.slice A1 n1 c1))) :
    UnAt w0 wk gu ⟨u.code ++ [x], u.marks, u.needs⟩ (n1 + 1) n2 n3 A' A2 A3 c' c2 c3 (W.setCell ⟨gu, 0, none⟩ (.slice A' (n1 + 1) c')) := by
  have h1 := h.to hx
  have hb := h1.box.grown hg (own_blk_ne h1.rc h1.box (by decide)).symm
  have k1 := own_keptB h1.rm hg (fun j hj e => own_own_ne h1.rm h1.rc (by decide) j hj e)
  have k2 := own_keptB h1.rn hg (fun j hj e => own_own_ne h1.rn h1.rc (by decide) j hj e)
  refine ⟨hb.set_ 0 _, ?_, own_far k1 (p := ⟨gu, 0, none⟩) (own_blk_ne k1 hb (by decide)) _, own_far k2 (p := ⟨gu, 0, none⟩) (own_blk_ne k2 hb (by decide)) _, by simp [h.l1], h.l2, h.l3, h.gb, ((h1.ext.grown hg (fun k hk => (h1.rc.lt k hk).1)).setCell (p := ⟨gu, 0, none⟩) h.gb _), h1.ks.trans (KeepS.grow (by decide) hg h1.rc hb)⟩
  rw [u32V_app]
  exact own_far ho (p := ⟨gu, 0, none⟩) (own_blk_ne ho hb (by decide)) _
theorem UnAt.marked (h : UnAt w0 wk gu u n1 n2 n3 A1 A2 A3 c1 c2 c3 w) (x : Bs × Nat) (hx : Ext w U)
    (ho : W.ownsRow w0.heap.size mkT 2 (.slice A' (n2 + 1) c') (n2 + 1) (u.marks.flatMap markC ++ markC x)) (hg : U.grownBy W (Value.ownBlock (.slice A2 n2 c2))) :
    UnAt w0 wk gu ⟨u.code, u.marks ++ [x], u.needs⟩ n1 (n2 + 1) n3 A1 A' A3 c1 c' c3 (W.setCell ⟨gu, 1, none⟩ (.slice A' (n2 + 1) c')) := by
  have h1 := h.to hx
  have hb := h1.box.grown hg (own_blk_ne h1.rm h1.box (by decide)).symm
  have k1 := own_keptB h1.rc hg (fun j hj e => own_own_ne h1.rc h1.rm (by decide) j hj e)
  have k2 := own_keptB h1.rn hg (fun j hj e => own_own_ne h1.rn h1.rm (by decide) j hj e)
  refine ⟨hb.set_ 1 _, own_far k1 (p := ⟨gu, 1, none⟩) (own_blk_ne k1 hb (by decide)) _, ?_, own_far k2 (p := ⟨gu, 1, none⟩) (own_blk_ne k2 hb (by decide)) _, h.l1, by simp [h.l2], h.l3, h.gb, ((h1.ext.grown hg (fun k hk => (h1.rm.lt k hk).1)).setCell (p := ⟨gu, 1, none⟩) h.gb _), h1.ks.trans (KeepS.grow (by decide) hg h1.rm hb)⟩
  rw [List.flatMap_append, List.flatMap_cons, List.flatMap_nil, List.append_nil]
  exact own_far ho (p := ⟨gu, 1, none⟩) (own_blk_ne ho hb (by decide)) _
end
end Go.Proofs.YtikbfmjhmjkkgaaDoor
