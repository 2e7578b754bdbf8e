/- Memory while an object is made: its box, its four slices, the map of the names met. Plain theorems. -/
import Derived.Test.YtljlniehbenefaaDoorObRaw
import Derived.Test.YtljlniehbenefaaDoorU32K
import Derived.Test.YtljlniehbenefaaDoorBytesK
import Derived.Test.YtljlniehbenefaaDoorCut
import Derived.Test.YtljlniehbenefaaDoorIntsV
namespace Go.Proofs.YtljlniehbenefaaDoor
open Go.RowKit
set_option linter.unusedVariables false

theorem own_own_ne {w : World} {b1 b2 s1 s2 n1 n2 : Nat} {e1 e2 : TypeId} {v1 v2 : Value} {x1 x2 : List Value} (h1 : w.ownsRow b1 e1 s1 v1 n1 x1) (h2 : w.ownsRow b2 e2 s2 v2 n2 x2) (hne : e1 ≠ e2) (j : Nat) (hj : v1.ownBlock = some j) : v2.ownBlock ≠ some j := by
  rcases h1.2 with ⟨rfl, _⟩ | ⟨g, cap, cur, rfl, _, hh, _⟩
  · cases hj
  · have : g = j := by simpa [Value.ownBlock] using hj
    subst this
    exact own_blk_ne (t := e1) (g := g) (cs := cur) h2 hh (fun e => hne e.symm)
theorem own_keptB {w w' : World} {base size n : Nat} {e : TypeId} {v : Value} {xs : List Value} {row : Option Nat} (h : w.ownsRow base e size v n xs) (hg : w.grownBy w' row) (hne : ∀ j, v.ownBlock = some j → row ≠ some j) : w'.ownsRow base e size v n xs :=
  h.kept hg (by
    cases hv : v.ownBlock with
    | none => exact .inl rfl
    | some j => exact .inr (fun e => hne j hv e.symm))
theorem grown_of_ext {w w' : World} (h : Ext w w') (r : Option Nat) : w.grownBy w' r := ⟨h.os, h.tape, h.output, h.size, fun k hk _ => h.block k hk⟩
theorem Blk.rowsF {w : World} {g : Nat} {t : TypeId} {cs : Array Value} (h : Blk w g t cs) (n size : Nat) (hs : cs.size = n * size) : Reads w w.heap.size size (some ⟨g, 0, none⟩) n cs.toList := by
  refine ⟨by simpa using hs, fun _ => ⟨_, rfl, h.lt, fun j u hu => ?_⟩⟩
  rw [add_lit, Nat.zero_add, h.cell]
  simpa using hu
/-- A part of the call's own. -/
structure ObOwn (w : World) (B : Nat) (o : ObD) (v : ObV) : Prop where
  code : w.ownsRow B 31 1 (.slice v.A1 v.n1 v.c1) v.n1 (codeV o.code)
  data : w.ownsRow B 5 1 (.slice v.A2 v.n2 v.c2) v.n2 (bytesV o.data)
  names : w.ownsRow B nmT 4 (.slice v.A3 v.n3 v.c3) v.n3 (o.names.flatMap nmC)
  needs : w.ownsRow B neT 3 (.slice v.A4 v.n4 v.c4) v.n4 (o.needs.flatMap neC)
theorem ObOwn.ext {w w' : World} {B : Nat} {o : ObD} {v : ObV} (h : ObOwn w B o v) (hx : Ext w w') : ObOwn w' B o v := ⟨hx.own h.code, hx.own h.data, hx.own h.names, hx.own h.needs⟩
theorem ObOwn.rd {w : World} {B : Nat} {o : ObD} {v : ObV} (h : ObOwn w B o v) : ObRd w o v :=
  ⟨Reads.of_own h.code, Reads.of_own h.data, Reads.of_own h.names, Reads.of_own h.needs,
   by have := h.code.1; rw [codeV_len] at this; omega, by have := h.data.1; rw [bytesV_length] at this; omega,
   flat_len nmC_len (by omega) (Reads.of_own h.names), flat_len neC_len (by omega) (Reads.of_own h.needs)⟩
theorem ObOwn.far {w : World} {B : Nat} {o : ObD} {v : ObV} (h : ObOwn w B o v) {g : Nat} {cs : Array Value} {t : TypeId} (hb : Blk w g t cs) (h1 : 31 ≠ t) (h2 : 5 ≠ t) (h3 : nmT ≠ t) (h4 : neT ≠ t) (i : Nat) (u : Value) : ObOwn (w.setCell ⟨g, i, none⟩ u) B o v :=
  ⟨own_far h.code (own_blk_ne h.code hb h1) _, own_far h.data (own_blk_ne h.data hb h2) _, own_far h.names (own_blk_ne h.names hb h3) _, own_far h.needs (own_blk_ne h.needs hb h4) _⟩
/-- The making of an object: gp the box of the raw part, gr the result's, g3 the object's, gm the map of names. -/
structure ObSt (w : World) (pt : TypeId) (pcs : Array Value) (g3 gm K : Nat) (f : Bs → Bool) (o : ObD) (v : ObV) (wr : World) : Prop where
  part : Blk wr w.heap.size pt pcs
  res : Blk wr (w.heap.size + 1) obT #[.slice none 0 0, .slice none 0 0, .slice none 0 0, .slice none 0 0]
  box : Blk wr g3 obT v.cells
  code : wr.ownsRow w.heap.size 31 1 (.slice v.A1 v.n1 v.c1) v.n1 (codeV o.code)
  data : wr.ownsRow w.heap.size 5 1 (.slice v.A2 v.n2 v.c2) v.n2 (bytesV o.data)
  names : wr.ownsRow (gm + 1) nmT 4 (.slice v.A3 v.n3 v.c3) v.n3 (o.names.flatMap nmC)
  needs : wr.ownsRow (gm + 1) neT 3 (.slice v.A4 v.n4 v.c4) v.n4 (o.needs.flatMap neC)
  map : MapSB wr gm K f
  ext : Ext w wr
  lo : w.heap.size + 1 < g3
  lom : g3 < gm
  f1 : ∀ j, Value.ownBlock (.slice v.A1 v.n1 v.c1) = some j → j < gm
  f2 : ∀ j, Value.ownBlock (.slice v.A2 v.n2 v.c2) = some j → j < gm
section
variable {w wr wr' : World} {pt : TypeId} {pcs : Array Value} {g3 gm K : Nat} {f : Bs → Bool} {o : ObD} {v : ObV}
theorem ObSt.to (h : ObSt w pt pcs g3 gm K f o v wr) (hx : Ext wr wr') : ObSt w pt pcs g3 gm K f o v wr' :=
  ⟨h.part.ext hx, h.res.ext hx, h.box.ext hx, hx.own h.code, hx.own h.data, hx.own h.names, hx.own h.needs, h.map.ext hx, h.ext.trans hx, h.lo, h.lom, h.f1, h.f2⟩
theorem ObSt.own (h : ObSt w pt pcs g3 gm K f o v wr) : ObOwn wr w.heap.size o v :=
  ⟨h.code, h.data, own_mono h.names (by have := h.lo; have := h.lom; omega), own_mono h.needs (by have := h.lo; have := h.lom; omega)⟩
theorem ObSt.later (h : ObSt w pt pcs g3 gm K f o v wr) {K' : Nat} (hK : K ≤ K') : ObSt w pt pcs g3 gm K' f o v wr :=
  ⟨h.part, h.res, h.box, h.code, h.data, h.names, h.needs, h.map.mono hK, h.ext, h.lo, h.lom, h.f1, h.f2⟩
/-- The map has changed. -/
theorem ObSt.met {K' : Nat} {f' : Bs → Bool} (h : ObSt w pt pcs g3 gm K f o v wr) (hm : MapSB wr' gm K' f') (hg : wr.grownBy wr' (some gm)) : ObSt w pt pcs g3 gm K' f' o v wr' := by
  have h1 := h.lo
  have h2 := h.lom
  refine ⟨h.part.grown hg (fun e => by injection e with e; omega), h.res.grown hg (fun e => by injection e with e; omega), h.box.grown hg (fun e => by injection e with e; omega),
    own_keptB h.code hg (fun j hj e => by injection e with e; have := h.f1 j hj; omega), own_keptB h.data hg (fun j hj e => by injection e with e; have := h.f2 j hj; omega),
    own_keptB h.names hg (fun j hj e => by injection e with e; have := (h.names.lt j hj).1; omega), own_keptB h.needs hg (fun j hj e => by injection e with e; have := (h.needs.lt j hj).1; omega), hm,
    h.ext.grown hg (fun j hj => by injection hj with hj; omega), h1, h2, h.f1, h.f2⟩
/-- A row of names has grown, and the box is told. -/
theorem ObSt.name (h : ObSt w pt pcs g3 gm K f o v wr) (hpt : nmT ≠ pt) {x : NmD} {A7 : Option Addr} {c7 : Nat} (ho : wr'.ownsRow (gm + 1) nmT 4 (.slice A7 (v.n3 + 1) c7) (v.n3 + 1) (o.names.flatMap nmC ++ nmC x)) (hg : wr.grownBy wr' (Value.ownBlock (.slice v.A3 v.n3 v.c3))) :
    ObSt w pt pcs g3 gm K f { o with names := o.names ++ [x] } { v with A3 := A7, n3 := v.n3 + 1, c3 := c7 } (wr'.setCell ⟨g3, 2, none⟩ (.slice A7 (v.n3 + 1) c7)) := by
  have h1 := h.lo
  have h2 := h.lom
  have b1 := h.part.grown hg (own_blk_ne h.names h.part hpt).symm
  have b2 := h.res.grown hg (own_blk_ne h.names h.res (by decide)).symm
  have b3 := h.box.grown hg (own_blk_ne h.names h.box (by decide)).symm
  have o1 := own_keptB h.code hg (fun j hj => own_own_ne h.code h.names (by decide) j hj)
  have o2 := own_keptB h.data hg (fun j hj => own_own_ne h.data h.names (by decide) j hj)
  have o4 := own_keptB h.needs hg (fun j hj => own_own_ne h.needs h.names (by decide) j hj)
  refine ⟨b1.far (p := ⟨g3, 2, none⟩) (by show w.heap.size ≠ g3; omega) _, b2.far (p := ⟨g3, 2, none⟩) (by show w.heap.size + 1 ≠ g3; omega) _, b3.set_ 2 _,
    own_far o1 (own_blk_ne o1 b3 (by decide)) _, own_far o2 (own_blk_ne o2 b3 (by decide)) _, ?_, own_far o4 (own_blk_ne o4 b3 (by decide)) _,
    (h.map.kept hg (fun e => by have := (h.names.lt gm e.symm).1; omega)).far (p := ⟨g3, 2, none⟩) (by show gm ≠ g3; omega) _,
    (h.ext.grown hg (fun k hk => by have := (h.names.lt k hk).1; omega)).setCell (p := ⟨g3, 2, none⟩) (by show w.heap.size ≤ g3; omega) _, h1, h2, h.f1, h.f2⟩
  show (wr'.setCell ⟨g3, 2, none⟩ (.slice A7 (v.n3 + 1) c7)).ownsRow (gm + 1) nmT 4 (.slice A7 (v.n3 + 1) c7) (v.n3 + 1) ((o.names ++ [x]).flatMap nmC)
  rw [List.flatMap_append, List.flatMap_cons, List.flatMap_nil, List.append_nil]
  exact own_far ho (own_blk_ne ho b3 (by decide)) _
/-- A row of needs has grown, and the box is told. -/
theorem ObSt.need (h : ObSt w pt pcs g3 gm K f o v wr) (hpt : neT ≠ pt) {x : NeD} {A7 : Option Addr} {c7 : Nat} (ho : wr'.ownsRow (gm + 1) neT 3 (.slice A7 (v.n4 + 1) c7) (v.n4 + 1) (o.needs.flatMap neC ++ neC x)) (hg : wr.grownBy wr' (Value.ownBlock (.slice v.A4 v.n4 v.c4))) :
    ObSt w pt pcs g3 gm K f { o with needs := o.needs ++ [x] } { v with A4 := A7, n4 := v.n4 + 1, c4 := c7 } (wr'.setCell ⟨g3, 3, none⟩ (.slice A7 (v.n4 + 1) c7)) := by
  have h1 := h.lo
  have h2 := h.lom
  have b1 := h.part.grown hg (own_blk_ne h.needs h.part hpt).symm
  have b2 := h.res.grown hg (own_blk_ne h.needs h.res (by decide)).symm
  have b3 := h.box.grown hg (own_blk_ne h.needs h.box (by decide)).symm
  have o1 := own_keptB h.code hg (fun j hj => own_own_ne h.code h.needs (by decide) j hj)
  have o2 := own_keptB h.data hg (fun j hj => own_own_ne h.data h.needs (by decide) j hj)
  have o3 := own_keptB h.names hg (fun j hj => own_own_ne h.names h.needs (by decide) j hj)
  refine ⟨b1.far (p := ⟨g3, 3, none⟩) (by show w.heap.size ≠ g3; omega) _, b2.far (p := ⟨g3, 3, none⟩) (by show w.heap.size + 1 ≠ g3; omega) _, b3.set_ 3 _,
    own_far o1 (own_blk_ne o1 b3 (by decide)) _, own_far o2 (own_blk_ne o2 b3 (by decide)) _, own_far o3 (own_blk_ne o3 b3 (by decide)) _, ?_,
    (h.map.kept hg (fun e => by have := (h.needs.lt gm e.symm).1; omega)).far (p := ⟨g3, 3, none⟩) (by show gm ≠ g3; omega) _,
    (h.ext.grown hg (fun k hk => by have := (h.needs.lt k hk).1; omega)).setCell (p := ⟨g3, 3, none⟩) (by show w.heap.size ≤ g3; omega) _, h1, h2, h.f1, h.f2⟩
  show (wr'.setCell ⟨g3, 3, none⟩ (.slice A7 (v.n4 + 1) c7)).ownsRow (gm + 1) neT 3 (.slice A7 (v.n4 + 1) c7) (v.n4 + 1) ((o.needs ++ [x]).flatMap neC)
  rw [List.flatMap_append, List.flatMap_cons, List.flatMap_nil, List.append_nil]
  exact own_far ho (own_blk_ne ho b3 (by decide)) _
/-- The result's box is told: the part is the call's own. -/
theorem ObSt.back (h : ObSt w pt pcs g3 gm K f o v wr) (a b c d : Value) : ObOwn ((((wr.setCell ⟨w.heap.size + 1, 0, none⟩ a).setCell ⟨w.heap.size + 1, 1, none⟩ b).setCell ⟨w.heap.size + 1, 2, none⟩ c).setCell ⟨w.heap.size + 1, 3, none⟩ d) w.heap.size o v ∧ Ext w ((((wr.setCell ⟨w.heap.size + 1, 0, none⟩ a).setCell ⟨w.heap.size + 1, 1, none⟩ b).setCell ⟨w.heap.size + 1, 2, none⟩ c).setCell ⟨w.heap.size + 1, 3, none⟩ d) := by
  have r1 := h.res.set_ 0 a
  have r2 := r1.set_ 1 b
  have r3 := r2.set_ 2 c
  have hl : w.heap.size ≤ w.heap.size + 1 := by omega
  exact ⟨(((h.own.far h.res (by decide) (by decide) (by decide) (by decide) 0 a).far r1 (by decide) (by decide) (by decide) (by decide) 1 b).far r2 (by decide) (by decide) (by decide) (by decide) 2 c).far r3 (by decide) (by decide) (by decide) (by decide) 3 d,
    (((h.ext.setCell (p := ⟨w.heap.size + 1, 0, none⟩) hl _).setCell (p := ⟨w.heap.size + 1, 1, none⟩) hl _).setCell (p := ⟨w.heap.size + 1, 2, none⟩) hl _).setCell (p := ⟨w.heap.size + 1, 3, none⟩) hl _⟩
end
/-- A box made new. -/
def NewAt (W : World) (t : TypeId) (vals : Array Value) (s : Value) (wx : World) : Prop := ∃ g, s = .pointer (some ⟨g, 0, none⟩) ∧ Blk wx g t vals ∧ W.heap.size ≤ g ∧ Ext W wx
theorem NewAt.drew {W : World} {t : TypeId} {vals : Array Value} {s : Value} {wx : World} (h : NewAt W t vals s wx) : NewAt W t vals s wx.drew := by
  obtain ⟨g, h1, h2, h3, h4⟩ := h
  exact ⟨g, h1, h2.drew, h3, h4.drew⟩
theorem newA {W W' : World} {t : TypeId} {vals : Array Value} (hx : Ext W W') : NewAt W t vals (.pointer (some ⟨W'.heap.size, 0, none⟩)) (W'.alloc (.cells vals t)) :=
  ⟨_, rfl, Blk.new _ _ _, hx.size, hx.alloc _⟩
theorem newB4 {W W' : World} {t : TypeId} {g : Nat} {z0 z1 z2 z3 v0 v1 v2 v3 : Value} (hb : Blk W' g t #[z0, z1, z2, z3]) (hg : W.heap.size ≤ g) (hx : Ext W W') :
    NewAt W t #[v0, v1, v2, v3] (.pointer (some ⟨g, 0, none⟩)) ((((W'.setCell ⟨g, 0, none⟩ v0).setCell ⟨g, 1, none⟩ v1).setCell ⟨g, 2, none⟩ v2).setCell ⟨g, 3, none⟩ v3) :=
  ⟨g, rfl, (((hb.set_ 0 _).set_ 1 _).set_ 2 _).set_ 3 _, hg, (((hx.setCell (p := ⟨g, 0, none⟩) hg _).setCell (p := ⟨g, 1, none⟩) hg _).setCell (p := ⟨g, 2, none⟩) hg _).setCell (p := ⟨g, 3, none⟩) hg _⟩
theorem tmod_zero (n k : Int) : (n.tmod k == 0) = decide (n % k = 0) := by
  by_cases h : k ∣ n
  · have h1 : n.tmod k = 0 := Int.tmod_eq_zero_of_dvd h
    have h2 : n % k = 0 := Int.emod_eq_zero_of_dvd h
    rw [h1, h2]; rfl
  · have h1 : ¬ n.tmod k = 0 := fun e => h (Int.dvd_of_tmod_eq_zero e)
    have h2 : ¬ n % k = 0 := fun e => h (Int.dvd_of_emod_eq_zero e)
    rw [decide_eq_false h2]
    simpa using h1
end Go.Proofs.YtljlniehbenefaaDoor
