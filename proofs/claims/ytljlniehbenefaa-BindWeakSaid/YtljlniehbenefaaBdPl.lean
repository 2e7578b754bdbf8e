/- The places of names, in plain words, and memory while they are gathered. Plain theorems. -/
import Derived.Test.YtljlniehbenefaaBdP
import Derived.Test.YtljlniehbenefaaMapSI
namespace Go.Proofs.Ytljlniehbenefaa
open Go.RowKit
set_option linter.unusedVariables false

structure PlD where
  name : Bs
  part : Nat
  addr : Int
structure PlW where
  p : PlD
  weak : Bool
abbrev plT : TypeId := 40
def plC (p : PlD) : List Value := [.string (str p.name), .int .i64 (p.part : Int), .int .i64 p.addr]
theorem plC_len (p : PlD) : (plC p).length = 3 := rfl
def addrN (c d : Nat) (n : NmD) : Int := (if n.wh = 1 then (c : Int) else (d : Int)) + n.pos
def defN (os : List ObX) (i : Nat) (n : NmD) : PlW := ⟨⟨n.name, i, addrN (cAt os i) (dAt os i) n⟩, n.weak⟩
def defsG (f : Nat → NmD → PlW) : List ObX → Nat → List PlW
  | [], _ => []
  | p :: l, i => p.1.names.map (f i) ++ defsG f l (i + 1)
theorem defsG_drop (f : Nat → NmD → PlW) (os : List ObX) (i : Nat) (h : i < os.length) : defsG f (os.drop i) i = os[i].1.names.map (f i) ++ defsG f (os.drop (i + 1)) (i + 1) := by
  rw [List.drop_eq_getElem_cons h]
  rfl
/-- The first place of a name. -/
def idxN : List PlD → Bs → Option Nat
  | [], _ => none
  | p :: l, s => if p.name = s then some 0 else (idxN l s).map (· + 1)
theorem idxN_lt : ∀ (l : List PlD) (s : Bs) (k : Nat), idxN l s = some k → ∃ h : k < l.length, l[k].name = s := by
  intro l
  induction l with
  | nil => intro s k h; cases h
  | cons p l ih =>
    intro s k h
    unfold idxN at h
    split at h
    · rename_i he
      injection h with h
      subst h
      exact ⟨by simp, he⟩
    · cases hx : idxN l s with
      | none => rw [hx] at h; cases h
      | some j =>
        rw [hx] at h
        injection h with h
        subst h
        obtain ⟨h1, h2⟩ := ih s j hx
        exact ⟨by simp; omega, by simpa using h2⟩
theorem idxN_snoc_new : ∀ (l : List PlD) (p : PlD) (s : Bs), idxN l p.name = none → idxN (l ++ [p]) s = if s = p.name then some l.length else idxN l s := by
  intro l
  induction l with
  | nil =>
    intro p s _
    by_cases h : s = p.name
    · subst h; simp [idxN]
    · rw [if_neg h]; simp only [List.nil_append, idxN]; rw [if_neg (fun e => h e.symm)]; rfl
  | cons q l ih =>
    intro p s h
    unfold idxN at h
    split at h
    · cases h
    · rename_i hq
      have h' : idxN l p.name = none := by cases hx : idxN l p.name with
        | none => rfl
        | some j => rw [hx] at h; cases h
      rw [List.cons_append, idxN, ih p s h', idxN]
      by_cases h1 : q.name = s
      · rw [if_pos h1, if_pos h1, if_neg (fun e => hq (h1.trans e))]
      · rw [if_neg h1, if_neg h1]
        by_cases h2 : s = p.name
        · rw [if_pos h2, if_pos h2]; rfl
        · rw [if_neg h2, if_neg h2]
theorem idxN_set : ∀ (l : List PlD) (k : Nat) (p : PlD) (h : k < l.length), l[k].name = p.name → ∀ s, idxN (l.set k p) s = idxN l s := by
  intro l
  induction l with
  | nil => intro k p h; simp at h
  | cons q l ih =>
    intro k p h hn s
    cases k with
    | zero =>
      simp only [List.getElem_cons_zero] at hn
      rw [List.set_cons_zero, idxN, idxN, hn]
    | succ k =>
      rw [List.set_cons_succ, idxN, idxN, ih k p (by simpa using h) (by simpa using hn) s]
structure PlS where
  out : List PlD
  strong : Bs → Bool
def plStep (S : PlS) (d : PlW) : Option PlS :=
  match idxN S.out d.p.name with
  | none => some ⟨S.out ++ [d.p], updS S.strong d.p.name (S.strong d.p.name || !d.weak)⟩
  | some k => if d.weak = true then some ⟨S.out, updS S.strong d.p.name (S.strong d.p.name || !d.weak)⟩ else if S.strong d.p.name = true then none else some ⟨S.out.set k d.p, updS S.strong d.p.name (S.strong d.p.name || !d.weak)⟩
def plRun : List PlW → PlS → Option PlS
  | [], S => some S
  | d :: l, S => (plStep S d).bind (plRun l)
theorem plRun_app (a b : List PlW) : ∀ S, plRun (a ++ b) S = (plRun a S).bind (plRun b) := by
  induction a with
  | nil => intro S; rfl
  | cons d a ih =>
    intro S
    show (plStep S d).bind (plRun (a ++ b)) = ((plStep S d).bind (plRun a)).bind (plRun b)
    cases plStep S d with
    | none => rfl
    | some S' => exact ih S'
def placesP (os : List ObX) : Option PlS := plRun (defsG (defN os) os 0) ⟨[], fun _ => false⟩
/-- Places so far in memory: the two maps, and the row. -/
structure PlSt (wS : World) (gm1 gm2 K : Nat) (S : PlS) (A : Option Addr) (c : Nat) (w : World) : Prop where
  m1 : MapSI w gm1 K (fun s => (idxN S.out s).map fun k => (k : Int))
  m2 : MapSB w gm2 K S.strong
  row : w.ownsRow (gm2 + 1) plT 3 (.slice A S.out.length c) S.out.length (S.out.flatMap plC)
  ext : Ext wS w
  l1 : wS.heap.size ≤ gm1
  l2 : gm1 < gm2
  few : S.out.length ≤ K
section
variable {wS w w' : World} {gm1 gm2 K : Nat} {S : PlS} {A : Option Addr} {c : Nat}
theorem PlSt.to (h : PlSt wS gm1 gm2 K S A c w) (hx : Ext w w') : PlSt wS gm1 gm2 K S A c w' := ⟨h.m1.ext hx, h.m2.ext hx, hx.own h.row, h.ext.trans hx, h.l1, h.l2, h.few⟩
theorem PlSt.out_ne1 (h : PlSt wS gm1 gm2 K S A c w) : Value.ownBlock (.slice A S.out.length c) ≠ some gm1 := fun e => by have := (h.row.lt _ e).1; have := h.l2; omega
theorem PlSt.out_ne2 (h : PlSt wS gm1 gm2 K S A c w) : Value.ownBlock (.slice A S.out.length c) ≠ some gm2 := fun e => by have := (h.row.lt _ e).1; omega
theorem PlSt.later (h : PlSt wS gm1 gm2 K S A c w) {K' : Nat} (hK : K ≤ K') : PlSt wS gm1 gm2 K' S A c w := ⟨h.m1.mono hK, h.m2.mono hK, h.row, h.ext, h.l1, h.l2, Nat.le_trans h.few hK⟩
/-- The second map has changed. -/
theorem PlSt.strong_ (h : PlSt wS gm1 gm2 K S A c w) {K' : Nat} {f : Bs → Bool} (hm : MapSB w' gm2 K' f) (hg : w.grownBy w' (some gm2)) (hK : K ≤ K') : PlSt wS gm1 gm2 K' ⟨S.out, f⟩ A c w' := by
  have h1 := h.l1
  have h2 := h.l2
  exact ⟨(h.m1.kept hg (fun e => by injection e with e; omega)).mono hK, hm, own_kept1 h.row hg h.out_ne2, h.ext.grown hg (fun k hk => by injection hk with hk; omega), h1, h2, Nat.le_trans h.few hK⟩
/-- A place more: the first map has changed, and then the row has grown. -/
theorem PlSt.more (h : PlSt wS gm1 gm2 K S A c w) {p : PlD} (hn : idxN S.out p.name = none) {w1 w2 : World} {A' : Option Addr} {c' : Nat} (hm : MapSI w1 gm1 (K + 1) (updS (fun s => (idxN S.out s).map fun k => (k : Int)) p.name (some (S.out.length : Int)))) (hg1 : w.grownBy w1 (some gm1))
    (ho : w2.ownsRow (gm2 + 1) plT 3 (.slice A' (S.out.length + 1) c') (S.out.length + 1) (S.out.flatMap plC ++ plC p)) (hx : Ext w1 w') (hg2 : w'.grownBy w2 (Value.ownBlock (.slice A S.out.length c))) : PlSt wS gm1 gm2 (K + 1) ⟨S.out ++ [p], S.strong⟩ A' c' w2 := by
  have h1 := h.l1
  have h2 := h.l2
  have hlen : (S.out ++ [p]).length = S.out.length + 1 := by simp
  refine ⟨?_, ?_, ?_, ?_, h1, h2, by rw [hlen]; have := h.few; omega⟩
  · have hf : (fun s => (idxN (S.out ++ [p]) s).map fun k => (k : Int)) = updS (fun s => (idxN S.out s).map fun k => (k : Int)) p.name (some (S.out.length : Int)) := by
      funext s
      rw [idxN_snoc_new _ _ _ hn]
      unfold updS
      by_cases h : s = p.name
      · rw [if_pos h, if_pos h]; rfl
      · rw [if_neg h, if_neg h]
    show MapSI w2 gm1 (K + 1) (fun s => (idxN (S.out ++ [p]) s).map fun k => (k : Int))
    rw [hf]
    exact (hm.ext hx).kept hg2 (fun e => h.out_ne1 e.symm)
  · exact (((h.m2.kept hg1 (fun e => by injection e with e; omega)).ext hx).kept hg2 (fun e => h.out_ne2 e.symm)).mono (by omega)
  · rw [hlen, List.flatMap_append, List.flatMap_cons, List.flatMap_nil, List.append_nil]
    exact ho
  · exact ((h.ext.grown hg1 (fun k hk => by injection hk with hk; omega)).trans hx).grown hg2 (fun k hk => by have := (h.row.lt k hk).1; omega)
/-- A place told anew. -/
theorem PlSt.anew {S : PlS} {g : Nat} (h : PlSt wS gm1 gm2 K S (some ⟨g, 0, none⟩) c w) {p : PlD} {k : Nat} (hk : idxN S.out p.name = some k) : PlSt wS gm1 gm2 K ⟨S.out.set k p, S.strong⟩ (some ⟨g, 0, none⟩) c (((w.setCell ⟨g, k * 3, none⟩ (.string (str p.name))).setCell ⟨g, k * 3 + 1, none⟩ (.int .i64 (p.part : Int))).setCell ⟨g, k * 3 + 2, none⟩ (.int .i64 p.addr)) := by
  have h1 := h.l1
  have h2 := h.l2
  obtain ⟨hk1, hk2⟩ := idxN_lt _ _ _ hk
  have n1 : gm1 ≠ g := fun e => h.out_ne1 (by simp [Value.ownBlock, e])
  have n2 : gm2 ≠ g := fun e => h.out_ne2 (by simp [Value.ownBlock, e])
  have hlo := (h.row.lt g (by simp [Value.ownBlock])).1
  have r1 := own_set (own_set (own_set h.row (k * 3) (.string (str p.name))) (k * 3 + 1) (.int .i64 (p.part : Int))) (k * 3 + 2) (.int .i64 p.addr)
  have e0 := flat_set plC_len S.out k 0 hk1 (by omega) ⟨p.name, S.out[k].part, S.out[k].addr⟩ (.string (str p.name)) (by simp [plC])
  rw [Nat.add_zero] at e0
  rw [e0] at r1
  have e1 := flat_set plC_len (S.out.set k ⟨p.name, S.out[k].part, S.out[k].addr⟩) k 1 (by simpa using hk1) (by omega) ⟨p.name, p.part, S.out[k].addr⟩ (.int .i64 (p.part : Int)) (by simp [plC])
  rw [e1, List.set_set] at r1
  have e2 := flat_set plC_len (S.out.set k ⟨p.name, p.part, S.out[k].addr⟩) k 2 (by simpa using hk1) (by omega) p (.int .i64 p.addr) (by simp [plC])
  rw [e2, List.set_set] at r1
  refine ⟨?_, ((h.m2.far (p := ⟨g, k * 3, none⟩) n2 _).far (p := ⟨g, k * 3 + 1, none⟩) n2 _).far (p := ⟨g, k * 3 + 2, none⟩) n2 _, ?_, ((h.ext.setCell (p := ⟨g, k * 3, none⟩) (by show _ ≤ g; omega) _).setCell (p := ⟨g, k * 3 + 1, none⟩) (by show _ ≤ g; omega) _).setCell (p := ⟨g, k * 3 + 2, none⟩) (by show _ ≤ g; omega) _, h1, h2, by rw [List.length_set]; exact h.few⟩
  · show MapSI _ gm1 K (fun s => (idxN (S.out.set k p) s).map fun k => (k : Int))
    rw [show (fun s => (idxN (S.out.set k p) s).map fun k => (k : Int)) = (fun s => (idxN S.out s).map fun k => (k : Int)) from funext fun s => by rw [idxN_set _ _ _ hk1 hk2]]
    exact ((h.m1.far (p := ⟨g, k * 3, none⟩) n1 _).far (p := ⟨g, k * 3 + 1, none⟩) n1 _).far (p := ⟨g, k * 3 + 2, none⟩) n1 _
  · rw [List.length_set]
    exact r1
end
end Go.Proofs.Ytljlniehbenefaa
