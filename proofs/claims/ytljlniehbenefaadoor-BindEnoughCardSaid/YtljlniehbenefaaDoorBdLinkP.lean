/- Linking, in plain words, and memory while pages are made. Plain theorems. -/
import Derived.Test.YtljlniehbenefaaDoorBdByP
import Derived.Test.YtljlniehbenefaaDoorLoadPlain
import Derived.Test.YtljlniehbenefaaDoorObSt
namespace Go.Proofs.YtljlniehbenefaaDoor
open Go.RowKit
set_option linter.unusedVariables false

def startS : Bs := [115, 116, 97, 114, 116]
def entryP (l : List PlD) : Int := l.foldl (fun e p => if p.name = startS then p.addr else e) 0
theorem entryP_next (l : List PlD) (k : Nat) (h : k < l.length) : entryP (l.take (k + 1)) = if l[k].name = startS then l[k].addr else entryP (l.take k) := by
  unfold entryP
  rw [List.take_succ_eq_append_getElem h, List.foldl_append]
  rfl
theorem entryP_mem : ∀ (l : List PlD) (e : Int), l.foldl (fun e p => if p.name = startS then p.addr else e) e = e ∨ ∃ p ∈ l, p.name = startS ∧ l.foldl (fun e p => if p.name = startS then p.addr else e) e = p.addr := by
  intro l
  induction l with
  | nil => intro e; exact .inl rfl
  | cons a l ih =>
    intro e
    rw [List.foldl_cons]
    rcases ih (if a.name = startS then a.addr else e) with h | ⟨p, hp, h1, h2⟩
    · by_cases ha : a.name = startS
      · rw [if_pos ha] at h ⊢
        exact .inr ⟨a, by simp, ha, h⟩
      · rw [if_neg ha] at h ⊢
        exact .inl h
    · exact .inr ⟨p, by simp [hp], h1, h2⟩
theorem start_eq (nm : Bs) : ((str nm).toList == [115, 116, 97, 114, 116]) = decide (nm = startS) := by
  rw [Go.Lib.toList_data, str_list]
  by_cases h : nm = startS
  · subst h; rfl
  · rw [decide_eq_false h]
    cases hb : (nm == [115, 116, 97, 114, 116]) with
    | false => rfl
    | true => exact absurd (eq_of_beq hb) h
/-- Page k of the whole. -/
structure PgIs (bs : Bs) (code k : Nat) (p : PgD) : Prop where
  page : p.page = ((1 + k : Nat) : Int)
  rights : p.rights = if 16 + 16 * k < code then 5 else 3
  ds : p.ds = (bs.drop (16 + 16 * k)).take 16
  m : p.m = p.ds.length
  cap : p.m ≤ p.c ∧ p.c ≤ maxLen
def PgsIs (bs : Bs) (code : Nat) (pgs : List PgD) : Prop := ∀ k (h : k < pgs.length), PgIs bs code k pgs[k]
theorem PgsIs.snoc {bs : Bs} {code : Nat} {pgs : List PgD} {p : PgD} (h : PgsIs bs code pgs) (hp : PgIs bs code pgs.length p) : PgsIs bs code (pgs ++ [p]) := by
  intro k hk
  by_cases hl : k < pgs.length
  · rw [List.getElem_append_left hl]; exact h k hl
  · have : k = pgs.length := by simp at hk; omega
    subst this
    rw [List.getElem_append_right (Nat.le_refl _)]
    simpa using hp
abbrev imT : TypeId := 69
abbrev pgT : TypeId := 88
/-- The image while its pages are made. -/
structure LkSt (w2 : World) (gi : Nat) (en : Int) (pgs : List PgD) (A : Option Addr) (c : Nat) (w : World) : Prop where
  box : Blk w gi imT #[.int .u32 en, .slice A pgs.length c]
  row : w.ownsRow (gi + 1) pgT 3 (.slice A pgs.length c) pgs.length (pgsV pgs)
  dat : ∀ p ∈ pgs, w.ownsRow (gi + 1) 5 1 (.slice p.D p.m p.c) p.m (bytesV p.ds)
  ext : Ext w2 w
  lo : w2.heap.size ≤ gi
section
variable {w2 w w' : World} {gi : Nat} {en : Int} {pgs : List PgD} {A : Option Addr} {c : Nat}
theorem LkSt.to (h : LkSt w2 gi en pgs A c w) (hx : Ext w w') : LkSt w2 gi en pgs A c w' :=
  ⟨h.box.ext hx, hx.own h.row, fun p hp => hx.own (h.dat p hp), h.ext.trans hx, h.lo⟩
theorem LkSt.entry (h : LkSt w2 gi en pgs A c w) (en' : Int) : LkSt w2 gi en' pgs A c (w.setCell ⟨gi, 0, none⟩ (.int .u32 en')) :=
  ⟨h.box.set_ 0 _, own_far h.row (own_blk_ne h.row h.box (by decide)) _, fun p hp => own_far (h.dat p hp) (own_blk_ne (h.dat p hp) h.box (by decide)) _, h.ext.setCell (p := ⟨gi, 0, none⟩) h.lo _, h.lo⟩
theorem LkSt.more (h : LkSt w2 gi en pgs A c w) {p : PgD} {A8 : Option Addr} {c8 : Nat} (hd : w.ownsRow (gi + 1) 5 1 (.slice p.D p.m p.c) p.m (bytesV p.ds)) (ho : w'.ownsRow (gi + 1) pgT 3 (.slice A8 (pgs.length + 1) c8) (pgs.length + 1) (pgsV pgs ++ pgC p)) (hg : w.grownBy w' (Value.ownBlock (.slice A pgs.length c))) :
    LkSt w2 gi en (pgs ++ [p]) A8 c8 (w'.setCell ⟨gi, 1, none⟩ (.slice A8 (pgs.length + 1) c8)) := by
  have hlo := h.lo
  have hlen : (pgs ++ [p]).length = pgs.length + 1 := by simp
  have hb := h.box.grown hg (own_blk_ne h.row h.box (by decide)).symm
  have hall : ∀ q ∈ pgs ++ [p], w'.ownsRow (gi + 1) 5 1 (.slice q.D q.m q.c) q.m (bytesV q.ds) := by
    intro q hq
    have h0 : w.ownsRow (gi + 1) 5 1 (.slice q.D q.m q.c) q.m (bytesV q.ds) := by
      rcases List.mem_append.1 hq with hq | hq
      · exact h.dat q hq
      · rw [List.mem_singleton] at hq; rw [hq]; exact hd
    exact own_keptB h0 hg (fun j hj => own_own_ne h0 h.row (by decide) j hj)
  refine ⟨by rw [hlen]; exact hb.set_ 1 _, ?_, fun q hq => own_far (hall q hq) (own_blk_ne (hall q hq) hb (by decide)) _, (h.ext.grown hg (fun k hk => by have := (h.row.lt k hk).1; omega)).setCell (p := ⟨gi, 1, none⟩) hlo _, hlo⟩
  rw [hlen, pgsV_append, show pgsV [p] = pgC p by simp [pgsV]]
  exact own_far ho (own_blk_ne ho hb (by decide)) _
end
section
variable {P : Program} {w : World}
/-- 's[k:j]' and 's[k:]' as one equation for the walk, the bounds as the walk spells them. -/
theorem cut_mid {t e : TypeId} {i : TypeInfo} (ht : P.underlying t = some (.slice e)) (hi : P.info? e = some i) (hs : i.size = 1) {B n : Nat} {A : Option Addr} {xs : List Value} (h : Reads w B 1 A n xs) (lo hi' : Int) (k j c : Nat) (hlo : lo = k) (hhi : hi' = j) (hkj : k ≤ j) (hj : j ≤ n) (hc : n ≤ c) (kl kh : IntKind) :
    ∃ A', (∀ W, (Instr.slice t (.slice A n c) (some (.int kl lo)) (some (.int kh hi')) none).run P W = .ok (.slice A' (j - k) (c - k)) W) ∧ Reads w B 1 A' (j - k) ((xs.drop k).take (j - k)) ∧ (A' = none → A = none) := by
  have he : P.elem t = e := by simp [Program.elem, ht]
  have ht' : P.underlying t = some (.slice (P.elem t)) := by rw [he]; exact ht
  subst hlo hhi
  refine ⟨if c = k then A else A.map (·.add (k * 1)), fun W => ?_, ?_, ?_⟩
  · rw [run_slice_lh W t A n c ht' kl kh (k : Int) (j : Int) (by omega) (by omega) (by omega), he]
    simp [sizeOf, typeInfo, hi, hs, sliced, Result.andThen]
  · have := (h.cut (k := k) (cap := c) (by omega) hc)
    rw [Nat.mul_one] at this
    rw [Nat.mul_one]
    exact this.take (by omega)
  · intro h0
    cases A with
    | none => rfl
    | some a => split at h0 <;> simp at h0
end
end Go.Proofs.YtljlniehbenefaaDoor
