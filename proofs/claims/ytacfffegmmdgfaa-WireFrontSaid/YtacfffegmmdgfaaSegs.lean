/- Segments as plain data, and slices of segments. -/
import Derived.Test.YtacfffegmmdgfaaEndM
import Derived.Test.YtacfffegmmdgfaaFlat
import Derived.Deep.CutBlock
namespace Go.Proofs.Ytacfffegmmdgfaa
open Go.RowKit
set_option linter.unusedVariables false

structure SegD where
  seq : Int
  ack : Int
  fl : Int
  wd : Int
  data : List UInt8
structure SegD.Ok (s : SegD) : Prop where
  seq : U32 s.seq
  ack : U32 s.ack
  fl : s.fl = 1 ∨ s.fl = 2 ∨ s.fl = 3 ∨ s.fl = 6
  wd : 0 ≤ s.wd ∧ s.wd ≤ 64
  data : s.data.length ≤ 32
def segC (x : SegD × Value) : List Value := [.int .u32 x.1.seq, .int .u32 x.1.ack, .int .i64 x.1.fl, .int .i64 x.1.wd, x.2]
theorem segC_len (x : SegD × Value) : (segC x).length = 5 := rfl
def SegAt (w : World) (lo : Nat) (x : SegD × Value) : Prop := w.ownsRow lo 5 1 x.2 x.1.data.length (bytesV x.1.data)
/-- The slice value v holds the segments l; its rows are new since lo. -/
def SegsAt (w : World) (lo : Nat) (v : Value) (l : List SegD) : Prop :=
  ∃ ls : List (SegD × Value), ls.map (·.1) = l ∧ w.ownsRow lo 60 5 v l.length (ls.flatMap segC) ∧ ∀ x ∈ ls, SegAt w lo x
theorem seg_info : (Try.prog.info? 60).map (fun i => (i.zero, i.size, i.bytes)) = some (some (.agg #[.int .u32 0, .int .u32 0, .int .i64 0, .int .i64 0, .slice none 0 0]), 5, 48) := by kernel_rfl
theorem Blk.reads5 {w : World} {g : Nat} {t : TypeId} {a b c d e : Value} (h : Blk w g t #[a, b, c, d, e]) : Reads w w.heap.size 5 (some ⟨g, 0, none⟩) 1 [a, b, c, d, e] := by
  refine ⟨by simp, fun _ => ⟨_, rfl, h.lt, fun j u hu => ?_⟩⟩
  rw [add_lit, Nat.zero_add, h.cell]
  simpa using hu
theorem own_ne_own {w : World} {base base' : Nat} {e e' : TypeId} {size size' n n' : Nat} {v v' : Value} {xs xs' : List Value} (h : w.ownsRow base e size v n xs) (h' : w.ownsRow base' e' size' v' n' xs') (hne : e ≠ e') {k : Nat} (hv : v.ownBlock = some k) : v'.ownBlock ≠ some k := by
  intro hv'
  rcases h.2 with ⟨rfl, _⟩ | ⟨g, cap, cur, rfl, _, hh, _⟩
  · simp [Value.ownBlock] at hv
  · rcases h'.2 with ⟨rfl, _⟩ | ⟨g', cap', cur', rfl, _, hh', _⟩
    · simp [Value.ownBlock] at hv'
    · have e1 : g = k := by simpa [Value.ownBlock] using hv
      have e2 : g' = k := by simpa [Value.ownBlock] using hv'
      subst e1
      subst e2
      exact Blk.ne_ (t := e) (t' := e') hh hh' hne rfl
theorem SegsAt.nil (w : World) (lo : Nat) : SegsAt w lo nilV [] := ⟨[], rfl, World.ownsRow_nil _ _ _ _, fun _ h => by cases h⟩
section
variable {w w' : World} {lo : Nat} {v : Value} {l : List SegD}
theorem SegsAt.ext (h : SegsAt w lo v l) (hx : Ext w w') : SegsAt w' lo v l := by
  obtain ⟨ls, h1, h2, h3⟩ := h
  exact ⟨ls, h1, hx.own h2, fun x hx' => hx.own (h3 x hx')⟩
theorem SegsAt.grown (h : SegsAt w lo v l) {g : Nat} {t : TypeId} {cs : Array Value} (hb : Blk w g t cs) (h1 : t ≠ 60) (h2 : t ≠ 5) (hg : w.grownBy w' (some g)) : SegsAt w' lo v l := by
  obtain ⟨ls, h4, h5, h6⟩ := h
  have key : ∀ {base size n : Nat} {e : TypeId} {v : Value} {xs : List Value}, w.ownsRow base e size v n xs → e ≠ t → w'.ownsRow base e size v n xs := fun ho hne =>
    own_of_keep ho (fun k hv => hg.block k (ho.lt k hv).2 (fun e => own_blk_ne ho hb hne (by rw [hv]; exact e)))
  exact ⟨ls, h4, key h5 (Ne.symm h1), fun x hx => key (h6 x hx) (Ne.symm h2)⟩
end
section
variable {P : Program} {w : World}
/-- 's[k:m]' as one equation for the walk: the address under a name. -/
theorem cut_mid {t e : TypeId} {i : TypeInfo} (ht : P.underlying t = some (.slice e)) (hi : P.info? e = some i) (hs : i.size = 1) {B n : Nat} {A : Option Addr} {xs : List Value} (h : Reads w B 1 A n xs) (k m c : Nat) (hk : k ≤ m) (hm : m ≤ n) (hc : n ≤ c) (kl kh : IntKind) :
    ∃ A', (∀ W, (Instr.slice t (.slice A n c) (some (.int kl (k : Int))) (some (.int kh (m : Int))) none).run P W = .ok (.slice A' (m - k) (c - k)) W) ∧ Reads w B 1 A' (m - k) ((xs.drop k).take (m - k)) ∧ (A' = none → A = none) := by
  have he : P.elem t = e := by simp [Program.elem, ht]
  have ht' : P.underlying t = some (.slice (P.elem t)) := by rw [he]; exact ht
  refine ⟨if c = k then A else A.map (·.add (k * 1)), fun W => ?_, ?_, ?_⟩
  · rw [run_slice_lh W t A n c ht' kl kh (k : Int) (m : Int) (by omega) (by omega) (by omega), he]
    simp [sizeOf, typeInfo, hi, hs, sliced, Result.andThen]
  · have := (h.cut (k := k) (cap := c) (by omega) hc).take (k := m - k) (by omega)
    simpa using this
  · intro h0
    cases A with
    | none => rfl
    | some a => split at h0 <;> simp at h0
end
end Go.Proofs.Ytacfffegmmdgfaa
