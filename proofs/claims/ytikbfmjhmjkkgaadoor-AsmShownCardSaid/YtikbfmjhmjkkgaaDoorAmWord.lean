/- The contract of (*Unit).word. -/
import Derived.Test.YtikbfmjhmjkkgaaDoorAmNum
import Derived.Test.YtikbfmjhmjkkgaaDoorAmPut
import Derived.Test.YtikbfmjhmjkkgaaDoorAmName
namespace Go.Proofs.YtikbfmjhmjkkgaaDoor
open Go.RowKit
set_option linter.unusedVariables false

def strsV (l : List Bs) : List Value := l.map fun x => Value.string (str x)
theorem strsV_len (l : List Bs) : (strsV l).length = l.length := by simp [strsV]
/-- Fields of a line in memory. -/
structure FsAt (w : World) (A : Option Addr) (n : Nat) (f : List Bs) : Prop where
  row : Reads w w.heap.size 1 A n (strsV f)
  len : f.length = n
  sm : ∀ x ∈ f, x.length ≤ 4000
  cnt : n ≤ 4000
theorem FsAt.ext {w w' : World} {A : Option Addr} {n : Nat} {f : List Bs} (h : FsAt w A n f) (hx : Ext w w') : FsAt w' A n f := ⟨(hx.reads h.row (Nat.le_refl _)).more hx.size, h.len, h.sm, h.cnt⟩
/-- How a line's part ends. -/
def ResOut (w0 wk : World) (gu : Nat) (r : Res) (e : Ending) (w' : World) : Prop :=
  match r with
  | .ok u => e = .returned (.int .i64 0) ∧ UnOk w0 wk gu u w'
  | .err k => e = .returned (.int .i64 (k : Int)) ∧ k ≠ 0 ∧ Ext w0 w'
/-- A unit that may take one word more. -/
def Room (u : UnD) : Prop := u.code.length ≤ 200 ∧ u.needs.length ≤ 200 ∧ u.marks.length ≤ 2100
set_option maxHeartbeats 4000000 in
set_option maxRecDepth 100000 in
theorem word_any (w0 wk : World) (gu : Nat) (u : UnD) (A : Option Addr) (n c : Nat) (f : List Bs) (w : World) (h : UnOk w0 wk gu u w) (hr : Room u) (hf : FsAt w A n f) (hL : LibOk w) :
    Calls Tryd.prog 32 #[.pointer (some ⟨gu, 0, none⟩), .slice A n c] w fun e w' => ResOut w0 wk gu (Res.of (wordL' u f)) e w' := by
  have HU := hide h
  have HX0 := hide h.ext
  match f, hf with
  | [], hf =>
    have hn : n = 0 := hf.len.symm
    subst hn
    clear hf h
    go_enter Tryd.func32, Tryd.ntmps32
    go_wp2_with fail
    go_ret
    exact ⟨rfl, by decide, HX0.out⟩
  | a :: b :: r, hf =>
    have hn : n = r.length + 2 := hf.len.symm
    have t1 : ((n : Int) == 1) = false := by simp; omega
    have t2 : (n == 1) = false := by simp; omega
    have t3 : decide (n = 1) = false := decide_eq_false (by omega)
    clear hf h hn
    go_enter Tryd.func32, Tryd.ntmps32
    go_wp2_with fail
    go_ret
    exact ⟨rfl, by decide, HX0.out⟩
  | [s], hf =>
    have hn : n = 1 := hf.len.symm
    subst hn
    have hsl := hf.sm s (by simp)
    obtain ⟨b, off, rfl, hb, hc0⟩ := hf.row.at1 (by omega)
    have hcell : w.cell? ⟨b, off, none⟩ = some (.string (str s)) := hc0 0 (by omega)
    have HC := hide hcell
    have HW := hide (show wordL' u [s] = if nameB s = true then some (u.put 0 s 3) else match numB s 0 4294967295 with | some n => some (u.put n.toNat [] 0) | none => none from rfl)
    have HNA := hide (aname_any s w (by omega))
    have HNU := hide (num_any s (by omega) 0 4294967295 w hL)
    have HR := hide hr
    clear hc0 hb hr hf h hL
    go_enter Tryd.func32, Tryd.ntmps32
    go_wp2_with fail
    refine HNA.out.mono ?_
    rintro e w1 ⟨rfl, rfl⟩
    cases hnb : nameB s with
    | true =>
      rw [hnb, if_pos rfl] at HW
      have HP := hide (put_any w0 wk gu u 0 s 3 w HU.out (Nat.le_trans HR.out.1 (by decide)) (Nat.le_trans HR.out.2.1 (by decide)))
      go_wp2_with fail
      refine HP.out.mono ?_
      rintro e w1 ⟨rfl, hu⟩
      have HU1 := hide hu
      clear hu
      go_wp2_with fail
      go_ret
      rw [HW.out]
      exact ⟨rfl, HU1.out⟩
    | false =>
      rw [hnb, if_neg (by decide)] at HW
      go_wp2_with fail
      refine HNU.out.mono ?_
      rintro e w1 ⟨⟨z, rfl, hz⟩, hx⟩
      have HX := hide hx
      clear hx
      cases hr : numB s 0 4294967295 with
      | none =>
        rw [hr] at HW
        simp only [Option.isSome_none]
        go_wp2_with fail
        go_ret
        rw [HW.out]
        exact ⟨rfl, by decide, HX0.out.trans HX.out⟩
      | some v =>
        have hzv := hz v hr
        subst hzv
        rw [hr] at HW
        simp only [Option.isSome_some]
        have hb : 0 ≤ z ∧ z ≤ 4294967295 := by
          unfold numB at hr
          split at hr
          · split at hr
            · injection hr with hr; subst hr; rename_i q; exact ⟨q.2.1, q.2.2⟩
            · cases hr
          · cases hr
        obtain ⟨m, rfl⟩ := Int.eq_ofNat_of_zero_le hb.1
        have hwr : IntKind.u32.wrap (m : Int) = (m : Int) := by rw [IntKind.wrap_u32]; omega
        have HP := hide (put_any w0 wk gu u m [] 0 w1 (HU.out.to HX.out) (Nat.le_trans HR.out.1 (by decide)) (Nat.le_trans HR.out.2.1 (by decide)))
        clear hb hz hr
        go_wp2_with fail
        refine HP.out.mono ?_
        rintro e w2 ⟨rfl, hu⟩
        have HU1 := hide hu
        clear hu
        go_wp2_with fail
        go_ret
        rw [HW.out]
        exact ⟨rfl, HU1.out⟩
end Go.Proofs.YtikbfmjhmjkkgaaDoor
