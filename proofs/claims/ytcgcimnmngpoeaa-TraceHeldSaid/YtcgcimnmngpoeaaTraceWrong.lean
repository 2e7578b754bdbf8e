/- Who has which lock, as a function; Wrong. -/
import Derived.Test.YtcgcimnmngpoeaaTraceCode
import Derived.Test.YtcgcimnmngpoeaaMapF
import Derived.Deep.QuietTactic
import Derived.BigQuiet
import Derived.Deep.DeepCutAuto
import Derived.Deep.CutRange
namespace Go.Proofs.Ytcgcimnmngpoeaa
open Go.RowKit
set_option linter.unusedVariables false

def okR (f : Int → Int) (r : RecD) : Bool := !(decide (r.k = 1 ∧ f r.o ≠ 0) || decide (r.k = 2 ∧ f r.o ≠ r.t))
def stepF (f : Int → Int) (r : RecD) : Int → Int := if r.k = 1 then updF f r.o r.t else if r.k = 2 then updF f r.o 0 else f
def ownF (l : List RecD) : Int → Int := l.foldl stepF (fun _ => 0)
theorem ownF_snoc (l : List RecD) (r : RecD) : ownF (l ++ [r]) = stepF (ownF l) r := by simp [ownF]
def Clean (l : List RecD) (k : Nat) : Prop := ∀ i (h : i < l.length), i < k → okR (ownF (l.take i)) l[i] = true
theorem Clean.snoc {l : List RecD} {r : RecD} (h : Clean l l.length) (hr : okR (ownF l) r = true) : Clean (l ++ [r]) (l ++ [r]).length := by
  intro i hi _
  by_cases hl : i < l.length
  · rw [List.getElem_append_left hl, List.take_append_of_le_length (by omega)]
    exact h i hl hl
  · have : i = l.length := by simp at hi; omega
    subst this
    simpa using hr
/-- An array of 64 numbers. -/
def ArrF (w : World) (g : Nat) (f : Int → Int) : Prop := ∃ cs, Blk w g 49 cs ∧ cs.size = 64 ∧ ∀ o : Nat, o < 64 → cs[o]? = some (.int .i64 (f o))
theorem ArrF.cell {w : World} {g : Nat} {f : Int → Int} (h : ArrF w g f) (o : Nat) (ho : o < 64) : w.cell? ⟨g, o, none⟩ = some (.int .i64 (f o)) := by
  obtain ⟨cs, hb, _, hc⟩ := h
  rw [hb.cell, hc o ho]
theorem ArrF.frozen {w : World} {g : Nat} {f : Int → Int} (h : ArrF w g f) (o : Nat) : w.frozen? ⟨g, o, none⟩ = false := by
  obtain ⟨cs, hb, _, hc⟩ := h
  exact hb.frozen o
theorem ArrF.ext {w w' : World} {g : Nat} {f : Int → Int} (h : ArrF w g f) (hx : Ext w w') : ArrF w' g f := by
  obtain ⟨cs, hb, hs, hc⟩ := h
  exact ⟨cs, hb.ext hx, hs, hc⟩
theorem ArrF.set {w : World} {g : Nat} {f : Int → Int} (h : ArrF w g f) (o : Nat) (ho : o < 64) (v : Int) : ArrF (w.setCell ⟨g, o, none⟩ (.int .i64 v)) g (updF f o v) := by
  obtain ⟨cs, hb, hs, hc⟩ := h
  refine ⟨_, hb.set_ o _, by simpa using hs, fun x hx => ?_⟩
  by_cases e : o = x
  · subst e
    simp [hs, ho, updF]
  · rw [Array.getElem?_setIfInBounds_ne e, hc x hx]
    simp [updF]
    intro h
    omega
abbrev z64 : Array Value := #[.int .i64 0, .int .i64 0, .int .i64 0, .int .i64 0, .int .i64 0, .int .i64 0, .int .i64 0, .int .i64 0, .int .i64 0, .int .i64 0, .int .i64 0, .int .i64 0, .int .i64 0, .int .i64 0, .int .i64 0, .int .i64 0, .int .i64 0, .int .i64 0, .int .i64 0, .int .i64 0, .int .i64 0, .int .i64 0, .int .i64 0, .int .i64 0, .int .i64 0, .int .i64 0, .int .i64 0, .int .i64 0, .int .i64 0, .int .i64 0, .int .i64 0, .int .i64 0, .int .i64 0, .int .i64 0, .int .i64 0, .int .i64 0, .int .i64 0, .int .i64 0, .int .i64 0, .int .i64 0, .int .i64 0, .int .i64 0, .int .i64 0, .int .i64 0, .int .i64 0, .int .i64 0, .int .i64 0, .int .i64 0, .int .i64 0, .int .i64 0, .int .i64 0, .int .i64 0, .int .i64 0, .int .i64 0, .int .i64 0, .int .i64 0, .int .i64 0, .int .i64 0, .int .i64 0, .int .i64 0, .int .i64 0, .int .i64 0, .int .i64 0, .int .i64 0]
theorem z64_at (o : Nat) (ho : o < 64) : z64[o]? = some (.int .i64 0) := by
  have e : z64 = (List.replicate 64 (Value.int .i64 0)).toArray := rfl
  rw [e, List.getElem?_toArray, List.getElem?_replicate, if_pos ho]
theorem Blk.arrF {w : World} {g : Nat} (h : Blk w g 49 z64) : ArrF w g (fun _ => 0) := ⟨_, h, rfl, fun o ho => z64_at o ho⟩

def WrongRel (w : World) (l : List RecD) (n g : Nat) (i : Value) (wr : World) : Prop := ∃ k : Nat, k ≤ n ∧ i = .int .i64 k ∧ Clean l k ∧ ArrF wr g (ownF (l.take k)) ∧ Ext w wr
def WrongPost (w : World) (l : List RecD) (e : Ending) (w' : World) : Prop :=
  ((e = .returned (.tuple #[.int .i64 0, .int .i64 4]) ∧ Clean l l.length) ∨ (∃ i : Nat, ∃ h : i < l.length, e = .returned (.tuple #[.int .i64 i, .int .i64 0]) ∧ Clean l i ∧ okR (ownF (l.take i)) l[i] = false)) ∧ Ext w w'

theorem checked_ok (l : List RecD) (ok : ∀ r ∈ l, r.Ok) (A : Option Addr) (n c B : Nat) (w : World) (hr : Reads w B 4 A n (recsV l)) (hB : B ≤ w.heap.size) (hn : l.length = n) (h400 : n ≤ 400) (hc : n ≤ c) :
    Calls Try.prog 19 #[.slice A n c] w fun e w' => e = .returned (.int .i64 0) ∧ Ext w w' := by
  have H := hide (encode_ok l ok A n c B w hr hB hn h400 hc)
  clear hr ok hn
  go_enter Try.func19, Try.ntmps19
  go_wp2_with fail
  refine H.out.mono ?_
  rintro e w' ⟨A', c', rfl, -, hx⟩
  go_wp2_with fail
  go_ret
  exact ⟨rfl, hx⟩

set_option maxHeartbeats 4000000 in
set_option maxRecDepth 100000 in
theorem wrong_any (l : List RecD) (ok : ∀ r ∈ l, r.Ok) (A : Option Addr) (n c B : Nat) (w : World) (hr : Reads w B 4 A n (recsV l)) (hB : B ≤ w.heap.size) (hn : l.length = n) (h400 : n ≤ 400) (hc : n ≤ c) :
    Calls Try.prog 12 #[.slice A n c] w (WrongPost w l) := by
  have HC := hide (checked_ok l ok A n c B w hr hB hn h400 hc)
  have HR := hide hr
  have HK := hide ok
  have HN := hide hn
  clear hr ok hn
  go_enter Try.func12, Try.ntmps12
  go_wp2_with fail
  refine HC.out.mono ?_
  rintro e w1 ⟨rfl, hx1⟩
  have HX1 := hide hx1
  clear hx1
  go_wp2_with fail
  obtain ⟨W, hW⟩ : ∃ W, W = w1.alloc (.cells z64 49) := ⟨_, rfl⟩
  rw [← hW]
  have ha : ArrF W w1.heap.size (fun _ => 0) := by rw [hW]; exact (Blk.new _ _ _).arrF
  have hxa : Ext w W := by rw [hW]; exact HX1.out.alloc _
  have HA := hide ha
  have HXA := hide hxa
  have hg1 : w.heap.size ≤ w1.heap.size := HX1.out.size
  clear ha hxa hW HX1
  generalize w1.heap.size = g at *
  go_loopw [15] (WrongRel w l n g) (fun i _ => n - (intOf i).toNat)
  case atStart => exact ⟨0, Nat.zero_le _, rfl, fun i _ h => absurd h (by omega), HA.out, HXA.out⟩
  case round =>
    obtain ⟨k, hk, rfl, hcl, har, hx⟩ := hrel
    have HCL := hide hcl
    have HAR := hide har
    have HX := hide hx
    clear hcl har hx HA HXA
    by_cases hlt : k < n
    · obtain ⟨b, off, rfl, hb⟩ := reads4_addr HR.out (by omega)
      have hkl : k < l.length := by rw [HN.out]; exact hlt
      obtain ⟨q0, q1, q2, q3⟩ := rec_cells (HX.out.reads HR.out hB) k hlt hkl
      obtain ⟨o1, o2, o3, o4, o5, o6, o7, o8⟩ := HK.out l[k] (List.getElem_mem hkl)
      have HT := hide (show ownF (l.take (k + 1)) = stepF (ownF (l.take k)) l[k] by rw [List.take_succ_eq_append_getElem hkl, ownF_snoc])
      have HYES := hide (show okR (ownF (l.take k)) l[k] = true → Clean l (k + 1) from fun h i hi hik => by
        by_cases e : i = k
        · subst e; exact h
        · exact HCL.out i hi (by omega))
      have HNO := hide (show okR (ownF (l.take k)) l[k] = false → ∃ i : Nat, ∃ h : i < l.length, Ending.returned (.tuple #[.int .i64 k, .int .i64 0]) = .returned (.tuple #[.int .i64 i, .int .i64 0]) ∧ Clean l i ∧ okR (ownF (l.take i)) l[i] = false from fun h => ⟨k, hkl, rfl, HCL.out, h⟩)
      generalize l[k] = r at *
      obtain ⟨rk, rc, rt, ro'⟩ := r
      dsimp only at o1 o2 o3 o4 o5 o6 o7 o8 q0 q1 q2 q3
      obtain ⟨ro, rfl⟩ : ∃ o : Nat, ro' = (o : Int) := ⟨ro'.toNat, by omega⟩
      have hro : ro < 64 := by omega
      generalize ownF (l.take k) = f at *
      have hxb : Ext wr (wr.alloc (recBox rk rc rt ro)) := by ((repeat (first | with_reducible exact Ext.refl _ | with_reducible assumption | with_reducible refine Ext.alloc ?_ _ | with_reducible refine Ext.drew ?_ | with_reducible refine Ext.drewN ?_ _ | with_reducible refine Ext.setCell ?_ (by first | exact Nat.le_refl _ | assumption | (simp; done) | omega) _ | with_reducible refine Ext.trans ?_ (by with_reducible assumption))); done)
      have HA2 := hide (HAR.out.ext hxb)
      have HX2 := hide (HX.out.trans hxb)
      have d0 : wr.cell? ⟨g, ro, none⟩ = some (.int .i64 (f ro)) := HAR.out.cell ro hro
      have d1 : g < wr.heap.size := World.block_lt_of_cell? _ _ d0
      have d2 := HAR.out.frozen ro
      have hal := alloc_old wr
      clear hxb
      have hcase : rk = 1 ∨ rk = 2 ∨ 2 < rk := by omega
      rcases hcase with rfl | rfl | h3
      · by_cases hf : f ro = 0
        · have t1 : (f ro == 0) = true := by simpa using hf
          have HOK := hide (HYES.out (by simp [okR, hf]))
          have HST := hide (show stepF f ⟨1, rc, rt, ro⟩ = updF f ro rt from rfl)
          have HA3 := hide (show ArrF ((wr.setCell ⟨g, ro, none⟩ (.int .i64 rt)).alloc (recBox 1 rc rt ro)) g (updF f ro rt) from (HAR.out.set ro hro rt).ext (by ((repeat (first | with_reducible exact Ext.refl _ | with_reducible assumption | with_reducible refine Ext.alloc ?_ _ | with_reducible refine Ext.drew ?_ | with_reducible refine Ext.drewN ?_ _ | with_reducible refine Ext.setCell ?_ (by first | exact Nat.le_refl _ | assumption | (simp; done) | omega) _ | with_reducible refine Ext.trans ?_ (by with_reducible assumption))); done)))
          have HX3 := hide (show Ext w ((wr.setCell ⟨g, ro, none⟩ (.int .i64 rt)).alloc (recBox 1 rc rt ro)) from (HX.out.setCell hg1 _).alloc _)
          clear hf HYES HNO
          go_wp2_with fail
          go_roundw
          case rel => exact ⟨k + 1, by omega, by go_num, HOK.out, by rw [HT.out, HST.out]; exact HA3.out, HX3.out⟩
          case measure => simp [intOf]; omega
        · have t1 : (f ro == 0) = false := by simpa using hf
          have HBAD := hide (HNO.out (by simp [okR, hf]))
          clear hf HYES HNO
          go_upto_region 10 with fail
          have hbx : Blk (wr.alloc (recBox 1 rc rt ro)) wr.heap.size 34 #[.int .i64 1, .int .i64 rc, .int .i64 rt, .int .i64 ro] := Blk.new _ _ _
          generalize wr.alloc (recBox 1 rc rt ro) = W2 at hbx HA2 HX2 ⊢
          have p0 : W2.cell? ⟨wr.heap.size, 0, none⟩ = some (.int .i64 1) := hbx.cell 0
          have p2 : W2.cell? ⟨wr.heap.size, 2, none⟩ = some (.int .i64 rt) := hbx.cell 2
          have p3 : W2.cell? ⟨wr.heap.size, 3, none⟩ = some (.int .i64 ro) := hbx.cell 3
          have p4 : W2.cell? ⟨g, ro, none⟩ = some (.int .i64 (f ro)) := HA2.out.cell ro hro
          have p5 := HA2.out.frozen ro
          clear d0 d1 d2 hal q0 q1 q2 q3 hbx
          go_quiet (fail)
          go_wp2_with fail
          go_ret2
          exact ⟨.inr HBAD.out, HX2.out.drewN _⟩
      · by_cases hf : f ro = rt
        · have t1 : (f ro == rt) = true := by simpa using hf
          have HOK := hide (HYES.out (by simp [okR, hf]))
          have HST := hide (show stepF f ⟨2, rc, rt, ro⟩ = updF f ro 0 from rfl)
          clear hf HYES HNO
          go_upto_region 10 with fail
          have hbx : Blk (wr.alloc (recBox 2 rc rt ro)) wr.heap.size 34 #[.int .i64 2, .int .i64 rc, .int .i64 rt, .int .i64 ro] := Blk.new _ _ _
          generalize wr.alloc (recBox 2 rc rt ro) = W2 at hbx HA2 HX2 ⊢
          have p0 : W2.cell? ⟨wr.heap.size, 0, none⟩ = some (.int .i64 2) := hbx.cell 0
          have p2 : W2.cell? ⟨wr.heap.size, 2, none⟩ = some (.int .i64 rt) := hbx.cell 2
          have p3 : W2.cell? ⟨wr.heap.size, 3, none⟩ = some (.int .i64 ro) := hbx.cell 3
          have p4 : W2.cell? ⟨g, ro, none⟩ = some (.int .i64 (f ro)) := HA2.out.cell ro hro
          have p5 := HA2.out.frozen ro
          clear d0 d1 d2 hal q0 q1 q2 q3 hbx
          go_quiet (fail)
          have HA3 := hide ((HA2.out.ext ((Ext.refl W2).drewN nq)).set ro hro 0)
          have HX3 := hide (show Ext w ((W2.drewN nq).setCell ⟨g, ro, none⟩ (.int .i64 0)) from (HX2.out.drewN nq).setCell hg1 _)
          go_wp2_with fail
          go_roundw
          case rel => exact ⟨k + 1, by omega, by go_num, HOK.out, by rw [HT.out, HST.out]; exact HA3.out, HX3.out⟩
          case measure => simp [intOf]; omega
        · have t1 : (f ro == rt) = false := by simpa using hf
          have HBAD := hide (HNO.out (by simp [okR, hf]))
          clear hf HYES HNO
          go_upto_region 10 with fail
          have hbx : Blk (wr.alloc (recBox 2 rc rt ro)) wr.heap.size 34 #[.int .i64 2, .int .i64 rc, .int .i64 rt, .int .i64 ro] := Blk.new _ _ _
          generalize wr.alloc (recBox 2 rc rt ro) = W2 at hbx HA2 HX2 ⊢
          have p0 : W2.cell? ⟨wr.heap.size, 0, none⟩ = some (.int .i64 2) := hbx.cell 0
          have p2 : W2.cell? ⟨wr.heap.size, 2, none⟩ = some (.int .i64 rt) := hbx.cell 2
          have p3 : W2.cell? ⟨wr.heap.size, 3, none⟩ = some (.int .i64 ro) := hbx.cell 3
          have p4 : W2.cell? ⟨g, ro, none⟩ = some (.int .i64 (f ro)) := HA2.out.cell ro hro
          have p5 := HA2.out.frozen ro
          clear d0 d1 d2 hal q0 q1 q2 q3 hbx
          go_quiet (fail)
          go_wp2_with fail
          go_ret2
          exact ⟨.inr HBAD.out, HX2.out.drewN _⟩
      · have t1 : (rk == 1) = false := by rw [beq_eq_false_iff_ne]; omega
        have t2 : (rk == 2) = false := by rw [beq_eq_false_iff_ne]; omega
        have n1 : rk ≠ 1 := by omega
        have n2 : rk ≠ 2 := by omega
        have HOK := hide (HYES.out (by simp [okR, n1, n2]))
        have HST := hide (show stepF f ⟨rk, rc, rt, ro⟩ = f by simp [stepF, n1, n2])
        clear HYES HNO n1 n2
        go_upto_region 10 with fail
        have hbx : Blk (wr.alloc (recBox rk rc rt ro)) wr.heap.size 34 #[.int .i64 rk, .int .i64 rc, .int .i64 rt, .int .i64 ro] := Blk.new _ _ _
        generalize wr.alloc (recBox rk rc rt ro) = W2 at hbx HA2 HX2 ⊢
        have p0 : W2.cell? ⟨wr.heap.size, 0, none⟩ = some (.int .i64 rk) := hbx.cell 0
        have p2 : W2.cell? ⟨wr.heap.size, 2, none⟩ = some (.int .i64 rt) := hbx.cell 2
        have p3 : W2.cell? ⟨wr.heap.size, 3, none⟩ = some (.int .i64 ro) := hbx.cell 3
        have p4 : W2.cell? ⟨g, ro, none⟩ = some (.int .i64 (f ro)) := HA2.out.cell ro hro
        have p5 := HA2.out.frozen ro
        clear d0 d1 d2 hal q0 q1 q2 q3 hbx
        go_quiet (fail)
        go_wp2_with fail
        go_roundw
        case rel => exact ⟨k + 1, by omega, by go_num, HOK.out, by rw [HT.out, HST.out]; exact HA2.out.ext ((Ext.refl W2).drewN _), HX2.out.drewN _⟩
        case measure => simp [intOf]; omega
    · obtain rfl : k = n := by omega
      go_wp2_with fail
      go_ret2
      exact ⟨.inl ⟨rfl, by rw [HN.out]; exact HCL.out⟩, HX.out⟩
end Go.Proofs.Ytcgcimnmngpoeaa
