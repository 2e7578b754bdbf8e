/- The contract of refs.Early. -/
import Derived.Test.YtlmcahgffakoiaaRefsCounts
import Derived.Test.YtlmcahgffakoiaaEarlyPlain
import Derived.Test.YtlmcahgffakoiaaMapB
import Derived.Deep.LoopGhost
import Derived.StillTailTactics
namespace Go.Proofs.Ytlmcahgffakoiaa
open Go.RowKit Go.Maps
set_option linter.unusedVariables false

theorem mapT_info : (Try.prog.info? 24).map (fun i => (i.zero, i.size, i.bytes)) = some (some (.map none), 1, 8) := by kernel_rfl
theorem intE_info : (Try.prog.info? 3).map (fun i => (i.zero, i.size, i.bytes)) = some (some (.int .i64 0), 1, 8) := by kernel_rfl
abbrev DA (w : World) (g : Nat) (f : Nat → Nat) : Prop := Arr w g 51 17 (fun x => .int .i64 (f x : Nat))
abbrev PA (w : World) (g : Nat) (p : Nat → Option Nat) : Prop := Arr w g 52 64 (fun x => .map (p x))
theorem DA.set {w : World} {g : Nat} {f : Nat → Nat} (h : DA w g f) (o : Nat) (ho : o < 17) (v : Nat) : DA (w.setCell ⟨g, o, none⟩ (.int .i64 (v : Nat))) g (updN f o v) :=
  (Arr.set h o ho (.int .i64 (v : Nat))).congr (fun x _ => by unfold updN; split <;> rfl)
theorem DA.setI {w : World} {g : Nat} {f : Nat → Nat} (h : DA w g f) (o : Nat) (ho : o < 17) (v : Nat) (z : Int) (hz : (v : Int) = z) : DA (w.setCell ⟨g, o, none⟩ (.int .i64 z)) g (updN f o v) := by
  rw [← hz]
  exact h.set o ho v
theorem PA.set {w : World} {g : Nat} {p : Nat → Option Nat} (h : PA w g p) (o : Nat) (ho : o < 64) (v : Option Nat) : PA (w.setCell ⟨g, o, none⟩ (.map v)) g (updN p o v) :=
  (Arr.set h o ho (.map v)).congr (fun x _ => by unfold updN; split <;> rfl)
/-- The maps that the array points to. -/
structure EMaps (w : World) (g : Nat) (p : Nat → Option Nat) (S : Nat → Nat → Bool) : Prop where
  some_ : ∀ o b, p o = some b → g < b ∧ MapB w b 17 (S o)
  none_ : ∀ o, p o = none → ∀ x, S o x = false
  inj : ∀ o o' b, p o = some b → p o' = some b → o = o'
section
variable {w w' : World} {g : Nat} {p : Nat → Option Nat} {S : Nat → Nat → Bool}
theorem EMaps.kept {row : Option Nat} (h : EMaps w g p S) (hg : w.grownBy w' row) (hne : ∀ b, row = some b → b ≤ g ∨ w.heap.size ≤ b) : EMaps w' g p S where
  some_ := fun o b hp => by
    obtain ⟨h1, h2⟩ := h.some_ o b hp
    refine ⟨h1, h2.kept hg (fun e => ?_)⟩
    have := hne b e.symm
    have := h2.lt
    omega
  none_ := h.none_
  inj := h.inj
theorem EMaps.ext (h : EMaps w g p S) (hx : Ext w w') : EMaps w' g p S := h.kept (row := none) ⟨hx.os, hx.tape, hx.output, hx.size, fun k hk _ => hx.block k hk⟩ (fun b h => by cases h)
theorem EMaps.far (h : EMaps w g p S) {a : Addr} (ha : a.block ≤ g) (u : Value) : EMaps (w.setCell a u) g p S where
  some_ := fun o b hp => by
    obtain ⟨h1, h2⟩ := h.some_ o b hp
    exact ⟨h1, h2.far (by omega) u⟩
  none_ := h.none_
  inj := h.inj
def midS (S : Nat → Nat → Bool) (t k : Nat) : Nat → Nat → Bool := fun o => if o < k then updN (S o) t false else S o
theorem EMaps.begin_ (h : EMaps w g p S) (t : Nat) : EMaps w g p (midS S t 0) := by
  have : midS S t 0 = S := by funext o; simp [midS]
  rwa [this]
theorem midS_next (S : Nat → Nat → Bool) (t k : Nat) : midS S t (k + 1) = updN (midS S t k) k (updN (S k) t false) := by
  funext o
  unfold updN midS
  by_cases h : o = k
  · subst h; rw [if_pos (Nat.lt_succ_self _), if_pos rfl]; rfl
  · by_cases h1 : o < k
    · simp [h, h1, show o < k + 1 by omega]
    · simp [h, h1, show ¬ o < k + 1 by omega]
theorem EMaps.skip {t k : Nat} (h : EMaps w g p (midS S t k)) (hp : p k = none) : EMaps w g p (midS S t (k + 1)) where
  some_ := fun o b ho => by
    have hne : o ≠ k := fun e => by subst e; rw [hp] at ho; cases ho
    rw [midS_next, updN_other _ _ _ _ hne]
    exact h.some_ o b ho
  none_ := fun o ho x => by
    by_cases e : o = k
    · subst e
      rw [midS_next, updN_same]
      have := h.none_ o ho x
      simp only [midS, Nat.lt_irrefl, if_false] at this
      unfold updN
      split
      · rfl
      · exact this
    · rw [midS_next, updN_other _ _ _ _ e]; exact h.none_ o ho x
  inj := h.inj
theorem EMaps.del {t k b : Nat} (h : EMaps w g p (midS S t k)) (hp : p k = some b) (hg : w.grownBy w' (some b)) (hm : MapB w' b 17 (updN (S k) t false)) : EMaps w' g p (midS S t (k + 1)) where
  some_ := fun o b' ho => by
    by_cases e : o = k
    · subst e
      rw [hp] at ho
      injection ho with ho
      subst ho
      rw [midS_next, updN_same]
      exact ⟨(h.some_ o b hp).1, hm⟩
    · rw [midS_next, updN_other _ _ _ _ e]
      obtain ⟨h1, h2⟩ := h.some_ o b' ho
      exact ⟨h1, h2.kept hg (fun e' => by injection e' with e'; subst e'; exact e (h.inj o k _ ho hp))⟩
  none_ := fun o ho x => by
    have e : o ≠ k := fun e => by subst e; rw [hp] at ho; cases ho
    rw [midS_next, updN_other _ _ _ _ e]; exact h.none_ o ho x
  inj := h.inj
theorem EMaps.done_ {t k : Nat} (h : EMaps w g p (midS S t k)) (hk : k = 64) (hp : ∀ o, 64 ≤ o → p o = none) : EMaps w g p (fun o => updN (S o) t false) where
  some_ := fun o b ho => by
    have : o < 64 := by
      rcases Nat.lt_or_ge o 64 with h1 | h1
      · exact h1
      · rw [hp o h1] at ho; cases ho
    have := h.some_ o b ho
    simp only [midS, hk, show o < 64 by assumption, if_true] at this
    exact this
  none_ := fun o ho x => by
    have := h.none_ o ho x
    unfold midS at this
    split at this
    · exact this
    · unfold updN
      split
      · rfl
      · exact this
  inj := h.inj
theorem EMaps.put {o b : Nat} {T : Nat → Bool} (h : EMaps w g p S) (hb : g < b) (hm : MapB w b 17 T) (hf : ∀ o' b', p o' = some b' → b' ≠ b) : EMaps w g (updN p o (some b)) (updN S o T) where
  some_ := fun o' b' ho => by
    by_cases e : o' = o
    · subst e
      rw [updN_same] at ho ⊢
      injection ho with ho
      subst ho
      exact ⟨hb, hm⟩
    · rw [updN_other _ _ _ _ e] at ho ⊢; exact h.some_ o' b' ho
  none_ := fun o' ho x => by
    have e : o' ≠ o := fun e => by subst e; rw [updN_same] at ho; cases ho
    rw [updN_other _ _ _ _ e] at ho ⊢
    exact h.none_ o' ho x
  inj := fun o1 o2 b' h1 h2 => by
    by_cases e1 : o1 = o <;> by_cases e2 : o2 = o
    · rw [e1, e2]
    · subst e1
      rw [updN_same] at h1
      rw [updN_other _ _ _ _ e2] at h2
      injection h1 with h1
      exact absurd h1.symm (hf _ _ h2)
    · subst e2
      rw [updN_same] at h2
      rw [updN_other _ _ _ _ e1] at h1
      injection h2 with h2
      exact absurd h2.symm (hf _ _ h1)
    · rw [updN_other _ _ _ _ e1] at h1
      rw [updN_other _ _ _ _ e2] at h2
      exact h.inj o1 o2 b' h1 h2
end
def EMem (w wr : World) (g : Nat) (s : ESt) : Prop := DA wr g s.deep ∧ (∃ p : Nat → Option Nat, PA wr (g + 1) p ∧ (∀ o, 64 ≤ o → p o = none) ∧ EMaps wr (g + 1) p s.since) ∧ Ext w wr
def ERelE (w : World) (l : List RecD) (n g gk : Nat) (i : Value) (wr : World) : Prop := ∃ k : Nat, k ≤ n ∧ gk = n - k ∧ i = .int .i64 k ∧ CleanE l k ∧ EMem w wr g (stE (l.take k))
def EPost (w : World) (l : List RecD) (e : Ending) (w' : World) : Prop :=
  ((e = .returned (.tuple #[.int .i64 0, .int .i64 4]) ∧ CleanE l l.length) ∨ (∃ i : Nat, ∃ h : i < l.length, e = .returned (.tuple #[.int .i64 i, .int .i64 0]) ∧ CleanE l i ∧ okE (stE (l.take i)) l[i] = false)) ∧ Ext w w'
def DelRel (w : World) (deep : Nat → Nat) (S : Nat → Nat → Bool) (p : Nat → Option Nat) (gx : Nat) (t : Nat) (g : Nat) (gk : Nat) (i : Value) (wr : World) : Prop :=
  ∃ k : Nat, k ≤ 64 ∧ gk = 64 - k ∧ i = .int .i64 k ∧ DA wr g deep ∧ PA wr (g + 1) p ∧ EMaps wr (g + 1) p (midS S t k) ∧ Ext w wr ∧ wr.cell? ⟨gx, 2, none⟩ = some (.int .i64 (t : Int))
def WhoRel (w : World) (deep : Nat → Nat) (S : Nat → Nat → Bool) (p : Nat → Option Nat) (gx o g b : Nat) (gk : Nat) (i : Value) (wr : World) : Prop :=
  ∃ k : Nat, k ≤ 17 ∧ gk = 17 - k ∧ i = .int .i64 k ∧ MapB wr b k (fun x => decide (x < k ∧ 0 < deep x)) ∧ DA wr g deep ∧ PA wr (g + 1) p ∧ EMaps wr (g + 1) p S ∧ Ext w wr ∧ wr.cell? ⟨gx, 3, none⟩ = some (.int .i64 (o : Int))

set_option maxHeartbeats 8000000 in
set_option maxRecDepth 100000 in
theorem early_any (l : List RecD) (ok : ∀ r ∈ l, r.Ok) (A : Option Addr) (n c B : Nat) (w : World) (hr : Reads w B 4 A n (recsV l)) (hB : B ≤ w.heap.size) (hn : l.length = n) (h400 : n ≤ 400) (hc : n ≤ c) :
    Calls Try.prog 7 #[.slice A n c] w (EPost w l) := by
  obtain ⟨im, him, -, him1, -⟩ := info_parts mapT_info
  obtain ⟨ii, hii, -, hii1, -⟩ := info_parts intE_info
  have hmm := @run_makeMap Try.prog
  have HC := hide (rchecked_ok l ok A n c B w hr hB hn h400 hc)
  have HR := hide hr
  have HK := hide ok
  have HN := hide hn
  clear hr ok hn
  go_enter Try.func7, Try.ntmps7
  go_wp2_with fail
  refine HC.out.mono ?_
  rintro e w1 ⟨rfl, hx1⟩
  have HX1 := hide hx1
  clear hx1 HC
  go_upto_region 6 with fail
  obtain ⟨W, hW⟩ : ∃ W, W = (w1.alloc (.cells (List.replicate 17 (Value.int .i64 0)).toArray 51)).alloc (.cells (List.replicate 64 (Value.map none)).toArray 52) := ⟨_, rfl⟩
  have HD := hide (show DA W w1.heap.size (fun _ => 0) by rw [hW]; exact ((Blk.new _ _ _).alloc _).arr _ rfl)
  have HP := hide (show PA W (w1.heap.size + 1) (fun _ => none) by rw [hW]; exact (Blk.new' _ _ _ (by simp)).arr _ rfl)
  have HXW := hide (show Ext w W by rw [hW]; exact (HX1.out.alloc _).alloc _)
  simp only [List.replicate] at hW
  rw [← hW]
  have hg1 : w.heap.size ≤ w1.heap.size := HX1.out.size
  clear hW HX1
  generalize w1.heap.size = g at *
  go_wp2_with fail
  go_loopg [21] n (ERelE w l n g)
  case atStart => exact ⟨0, Nat.zero_le _, rfl, rfl, (fun i _ h => absurd h (by omega)), HD.out, ⟨_, HP.out, fun _ _ => rfl, ⟨(fun _ _ h => by cases h), fun _ _ _ => rfl, (fun _ _ _ h => by cases h)⟩⟩, HXW.out⟩
  case round =>
    obtain ⟨k, hk, hgk, rfl, hcl, hD, ⟨p, hP, hpn, hE⟩, hx⟩ := hrel
    clear HD HP HXW
    have HGK := hide hgk
    have HCL := hide hcl
    have HD := hide hD
    have HP := hide hP
    have HPN := hide hpn
    have HE := hide hE
    have HX := hide hx
    clear hgk hcl hD hP hpn hE hx
    by_cases hlt : k < n
    · obtain ⟨b, off, rfl, hb⟩ := reads4_addr HR.out (by omega)
      have hkl : k < l.length := by rw [HN.out]; exact hlt
      obtain ⟨q0, q1, q2, q3⟩ := rec_cells (HX.out.reads HR.out hB) k hlt hkl
      obtain ⟨o1, o2, o3, o4, o5, o6, o7, o8⟩ := HK.out l[k] (List.getElem_mem hkl)
      have HS := hide (show stE (l.take (k + 1)) = stepE (stE (l.take k)) l[k] by rw [List.take_succ_eq_append_getElem hkl, stE_snoc])
      have HYES := hide (show okE (stE (l.take k)) l[k] = true → CleanE l (k + 1) from fun h i hi hik => by
        by_cases e : i = k
        · subst e; exact h
        · exact HCL.out i hi (by omega))
      have HNO := hide (show okE (stE (l.take k)) l[k] = false → ∃ i : Nat, ∃ h : i < l.length, Ending.returned (.tuple #[.int .i64 k, .int .i64 0]) = .returned (.tuple #[.int .i64 i, .int .i64 0]) ∧ CleanE l i ∧ okE (stE (l.take i)) l[i] = false from fun h => ⟨k, hkl, rfl, HCL.out, h⟩)
      have hbd := deep_bound (l.take k)
      have hbl : (l.take k).length ≤ 400 := by rw [List.length_take]; omega
      generalize l[k] = r at *
      obtain ⟨rk, rc, rt', ro'⟩ := r
      dsimp only at o1 o2 o3 o4 o5 o6 o7 o8 q0 q1 q2 q3
      obtain ⟨ro, rfl⟩ : ∃ o : Nat, ro' = (o : Int) := ⟨ro'.toNat, by omega⟩
      obtain ⟨rt, rfl⟩ : ∃ o : Nat, rt' = (o : Int) := ⟨rt'.toNat, by omega⟩
      have hro : ro < 64 := by omega
      have hri0 : (0 : Int) ≤ (ro : Int) := by omega
      have hri1 : (ro : Int) < 64 := by omega
      have hrt : rt < 17 := by omega
      have hti0 : (0 : Int) ≤ (rt : Int) := by omega
      have hti1 : (rt : Int) < 17 := by omega
      have hb0 := hbd rt
      clear hbd
      generalize stE (l.take k) = s at *
      have hh2 : s.deep rt ≤ 400 := by omega
      clear hb0
      have HD2 := hide (HD.out.alloc (recBox rk rc rt ro))
      have HP2 := hide (HP.out.alloc (recBox rk rc rt ro))
      have HE2 := hide (HE.out.ext ((Ext.refl wr).alloc (recBox rk rc rt ro)))
      have HX2 := hide (HX.out.alloc (recBox rk rc rt ro))
      have hgw : g + 1 < wr.heap.size := HP.out.lt
      go_upto_region 10 with fail
      have hbx : Blk (wr.alloc (recBox rk rc rt ro)) wr.heap.size 27 #[.int .i64 rk, .int .i64 rc, .int .i64 rt, .int .i64 ro] := Blk.new _ _ _
      have hsz2 : wr.heap.size < (wr.alloc (recBox rk rc rt ro)).heap.size := by simp
      generalize wr.alloc (recBox rk rc rt ro) = W2 at *
      have p2 : W2.cell? ⟨wr.heap.size, 2, none⟩ = some (.int .i64 rt) := hbx.cell 2
      have p3 : W2.cell? ⟨wr.heap.size, 3, none⟩ = some (.int .i64 ro) := hbx.cell 3
      clear q0 q1 q2 q3 hbx HD HP HE HX
      have c1 : W2.cell? ⟨g, rt, none⟩ = some (.int .i64 (s.deep rt : Nat)) := HD2.out.cell rt hrt
      have c2 : W2.cell? ⟨g + 1, ro, none⟩ = some (.map (p ro)) := HP2.out.cell ro hro
      have c3 := HD2.out.frozen rt
      have c4 := HP2.out.frozen ro
      generalize wr.heap.size = gx at *
      obtain ⟨d, hd⟩ : ∃ d, s.deep rt = d := ⟨_, rfl⟩
      rw [hd] at c1 hh2
      have HDD := hide hd
      clear hd
      by_cases h3 : rk = 3
      · subst h3
        have HOK := hide (show okE s ⟨3, rc, rt, ro⟩ = true from rfl)
        have HST := hide (show stepE s ⟨3, rc, rt, ro⟩ = ⟨updN s.deep rt (d + 1), s.since⟩ by rw [← HDD.out]; rfl)
        have HD3 := hide (DA.setI HD2.out rt hrt (d + 1) ((d : Int) + 1) (by omega))
        have HP3 := hide (Arr.far HP2.out (p := ⟨g, rt, none⟩) (by dsimp only; omega) (.int .i64 ((d : Int) + 1)))
        have HE3 := hide (HE2.out.far (a := ⟨g, rt, none⟩) (by dsimp only; omega) (.int .i64 ((d : Int) + 1)))
        have HX3 := hide (HX2.out.setCell (p := ⟨g, rt, none⟩) hg1 (.int .i64 ((d : Int) + 1)))
        go_wp2_with fail
        go_roundg (n - (k + 1))
        case measure => have := HGK.out; omega
        case rel => exact ⟨k + 1, by omega, rfl, by go_num, HYES.out HOK.out, by rw [HS.out, HST.out]; exact HD3.out, ⟨p, HP3.out, HPN.out, by rw [HS.out, HST.out]; exact HE3.out⟩, HX3.out⟩
      by_cases h4 : rk = 4
      · subst h4
        have HOK := hide (show okE s ⟨4, rc, rt, ro⟩ = true from rfl)
        have hcase : d = 0 ∨ d = 1 ∨ 2 ≤ d := by omega
        rcases hcase with hd0 | hd1 | hd2
        · have HST := hide (show stepE s ⟨4, rc, rt, ro⟩ = ⟨updN s.deep rt 0, fun o => updN (s.since o) rt false⟩ by simp [stepE, HDD.out, hd0])
          subst hd0
          have HD3 := hide (show DA (W2.setCell ⟨g, rt, none⟩ (.int .i64 0)).drew g (updN s.deep rt 0) from Arr.drew (DA.setI HD2.out rt hrt 0 0 rfl))
          have HP3 := hide (show PA (W2.setCell ⟨g, rt, none⟩ (.int .i64 0)).drew (g + 1) p from Arr.drew (Arr.far HP2.out (p := ⟨g, rt, none⟩) (by dsimp only; omega) _))
          have HE3 := hide (show EMaps (W2.setCell ⟨g, rt, none⟩ (.int .i64 0)).drew (g + 1) p s.since from (HE2.out.far (a := ⟨g, rt, none⟩) (by dsimp only; omega) _).ext (Ext.refl _).drew)
          have HX3 := hide (show Ext w (W2.setCell ⟨g, rt, none⟩ (.int .i64 0)).drew from (HX2.out.setCell (p := ⟨g, rt, none⟩) hg1 _).drew)
          have p2' : (W2.setCell ⟨g, rt, none⟩ (.int .i64 0)).drew.cell? ⟨gx, 2, none⟩ = some (.int .i64 rt) := cellD (far1 p2 (by dsimp only; omega) _)
          have HP2' := hide p2'
          go_upto_region 13 with fail
          go_still_tail 9, (by kernel_rfl)
          go_upto_region 15 with fail
          clear p2' p2 p3 c1 c2 c3 c4 HD2 HP2 HE2 HX2
          generalize (W2.setCell ⟨g, rt, none⟩ (.int .i64 0)).drew = W3 at *
          obtain ⟨cs, hcs, hlen, hld⟩ := HP3.out.whole
          have HCS := hide hcs
          have HLD := hide hld
          have HSZ := hide (show (Try.prog.info? 52).map (·.size) = some cs.length by rw [hlen]; kernel_rfl)
          clear hcs hlen hld
          go_wp2_with ((with_reducible refine wpList_load_mid rfl 52 (.tmp 6) rfl (g + 1) 0 rfl cs _ HLD.out Try.underlying52 rfl HSZ.out ?_))
          go_loopg [53] 64 (DelRel w (updN s.deep rt 0) s.since p gx rt g)
          case atStart => exact ⟨0, Nat.zero_le _, rfl, rfl, HD3.out, HP3.out, HE3.out.begin_ rt, HX3.out, HP2'.out⟩
          case round =>
            obtain ⟨q, hq, hgq, rfl, hDq, hPq, hEq, hXq, hcq⟩ := hrel
            clear HD3 HP3 HE3 HX3 HP2'
            have HDq := hide hDq
            have HPq := hide hPq
            have HEq := hide hEq
            have HXq := hide hXq
            have HGQ := hide hgq
            clear hDq hPq hEq hXq hgq
            by_cases hq64 : q < 64
            · have hix := index_arr (P := Try.prog) Try.underlying52 Try.underlying24 rfl him him1 cs.toArray q hq64 (by simpa using HCS.out q hq64) .i64
              cases hpq : p q with
              | none =>
                have HPQ := hide hpq
                rw [hpq] at hix
                clear hpq
                have hdn := fun ty => Maps.drop_nil (P := Try.prog) (w := wr) (int_keyed Try.underlying3) Try.underlying24 (keyOf_int_mk Try.underlying3 (wfB rt (by omega))) ty
                go_wp2_with fail
                go_roundg (64 - (q + 1))
                case measure => have := HGQ.out; omega
                case rel => exact ⟨q + 1, by omega, rfl, by go_num, HDq.out, HPq.out, HEq.out.skip HPQ.out, HXq.out, hcq⟩
              | some b =>
                have HPQ := hide hpq
                rw [hpq] at hix
                obtain ⟨hgb, hmb⟩ := HEq.out.some_ q b hpq
                rw [show midS s.since rt q q = s.since q by simp [midS]] at hmb
                obtain ⟨W5, hdel, hm5, hg5⟩ := hmb.drop rt (by omega) 0
                have hbw : b < wr.heap.size := hmb.lt
                have HD5 := hide (Arr.grown HDq.out hg5 (fun e => by injection e with e; omega))
                have HP5 := hide (Arr.grown HPq.out hg5 (fun e => by injection e with e; omega))
                have HE5 := hide (HEq.out.del hpq hg5 hm5)
                have HX5 := hide (HXq.out.grown hg5 (fun j hj => by injection hj with hj; omega))
                have hcgx : wr.cell? ⟨gx, 2, none⟩ = some (.int .i64 rt) := hcq
                by_cases hbx : b = gx
                · exfalso
                  subst hbx
                  obtain ⟨⟨D, ⟨es, clk, hb', _⟩, _⟩, _⟩ := hmb
                  simp [World.cell?, hb'] at hcgx
                · have hc5 : W5.cell? ⟨gx, 2, none⟩ = some (.int .i64 rt) := hg5.cell hcgx (fun e => hbx (by injection e with e; exact e.symm))
                  have HC5 := hide hc5
                  clear hpq hmb hm5 hg5 hc5 hcgx
                  go_wp2_with fail
                  go_roundg (64 - (q + 1))
                  case measure => have := HGQ.out; omega
                  case rel => exact ⟨q + 1, by omega, rfl, by go_num, HD5.out, HP5.out, HE5.out, HX5.out, HC5.out⟩
            · obtain rfl : q = 64 := by omega
              go_wp2_with fail
              go_roundg (n - (k + 1))
              case measure => have := HGK.out; omega
              case rel => exact ⟨k + 1, by omega, rfl, by go_num, HYES.out HOK.out, by rw [HS.out, HST.out]; exact HDq.out, ⟨p, HPq.out, HPN.out, by rw [HS.out, HST.out]; exact HEq.out.done_ rfl HPN.out⟩, HXq.out⟩
        · have HST := hide (show stepE s ⟨4, rc, rt, ro⟩ = ⟨updN s.deep rt 0, fun o => updN (s.since o) rt false⟩ by simp [stepE, HDD.out, hd1])
          subst hd1
          have HD3 := hide (show DA (W2.setCell ⟨g, rt, none⟩ (.int .i64 0)).drew g (updN s.deep rt 0) from Arr.drew (DA.setI HD2.out rt hrt 0 0 rfl))
          have HP3 := hide (show PA (W2.setCell ⟨g, rt, none⟩ (.int .i64 0)).drew (g + 1) p from Arr.drew (Arr.far HP2.out (p := ⟨g, rt, none⟩) (by dsimp only; omega) _))
          have HE3 := hide (show EMaps (W2.setCell ⟨g, rt, none⟩ (.int .i64 0)).drew (g + 1) p s.since from (HE2.out.far (a := ⟨g, rt, none⟩) (by dsimp only; omega) _).ext (Ext.refl _).drew)
          have HX3 := hide (show Ext w (W2.setCell ⟨g, rt, none⟩ (.int .i64 0)).drew from (HX2.out.setCell (p := ⟨g, rt, none⟩) hg1 _).drew)
          have p2' : (W2.setCell ⟨g, rt, none⟩ (.int .i64 0)).drew.cell? ⟨gx, 2, none⟩ = some (.int .i64 rt) := cellD (far1 p2 (by dsimp only; omega) _)
          have HP2' := hide p2'
          go_upto_region 13 with fail
          go_still_tail 9, (by kernel_rfl)
          go_upto_region 15 with fail
          clear p2' p2 p3 c1 c2 c3 c4 HD2 HP2 HE2 HX2
          generalize (W2.setCell ⟨g, rt, none⟩ (.int .i64 0)).drew = W3 at *
          obtain ⟨cs, hcs, hlen, hld⟩ := HP3.out.whole
          have HCS := hide hcs
          have HLD := hide hld
          have HSZ := hide (show (Try.prog.info? 52).map (·.size) = some cs.length by rw [hlen]; kernel_rfl)
          clear hcs hlen hld
          go_wp2_with ((with_reducible refine wpList_load_mid rfl 52 (.tmp 6) rfl (g + 1) 0 rfl cs _ HLD.out Try.underlying52 rfl HSZ.out ?_))
          go_loopg [53] 64 (DelRel w (updN s.deep rt 0) s.since p gx rt g)
          case atStart => exact ⟨0, Nat.zero_le _, rfl, rfl, HD3.out, HP3.out, HE3.out.begin_ rt, HX3.out, HP2'.out⟩
          case round =>
            obtain ⟨q, hq, hgq, rfl, hDq, hPq, hEq, hXq, hcq⟩ := hrel
            clear HD3 HP3 HE3 HX3 HP2'
            have HDq := hide hDq
            have HPq := hide hPq
            have HEq := hide hEq
            have HXq := hide hXq
            have HGQ := hide hgq
            clear hDq hPq hEq hXq hgq
            by_cases hq64 : q < 64
            · have hix := index_arr (P := Try.prog) Try.underlying52 Try.underlying24 rfl him him1 cs.toArray q hq64 (by simpa using HCS.out q hq64) .i64
              cases hpq : p q with
              | none =>
                have HPQ := hide hpq
                rw [hpq] at hix
                clear hpq
                have hdn := fun ty => Maps.drop_nil (P := Try.prog) (w := wr) (int_keyed Try.underlying3) Try.underlying24 (keyOf_int_mk Try.underlying3 (wfB rt (by omega))) ty
                go_wp2_with fail
                go_roundg (64 - (q + 1))
                case measure => have := HGQ.out; omega
                case rel => exact ⟨q + 1, by omega, rfl, by go_num, HDq.out, HPq.out, HEq.out.skip HPQ.out, HXq.out, hcq⟩
              | some b =>
                have HPQ := hide hpq
                rw [hpq] at hix
                obtain ⟨hgb, hmb⟩ := HEq.out.some_ q b hpq
                rw [show midS s.since rt q q = s.since q by simp [midS]] at hmb
                obtain ⟨W5, hdel, hm5, hg5⟩ := hmb.drop rt (by omega) 0
                have hbw : b < wr.heap.size := hmb.lt
                have HD5 := hide (Arr.grown HDq.out hg5 (fun e => by injection e with e; omega))
                have HP5 := hide (Arr.grown HPq.out hg5 (fun e => by injection e with e; omega))
                have HE5 := hide (HEq.out.del hpq hg5 hm5)
                have HX5 := hide (HXq.out.grown hg5 (fun j hj => by injection hj with hj; omega))
                have hcgx : wr.cell? ⟨gx, 2, none⟩ = some (.int .i64 rt) := hcq
                by_cases hbx : b = gx
                · exfalso
                  subst hbx
                  obtain ⟨⟨D, ⟨es, clk, hb', _⟩, _⟩, _⟩ := hmb
                  simp [World.cell?, hb'] at hcgx
                · have hc5 : W5.cell? ⟨gx, 2, none⟩ = some (.int .i64 rt) := hg5.cell hcgx (fun e => hbx (by injection e with e; exact e.symm))
                  have HC5 := hide hc5
                  clear hpq hmb hm5 hg5 hc5 hcgx
                  go_wp2_with fail
                  go_roundg (64 - (q + 1))
                  case measure => have := HGQ.out; omega
                  case rel => exact ⟨q + 1, by omega, rfl, by go_num, HD5.out, HP5.out, HE5.out, HX5.out, HC5.out⟩
            · obtain rfl : q = 64 := by omega
              go_wp2_with fail
              go_roundg (n - (k + 1))
              case measure => have := HGK.out; omega
              case rel => exact ⟨k + 1, by omega, rfl, by go_num, HYES.out HOK.out, by rw [HS.out, HST.out]; exact HDq.out, ⟨p, HPq.out, HPN.out, by rw [HS.out, HST.out]; exact HEq.out.done_ rfl HPN.out⟩, HXq.out⟩
        · have HST := hide (show stepE s ⟨4, rc, rt, ro⟩ = ⟨updN s.deep rt (d - 1), s.since⟩ by simp [stepE, HDD.out, show 1 < d by omega])
          have HD3 := hide (Arr.drew (DA.setI HD2.out rt hrt (d - 1) ((d : Int) - 1) (by omega)))
          have HP3 := hide (Arr.drew (Arr.far HP2.out (p := ⟨g, rt, none⟩) (by dsimp only; omega) (.int .i64 ((d : Int) - 1))))
          have HE3 := hide ((HE2.out.far (a := ⟨g, rt, none⟩) (by dsimp only; omega) (.int .i64 ((d : Int) - 1))).ext (Ext.refl _).drew)
          have HX3 := hide (HX2.out.setCell (p := ⟨g, rt, none⟩) hg1 (.int .i64 ((d : Int) - 1))).drew
          have hdi : ¬ ((d : Int) - 1 < 0) := by omega
          have hdj : (0 : Int) < (d : Int) - 1 := by omega
          have hdw : IntKind.i64.wrap ((d : Int) - 1) = (d : Int) - 1 := by rw [IntKind.wrap_i64]; omega
          go_upto_region 13 with fail
          go_still_tail 9, (by kernel_rfl)
          go_wp2_with fail
          go_roundg (n - (k + 1))
          case measure => have := HGK.out; omega
          case rel => exact ⟨k + 1, by omega, rfl, by go_num, HYES.out HOK.out, by rw [HS.out, HST.out]; exact HD3.out, ⟨p, HP3.out, HPN.out, by rw [HS.out, HST.out]; exact HE3.out⟩, HX3.out⟩
      by_cases h8 : rk = 8
      · subst h8
        have HOK := hide (show okE s ⟨8, rc, rt, ro⟩ = true from rfl)
        have HST := hide (show stepE s ⟨8, rc, rt, ro⟩ = ⟨s.deep, updN s.since ro (fun x => decide (x < 17 ∧ 0 < s.deep x))⟩ from rfl)
        have HB := hide (MapB.made W2)
        have HD3 := hide (HD2.out.alloc (.map #[] 0))
        have HP3 := hide (HP2.out.alloc (.map #[] 0))
        have HE3 := hide (HE2.out.ext ((Ext.refl W2).alloc (.map #[] 0)))
        have HX3 := hide (HX2.out.alloc (.map #[] 0))
        have HNEW := hide (show ∀ o' b', p o' = some b' → b' ≠ W2.heap.size from fun o' b' hp => by have := (HE2.out.some_ o' b' hp).2.lt; omega)
        have HP3' := hide (show (W2.alloc (.map #[] 0)).cell? ⟨gx, 3, none⟩ = some (.int .i64 ro) from ((Ext.refl W2).alloc _).cell p3)
        go_upto_region 22 with fail
        clear p2 p3 c1 c2 c3 c4 HD2 HP2 HE2 HX2
        generalize W2.alloc (.map #[] 0) = W3 at *
        have hgb : gx < W2.heap.size := hsz2
        generalize W2.heap.size = bm at *
        obtain ⟨cs, hcs, hlen, hld⟩ := HD3.out.whole
        have HCS := hide hcs
        have HLD := hide hld
        have HSZ := hide (show (Try.prog.info? 51).map (·.size) = some cs.length by rw [hlen]; kernel_rfl)
        clear hcs hlen hld
        go_wp2_with ((with_reducible refine wpList_load_mid rfl 51 (.tmp 5) rfl g 0 rfl cs _ HLD.out Try.underlying51 rfl HSZ.out ?_))
        go_loopg [64] 17 (WhoRel w s.deep s.since p gx ro g bm)
        case atStart => exact ⟨0, Nat.zero_le _, rfl, rfl, HB.out.congr (fun x => by simp), HD3.out, HP3.out, HE3.out, HX3.out, HP3'.out⟩
        case round =>
          obtain ⟨q, hq, hgq, rfl, hBq, hDq, hPq, hEq, hXq, hcq⟩ := hrel
          clear HD3 HP3 HE3 HX3 HP3' HB
          have HBq := hide hBq
          have HDq := hide hDq
          have HPq := hide hPq
          have HEq := hide hEq
          have HXq := hide hXq
          have HGQ := hide hgq
          clear hBq hDq hPq hEq hXq hgq
          by_cases hq17 : q < 17
          · have hix := index_arr (P := Try.prog) Try.underlying51 Try.underlying3 rfl hii hii1 cs.toArray q hq17 (by simpa using HCS.out q hq17) .i64
            by_cases hdq : 0 < s.deep q
            · have HDQ := hide hdq
              obtain ⟨W5, hst, hm5, hg5⟩ := HBq.out.store (by simp only [maxLen]; omega) q (by omega)
              have HB5 := hide (show MapB W5 bm (q + 1) (fun x => decide (x < q + 1 ∧ 0 < s.deep x)) from hm5.congr (fun x => by
                by_cases e : x = q
                · subst e; simp [updN, HDQ.out]
                · rw [updN_other _ _ _ _ e]
                  simp only [decide_eq_decide]
                  omega))
              have HD5 := hide (Arr.grown HDq.out hg5 (fun e => by injection e with e; omega))
              have HP5 := hide (Arr.grown HPq.out hg5 (fun e => by injection e with e; omega))
              have HE5 := hide (show EMaps W5 (g + 1) p s.since from ⟨fun o b hp => ⟨(HEq.out.some_ o b hp).1, (HEq.out.some_ o b hp).2.kept hg5 (fun e => by injection e with e; exact HNEW.out o b hp e)⟩, HEq.out.none_, HEq.out.inj⟩)
              have HX5 := hide (HXq.out.grown hg5 (fun j hj => by injection hj with hj; omega))
              have HC5 := hide (show W5.cell? ⟨gx, 3, none⟩ = some (.int .i64 ro) from hg5.cell hcq (fun e => by injection e with e; dsimp only at e; omega))
              clear hm5 hg5
              generalize s.deep q = dq at *
              have hdqi : (0 : Int) < (dq : Int) := by omega
              go_wp2_with fail
              go_roundg (17 - (q + 1))
              case measure => have := HGQ.out; omega
              case rel => exact ⟨q + 1, by omega, rfl, by go_num, HB5.out, HD5.out, HP5.out, HE5.out, HX5.out, HC5.out⟩
            · have hd0 : s.deep q = 0 := by omega
              rw [hd0] at hix
              have HDQ := hide hd0
              have HB5 := hide (show MapB wr bm (q + 1) (fun x => decide (x < q + 1 ∧ 0 < s.deep x)) from (HBq.out.congr (fun x => by
                by_cases e : x = q
                · subst e; simp [HDQ.out]
                · simp only [decide_eq_decide]
                  omega)).mono (by omega))
              clear hd0 hdq
              go_wp2_with fail
              go_roundg (17 - (q + 1))
              case measure => have := HGQ.out; omega
              case rel => exact ⟨q + 1, by omega, rfl, by go_num, HB5.out, HDq.out, HPq.out, HEq.out, HXq.out, hcq⟩
          · obtain rfl : q = 17 := by omega
            have c2 : wr.cell? ⟨g + 1, ro, none⟩ = some (.map (p ro)) := HPq.out.cell ro hro
            have c4 := HPq.out.frozen ro
            have HP6 := hide (PA.set HPq.out ro hro (some bm))
            have HD6 := hide (Arr.far HDq.out (p := ⟨g + 1, ro, none⟩) (by dsimp only; omega) (.map (some bm)))
            have HE6 := hide (((HEq.out.put (o := ro) (by omega) HBq.out HNEW.out)).far (a := ⟨g + 1, ro, none⟩) (by dsimp only; omega) (.map (some bm)))
            have HX6 := hide (HXq.out.setCell (p := ⟨g + 1, ro, none⟩) (by dsimp only; omega) (.map (some bm)))
            have HPN6 := hide (show ∀ o, 64 ≤ o → updN p ro (some bm) o = none from fun o ho => by rw [updN_other _ _ _ _ (by omega)]; exact HPN.out o ho)
            go_wp2_with fail
            go_roundg (n - (k + 1))
            case measure => have := HGK.out; omega
            case rel => exact ⟨k + 1, by omega, rfl, by go_num, HYES.out HOK.out, by rw [HS.out, HST.out]; exact HD6.out, ⟨_, HP6.out, HPN6.out, by rw [HS.out, HST.out]; exact HE6.out⟩, HX6.out⟩
      have HST := hide (show stepE s ⟨rk, rc, rt, ro⟩ = s by simp only [stepE, h3, h4, h8, if_false])
      have t3 : (rk == 3) = false := by simpa using h3
      have t4 : (rk == 4) = false := by simpa using h4
      have t8 : (rk == 8) = false := by simpa using h8
      by_cases h9 : rk = 9
      · subst h9
        cases hpo : p ro with
        | none =>
          rw [hpo] at c2
          have HOK := hide (show okE s ⟨9, rc, rt, ro⟩ = true by
            show emptyB (s.since ro) = true
            simp only [emptyB, decide_eq_true_eq]
            exact setL_none (fun x _ => HE2.out.none_ ro hpo x))
          have hln := fun ty => Maps.len_nil (P := Try.prog) (w := W2) Try.underlying24 ty
          clear hpo
          go_wp2_with fail
          go_roundg (n - (k + 1))
          case measure => have := HGK.out; omega
          case rel => exact ⟨k + 1, by omega, rfl, by go_num, HYES.out HOK.out, by rw [HS.out, HST.out]; exact HD2.out, ⟨p, HP2.out, HPN.out, by rw [HS.out, HST.out]; exact HE2.out⟩, HX2.out⟩
        | some b =>
          rw [hpo] at c2
          have hln := fun ty => (HE2.out.some_ ro b hpo).2.len ty
          have HEM := hide (show okE s ⟨9, rc, rt, ro⟩ = decide ((setL (s.since ro) 64).length = 0) from rfl)
          clear hpo
          have hle := setL_le (s.since ro) 64
          generalize (setL (s.since ro) 64).length = z at *
          by_cases hz : z = 0
          · subst hz
            have HOK := hide (show okE s ⟨9, rc, rt, ro⟩ = true by rw [HEM.out]; rfl)
            go_wp2_with fail
            go_roundg (n - (k + 1))
            case measure => have := HGK.out; omega
            case rel => exact ⟨k + 1, by omega, rfl, by go_num, HYES.out HOK.out, by rw [HS.out, HST.out]; exact HD2.out, ⟨p, HP2.out, HPN.out, by rw [HS.out, HST.out]; exact HE2.out⟩, HX2.out⟩
          · have HOK := hide (show okE s ⟨9, rc, rt, ro⟩ = false by rw [HEM.out]; simpa using hz)
            have hzp : 0 < z := by omega
            have hzi : (0 : Int) < (z : Int) := by omega
            go_wp2_with fail
            go_ret2
            exact ⟨.inr (HNO.out HOK.out), HX2.out⟩
      · have HOK := hide (show okE s ⟨rk, rc, rt, ro⟩ = true by simp only [okE, h9, if_false])
        have t9 : (rk == 9) = false := by simpa using h9
        go_wp2_with fail
        go_roundg (n - (k + 1))
        case measure => have := HGK.out; omega
        case rel => exact ⟨k + 1, by omega, rfl, by go_num, HYES.out HOK.out, by rw [HS.out, HST.out]; exact HD2.out, ⟨p, HP2.out, HPN.out, by rw [HS.out, HST.out]; exact HE2.out⟩, HX2.out⟩
    · obtain rfl : n = k := by omega
      go_wp2_with fail
      go_ret2
      exact ⟨.inl ⟨rfl, by rw [HN.out]; exact HCL.out⟩, HX.out⟩
end Go.Proofs.Ytlmcahgffakoiaa
