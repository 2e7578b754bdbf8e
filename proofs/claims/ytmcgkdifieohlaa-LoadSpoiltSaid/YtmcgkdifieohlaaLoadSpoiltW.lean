/- A file in which one byte is another one is refused: plainly, and the walk of LoadSpoilt. -/
import Derived.Test.YtmcgkdifieohlaaLoadTurnedW
import Derived.Test.YtmcgkdifieohlaaRest
namespace Go.Proofs.Ytmcgkdifieohlaa
open Go.RowKit
set_option linter.unusedVariables false

def sumF (s : Nat) (bs : List UInt8) : Nat := bs.foldl (fun s c => (s * 31 + c.toNat) % 4294967296) s
theorem sumF_inj (bs : List UInt8) : ∀ s t : Nat, s < 4294967296 → t < 4294967296 → sumF s bs = sumF t bs → s = t := by
  induction bs with
  | nil => intro s t _ _ h; exact h
  | cons c bs ih =>
    intro s t hs ht h
    have h1 := ih ((s * 31 + c.toNat) % 4294967296) ((t * 31 + c.toNat) % 4294967296) (Nat.mod_lt _ (by omega)) (Nat.mod_lt _ (by omega)) h
    generalize c.toNat = x at h1
    omega
theorem sum_set (bs : List UInt8) : ∀ (s i : Nat) (x : UInt8) (hi : i < bs.length), s < 4294967296 → x ≠ bs[i] → sumF s (bs.set i x) ≠ sumF s bs := by
  induction bs with
  | nil => intro s i x hi; simp at hi
  | cons c bs ih =>
    intro s i x hi hs hx h
    cases i with
    | zero =>
      have h1 := sumF_inj bs _ _ (Nat.mod_lt _ (by omega)) (Nat.mod_lt _ (by omega)) (show sumF ((s * 31 + x.toNat) % 4294967296) bs = sumF ((s * 31 + c.toNat) % 4294967296) bs from h)
      have h2 := x.toNat_lt
      have h3 := c.toNat_lt
      have h4 : x.toNat = c.toNat := by omega
      exact hx (UInt8.toNat_inj.1 h4)
    | succ i => exact ih ((s * 31 + c.toNat) % 4294967296) i x (by simpa using hi) (Nat.mod_lt _ (by omega)) (by simpa using hx) h
theorem word_set (l : List UInt8) (hl : l.length = 4) (i : Nat) (x : UInt8) (hi : i < l.length) (hx : x ≠ l[i]) : wordL (l.set i x) ≠ wordL l := by
  match l, hl with
  | [a, b, c, d], _ =>
    have ha := a.toNat_lt
    have hb := b.toNat_lt
    have hc := c.toNat_lt
    have hd := d.toNat_lt
    have hx' := x.toNat_lt
    have key : ∀ y : UInt8, x ≠ y → x.toNat ≠ y.toNat := fun y h e => h (UInt8.toNat_inj.1 e)
    match i, hi with
    | 0, _ => have := key a (by simpa using hx); simp [wordL]; omega
    | 1, _ => have := key b (by simpa using hx); simp [wordL]; omega
    | 2, _ => have := key c (by simpa using hx); simp [wordL]; omega
    | 3, _ => have := key d (by simpa using hx); simp [wordL]; omega
theorem head_spoilt (bs : List UInt8) (h : HeadOk bs) (i : Nat) (x : UInt8) (hi : i < bs.length) (hx : x ≠ bs[i]) : ¬ HeadOk (bs.set i x) := by
  intro h'
  have h1 := h.sum
  have h2 := h'.sum
  have hlo := h.lo
  rw [List.length_set] at h2
  obtain ⟨m, hm⟩ : ∃ m, bs.length = m + 4 := ⟨bs.length - 4, by omega⟩
  rw [hm, Nat.add_sub_cancel] at h1 h2
  by_cases hlt : i < m
  · have e1 : (bs.set i x).drop m = bs.drop m := by rw [List.drop_set_of_lt hlt]
    have e2 : (bs.set i x).take m = (bs.take m).set i x := by rw [List.take_set]
    rw [e1, e2, h1] at h2
    have hi' : i < (bs.take m).length := by rw [List.length_take]; omega
    exact sum_set (bs.take m) 1 i x hi' (by omega) (by simpa using hx) h2.symm
  · have e1 : (bs.set i x).take m = bs.take m := by rw [List.take_set, List.set_eq_of_length_le (by rw [List.length_take]; omega)]
    have e2 : (bs.set i x).drop m = (bs.drop m).set (i - m) x := by rw [List.drop_set, if_neg hlt]
    rw [e1, e2, ← h1] at h2
    have hl : (bs.drop m).length = 4 := by rw [List.length_drop]; omega
    have hg : (bs.drop m)[i - m]'(by omega) = bs[i] := by
      rw [List.getElem_drop]
      congr 1
      omega
    exact word_set (bs.drop m) hl (i - m) x (by omega) (by rw [hg]; exact hx) h2
theorem xor_ne (x y : UInt8) (hy : y ≠ 0) : UInt8.ofNat (x.toNat ^^^ y.toNat) ≠ x := by
  intro h
  apply hy
  rw [← UInt8.toNat_xor, UInt8.ofNat_toNat] at h
  have h2 := congrArg (fun z => x ^^^ z) h
  simp only [← UInt8.xor_assoc, UInt8.xor_self, UInt8.zero_xor] at h2
  exact h2
theorem xor_some (bi : UInt8) (t : Int) (h0 : 1 ≤ t) (h1 : t ≤ 255) : ∃ x' : UInt8, x' ≠ bi ∧ bits .xor .u8 (bi.toNat : Int) t = (x'.toNat : Int) := by
  obtain ⟨m, rfl⟩ := Int.eq_ofNat_of_zero_le (show 0 ≤ t by omega)
  have hb : bi.toNat < 256 := bi.toNat_lt
  have hm : (UInt8.ofNat m).toNat = m := by simp; omega
  have hx := Nat.xor_lt_two_pow (n := 8) (x := bi.toNat) (y := m) bi.toNat_lt (by omega)
  refine ⟨UInt8.ofNat (bi.toNat ^^^ m), ?_, ?_⟩
  · have := xor_ne bi (UInt8.ofNat m) (fun e => by rw [e] at hm; simp at hm; omega)
    rwa [hm] at this
  · rw [u8_xor_nat bi.toNat m hb (by omega), UInt8.toNat_ofNat', Nat.mod_eq_of_lt hx]
theorem bytesV_set (bs : List UInt8) (i : Nat) (x : UInt8) : (bytesV bs).set i (.int .u8 (x.toNat : Int)) = bytesV (bs.set i x) := by
  simp [bytesV, List.map_set]
theorem img_no (A : Option Addr) (n c : Nat) (bs : List UInt8) (w : World) (hr : Reads w w.heap.size 1 A n (bytesV bs)) (hn : n ≤ c) (hc : c ≤ maxLen) (hno : ¬ HeadOk bs) :
    Calls Try.prog 12 #[.slice A n c] w fun e w' => e = .returned (.tuple #[.agg #[.int .u32 0, .slice none 0 0], .int .i64 3]) ∧ Ext w w' := by
  refine (img_any A n c bs w hr hn hc).mono ?_
  rintro e w' ⟨hx, h | h⟩
  · obtain ⟨en, ps, _, _, _, h, _⟩ := h
    exact absurd h.head hno
  · exact ⟨h.2, hx⟩

set_option maxHeartbeats 4000000 in
set_option maxRecDepth 100000 in
theorem spoilt_walk (A : Option Addr) (n c : Nat) (zs : List Int) (A' : Option Addr) (n' c' : Nat) (z at' : Int) (y : UInt8) (w : World)
    (hr : Reads w w.heap.size 1 A n (intsV zs)) (hz : ∀ x ∈ zs, -9223372036854775808 ≤ x ∧ x ≤ 9223372036854775807)
    (hn : n ≤ c) (hc : c ≤ maxLen) (hd : RowsAt w A' n') (hn' : n' ≤ c') (hc' : c' ≤ maxLen) (z1 : -9223372036854775808 ≤ z) (z2 : z ≤ 9223372036854775807) (ht : -9223372036854775808 ≤ at') (ht' : at' ≤ 9223372036854775807) :
    Calls Try.prog 6 #[.agg #[.slice A n c, .slice A' n' c', .int .i64 z], .int .i64 at', .int .u8 (y.toNat : Int)] w fun e w' => e = .returned (.bool true) ∧ Ext w w' := by
  have HIM := hide (fun (w' : World) (hx : Ext w w') (h1 : Reads w' w'.heap.size 1 A n (intsV zs)) (h2 : RowsAt w' A' n') => image_any A n c zs A' n' c' z w' h1 hz hn hc h2 hn' hc' z1 z2)
  have HR := hide hr
  have HD := hide hd
  clear hr hd hz
  have hx1 : Ext w (w.alloc (.cells #[.slice A n c, .slice A' n' c', .int .i64 z] 33)) := by ((repeat (first | with_reducible exact Ext.refl _ | with_reducible assumption | with_reducible refine Ext.alloc ?_ _ | with_reducible refine Ext.drew ?_ | with_reducible refine Ext.drewN ?_ _ | with_reducible refine Ext.setCell ?_ (by first | exact Nat.le_refl _ | assumption | (simp; done) | omega) _ | with_reducible refine Ext.trans ?_ (by with_reducible assumption))); done)
  have HX1 := hide hx1
  clear hx1
  go_enter Try.func6, Try.ntmps6
  go_wp2_with fail
  refine (HIM.out _ HX1.out ((HX1.out.reads HR.out (Nat.le_refl _)).more HX1.out.size) (HD.out.keep HX1.out)).mono ?_
  rintro e w2 ⟨ps0, m0, Ap0, cp0, en0, rfl, hlen, ho2, him, hx2⟩
  obtain ⟨en1, rfl⟩ : ∃ en1 : Nat, en0 = en1 := ⟨en0.toNat, by have := him.starts.2.2.1; omega⟩
  have HO := hide ho2
  have HI := hide him
  have HX2 := hide (HX1.out.trans hx2)
  have HX2' := hide hx2
  have HL := hide hlen
  clear ho2 him hx2 hlen
  go_wp2_with fail
  refine (imfile _ w2 ps0 Ap0 m0 cp0 w2.heap.size en1 HI.out HX2'.out (Reads.of_own HO.out) (Nat.le_refl _) (own_max HO.out)).mono ?_
  rintro e w3 ⟨A3, n3, c3, rfl, ho3, hx3⟩
  have HO3 := hide ho3
  have HX3 := hide (HX2.out.trans hx3)
  have HIS := hide HI.out.is.head
  have hfl : (fileF en1 ps0).length = n3 := by have := ho3.1; rw [bytesV_length] at this; omega
  have h12 : 12 ≤ n3 := by rw [← hfl]; exact HIS.out.lo
  have h512 : n3 ≤ 512 := by rw [← hfl]; exact HIS.out.hi
  have HFL := hide hfl
  clear ho3 hx3 hfl
  generalize fileF en1 ps0 = fs at *
  have t12 : ¬ ((n3 : Int) < 12) := by omega
  go_wp2_with fail
  refine (sclone_any _ _ _ _ (bytesV fs) _ (Reads.of_own HO3.out) (bytesV_one _) (Nat.le_refl _) (by omega) (fun e => by obtain ⟨g, e2, _⟩ := own_addr HO3.out (by omega); rw [e] at e2; cases e2)).mono ?_
  rintro e w4 ⟨A4, c4, rfl, ho4, hx4⟩
  obtain ⟨g4, rfl, hg5, hg6, hg7, hg8⟩ := own_addr ho4 (by omega)
  have HG8 := hide hg8
  unfold maxLen at hg8
  go_wp2_with fail
  refine (rest_any _ _ _ ht ht' (by omega) (by omega)).mono ?_
  rintro e w' ⟨rfl, rfl⟩
  have r1 := restZ_lo at' (n3 : Int) (by omega)
  have r2 := restZ_hi at' (n3 : Int) (by omega)
  obtain ⟨i, hi⟩ := Int.eq_ofNat_of_zero_le r1
  rw [hi] at r1 r2 ⊢
  have hi2 : i < n3 := by omega
  have q3 := cells_of (Reads.of_own ho4) i hi2
  rw [Nat.zero_add] at q3
  have f3 := ho4.frozenAt i
  have hil : i < fs.length := by rw [HFL.out]; exact hi2
  have hbi : (fs.getD i 0).toNat < 256 := (fs.getD i 0).toNat_lt
  have HBI := hide (show fs.getD i 0 = fs[i] by simp [List.getD_eq_getElem?_getD, hil])
  have hy : y.toNat < 256 := y.toNat_lt
  have HO4 := hide ho4
  have HX4 := hide hx4
  clear hi ho4 hx4
  generalize hbb : fs.getD i 0 = bi at *
  clear hbb
  go_wp2_with fail
  all_goals (first | (obtain ⟨x', hx', he⟩ := xor_some bi 1 (by omega) (by omega); rw [he]; clear he) | (obtain ⟨x', hx', he⟩ := xor_some bi (y.toNat : Int) (by omega) (by omega); rw [he]; clear he))
  all_goals
    have HW5 := hide (HX4.out.setCell (p := ⟨g4, i, none⟩) hg5 (.int .u8 (x'.toNat : Int)))
    have ho5 := (HO4.out.stored i (.int .u8 (x'.toNat : Int))).1
    rw [bytesV_set] at ho5
    have HO5 := hide ho5
    have HNH := hide (head_spoilt fs HIS.out i x' hil (by rw [← HBI.out]; exact hx'))
    generalize w4.setCell ⟨g4, i, none⟩ (.int .u8 (x'.toNat : Int)) = W5 at HW5 HO5 ⊢
    clear q3 f3 ho5 hx'
    refine (img_no _ _ _ (fs.set i x') _ (Reads.of_own HO5.out) hg7 HG8.out HNH.out).mono ?_
    rintro e w6 ⟨rfl, hx6⟩
    go_wp2_with fail
    go_ret
    exact ⟨rfl, (HX3.out.trans (HW5.out.trans hx6)).alloc _⟩
end Go.Proofs.Ytmcgkdifieohlaa
