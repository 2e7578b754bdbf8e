/- The walk of LoadTurned. -/
import Derived.Test.YtmcgkdifieohlaaLoadImg
import Derived.Test.YtmcgkdifieohlaaLoadByte
namespace Go.Proofs.Ytmcgkdifieohlaa
open Go.RowKit
set_option linter.unusedVariables false

theorem flat_le (ps : List PgD) (h : ∀ p ∈ ps, p.ds.length ≤ 16) : (ps.flatMap pgF).length ≤ 19 * ps.length := by
  induction ps with
  | nil => simp
  | cons p ps ih =>
    have h1 := ih (fun q hq => h q (by simp [hq]))
    have h2 := h p (by simp)
    have h3 := trimZ_le p.ds
    simp [pgF] at h1 ⊢
    omega
theorem ImOk.fit {w : World} {ps : List PgD} {en : Int} (h : ImOk w ps en) : ∀ p ∈ ps, Fit p := fun p hp =>
  have o := h.ok p hp
  ⟨o.p0, o.p1, o.r0, o.r1, o.m16, o.len⟩
theorem ImOk.chkok {w : World} {ps : List PgD} {en : Int} (h : ImOk w ps en) : ChkOk en ps := ⟨by have := h.few; omega, h.fine, h.starts.1, h.starts.2.1⟩
theorem ImOk.small {w : World} {ps : List PgD} {en : Nat} (h : ImOk w ps en) : (fileF en ps).length ≤ 512 := by
  have h1 := flat_le ps (fun p hp => by have o := h.ok p hp; have := o.len; have := o.m16; omega)
  have h2 := h.few
  have h3 : (fileF en ps).length = 8 + (ps.flatMap pgF).length + 4 := by simp [fileF, bodyF, head_len, fourL]; omega
  omega
def FilePost2 (w : World) (en : Nat) (ps : List PgD) (e : Ending) (w' : World) : Prop :=
  ∃ A m c, e = .returned (.tuple #[.slice A m c, .int .i64 0]) ∧ w'.ownsRow w.heap.size 5 1 (.slice A m c) m (bytesV (fileF en ps)) ∧ Ext w w'
theorem imfile (w0 w : World) (ps : List PgD) (A : Option Addr) (n c B en : Nat) (him : ImOk w0 ps en) (hx : Ext w0 w) (hr : Reads w B 3 A n (pgsV ps)) (hB : B ≤ w.heap.size) (hn : n ≤ maxLen) :
    Calls Try.prog 11 #[.agg #[.int .u32 (en : Int), .slice A n c]] w (FilePost2 w en ps) := by
  refine (file_any ps A n c B en w hr hB (fun p hp => ?_) hn (by have := him.starts.2.2.2; omega)).mono ?_
  · have o := him.ok p hp
    exact ⟨o.num, o.mc, o.cm, (hx.reads o.reads (Nat.le_refl _)).more hx.size, o.len⟩
  · rintro e w' ⟨A', m, c', z, he, hx', h⟩
    rcases h with ⟨rfl, h1, h2, h3⟩ | ⟨_, _, _, _, h⟩
    · exact ⟨A', m, c', he, h3, hx'⟩
    · exact absurd ⟨him.chkok, him.small⟩ h
theorem ImOk.is {w : World} {ps : List PgD} {en : Nat} (h : ImOk w ps en) : ImgIs (fileF en ps) en (ps.map trimP) :=
  file_is en ps (by have := h.starts.2.2.2; omega) h.fit h.chkok h.small
theorem img_nil (w : World) : Calls Try.prog 12 #[.slice none 0 0] w fun e w' => e = .returned (.tuple #[.agg #[.int .u32 0, .slice none 0 0], .int .i64 3]) ∧ Ext w w' := by
  refine (img_any none 0 0 [] w Reads.none_ (Nat.le_refl _) (Nat.zero_le _)).mono ?_
  rintro e w' ⟨hx, h | h⟩
  · obtain ⟨en, ps, _, _, _, h, _⟩ := h
    have := h.head.lo
    simp at this
  · exact ⟨h.2, hx⟩
/-- File of an image that was read. -/
theorem readfile (w0 w : World) (bs : List UInt8) (ps : List PgD) (A : Option Addr) (n c en : Nat) (hi : ImgIs bs en (ps.map era)) (ho : w.ownsRow w0.heap.size 42 3 (.slice A n c) n (pgsV ps)) (hp : ∀ q ∈ ps, PgOwn w w0.heap.size q ∧ q.Num) (hen : en ≤ 4294967295) (hn : n ≤ maxLen) :
    Calls Try.prog 11 #[.agg #[.int .u32 (en : Int), .slice A n c]] w fun e w' => ∃ A m c, e = .returned (.tuple #[.slice A m c, .int .i64 0]) ∧ w'.ownsRow w.heap.size 5 1 (.slice A m c) m (bytesV bs) ∧ Ext w w' := by
  have hf : fileF en ps = bs := by rw [← file_era]; exact hi.file
  refine (file_any ps A n c w.heap.size en w (Reads.of_own ho) (Nat.le_refl _) (fun p h => ⟨(hp p h).2, (own_le (hp p h).1).1, (own_le (hp p h).1).2, Reads.of_own (hp p h).1, own_len (hp p h).1⟩) hn hen).mono ?_
  rintro e w' ⟨A', m, c', z, he, hx', h⟩
  rcases h with ⟨rfl, h1, h2, h3⟩ | ⟨_, _, _, _, h⟩
  · exact ⟨A', m, c', he, by rw [← hf]; exact h3, hx'⟩
  · exact absurd ⟨(chk_era _ _).1 hi.chk, by rw [hf]; exact hi.head.hi⟩ h
theorem own_max {w : World} {base n c : Nat} {A : Option Addr} {ps : List PgD} (h : w.ownsRow base 42 3 (.slice A n c) n (pgsV ps)) : n ≤ maxLen := Nat.le_trans (own_le h).1 (own_le h).2

set_option maxHeartbeats 4000000 in
set_option maxRecDepth 100000 in
theorem turned_walk (Ab : Option Addr) (nb cb : Nat) (bs : List UInt8) (A : Option Addr) (n c : Nat) (zs : List Int) (A' : Option Addr) (n' c' : Nat) (z : Int) (w : World) (hb : Reads w w.heap.size 1 Ab nb (bytesV bs)) (hnb : nb ≤ cb) (hcb : cb ≤ maxLen)
    (hr : Reads w w.heap.size 1 A n (intsV zs)) (hz : ∀ x ∈ zs, -9223372036854775808 ≤ x ∧ x ≤ 9223372036854775807)
    (hn : n ≤ c) (hc : c ≤ maxLen) (hd : RowsAt w A' n') (hn' : n' ≤ c') (hc' : c' ≤ maxLen) (z1 : -9223372036854775808 ≤ z) (z2 : z ≤ 9223372036854775807) :
    Calls Try.prog 5 #[.slice Ab nb cb, .agg #[.slice A n c, .slice A' n' c', .int .i64 z]] w fun e w' => e = .returned (.bool true) ∧ Ext w w' := by
  have HIM := hide (fun (w' : World) (hx : Ext w w') (h1 : Reads w' w'.heap.size 1 A n (intsV zs)) (h2 : RowsAt w' A' n') => image_any A n c zs A' n' c' z w' h1 hz hn hc h2 hn' hc' z1 z2)
  have HR := hide hr
  have HD := hide hd
  have HB := hide hb
  have HCB := hide hcb
  clear hr hd hz hb
  unfold maxLen at hcb
  have hx1 : Ext w (w.alloc (.cells #[.slice A n c, .slice A' n' c', .int .i64 z] 33)) := by ((repeat (first | with_reducible exact Ext.refl _ | with_reducible assumption | with_reducible refine Ext.alloc ?_ _ | with_reducible refine Ext.drew ?_ | with_reducible refine Ext.drewN ?_ _ | with_reducible refine Ext.setCell ?_ (by first | exact Nat.le_refl _ | assumption | (simp; done) | omega) _ | with_reducible refine Ext.trans ?_ (by with_reducible assumption))); done)
  have HX1 := hide hx1
  clear hx1
  by_cases hev : nb % 2 = 0
  · have t1 : (((nb : Int) % 2) == 0) = true := by rw [beq_iff_eq]; omega
    have t1' : (nb % 2 == 0) = true := by rw [beq_iff_eq]; exact hev
    clear hev
    go_enter Try.func5, Try.ntmps5
    go_wp2_with fail
    refine (HIM.out _ HX1.out ((HX1.out.reads HR.out (Nat.le_refl _)).more HX1.out.size) (HD.out.keep HX1.out)).mono ?_
    rintro e w2 ⟨ps0, m0, Ap0, cp0, en0, rfl, hlen, ho2, him, hx2⟩
    obtain ⟨en1, rfl⟩ : ∃ en1 : Nat, en0 = en1 := ⟨en0.toNat, by have := him.starts.2.2.1; omega⟩
    have HO := hide ho2
    have HI := hide him
    have HX2 := hide (HX1.out.trans hx2)
    have HX2' := hide hx2
    have HL := hide hlen
    clear ho2 him hx2 hlen t1 t1'
    go_wp2_with fail
    refine (imfile _ w2 ps0 Ap0 m0 cp0 w2.heap.size en1 HI.out HX2'.out (Reads.of_own HO.out) (Nat.le_refl _) (own_max HO.out)).mono ?_
    rintro e w3 ⟨A3, n3, c3, rfl, ho3, hx3⟩
    have HO3 := hide ho3
    have HX3 := hide (HX2.out.trans hx3)
    have HR3 := hide (show Reads w3 w3.heap.size 1 A3 n3 (bytesV (fileF en1 ps0)) from Reads.of_own ho3)
    have HIS := hide HI.out.is
    obtain ⟨h3a, h3b⟩ := own_le ho3
    have H3B := hide h3b
    unfold maxLen at h3b
    clear ho3 hx3
    generalize fileF en1 ps0 = fs at *
    go_wp2_with fail
    refine (img_any A3 n3 c3 fs _ HR3.out h3a H3B.out).mono ?_
    rintro e w4 ⟨hx4, hh⟩
    have HX4 := hide (HX3.out.trans hx4)
    have HR4 := hide ((hx4.reads HR3.out (Nat.le_refl _)).more hx4.size)
    clear hx4
    rcases hh with ⟨en, ps, Ap, k, cp, his, rfl, ho4, hr4⟩ | ⟨hno, rfl⟩
    · have HIS4 := hide his
      have HO4 := hide ho4
      have HRW4 := hide hr4
      have hen : en ≤ 4294967295 := by rw [his.entry]; exact wordL_lt _
      clear his ho4 hr4
      go_wp2_with fail
      have hb4 : Blk (w4.alloc (.cells #[.int .u32 (en : Int), .slice Ap k cp] 36)) w4.heap.size 36 #[.int .u32 (en : Int), .slice Ap k cp] := Blk.new _ _ _
      have HX5 := hide (show Ext w4 (w4.alloc (.cells #[.int .u32 (en : Int), .slice Ap k cp] 36)) by ((repeat (first | with_reducible exact Ext.refl _ | with_reducible assumption | with_reducible refine Ext.alloc ?_ _ | with_reducible refine Ext.drew ?_ | with_reducible refine Ext.drewN ?_ _ | with_reducible refine Ext.setCell ?_ (by first | exact Nat.le_refl _ | assumption | (simp; done) | omega) _ | with_reducible refine Ext.trans ?_ (by with_reducible assumption))); done))
      generalize w4.alloc (.cells #[.int .u32 (en : Int), .slice Ap k cp] 36) = w5 at hb4 HX5 ⊢
      refine (img_nil w5).mono ?_
      rintro e w6 ⟨rfl, hx6⟩
      have hb6 := hb4.ext hx6
      have HX6 := hide (HX5.out.trans hx6)
      have p0 : w6.cell? ⟨w4.heap.size, 0, none⟩ = some (.int .u32 (en : Int)) := hb6.cell 0
      have p1 : w6.cell? ⟨w4.heap.size, 1, none⟩ = some (.slice Ap k cp) := hb6.cell 1
      have hlt6 := hb6.lt
      have y6 := alloc_old w6
      clear hx6 hb4 hb6 HX5
      go_wp2_with fail
      have HX7 := hide (show Ext w4 (w6.alloc (.cells #[.int .u32 0, .slice none 0 0] 36)) from HX6.out.alloc _)
      generalize w6.alloc (.cells #[.int .u32 0, .slice none 0 0] 36) = w7 at HX7 ⊢
      clear y6 p0 p1
      refine (readfile _ w7 fs ps Ap k cp en HIS4.out (HX7.out.own HO4.out) (fun q hq => ⟨HX7.out.own (HRW4.out q hq).1, (HRW4.out q hq).2⟩) hen (own_max HO4.out)).mono ?_
      rintro e w8 ⟨A8, m8, c8, rfl, ho8, hx8⟩
      have cv1 := conv_str' (P := Try.prog) Try.underlying40 Try.underlying5 Try.underlying9 (Reads.of_own ho8) c8
      have cv2 := conv_str' (P := Try.prog) Try.underlying40 Try.underlying5 Try.underlying9 ((HX7.out.trans hx8).reads HR4.out (Nat.le_refl _)) c3
      have HX8 := hide (HX4.out.trans (HX7.out.trans hx8))
      clear ho8 hx8
      generalize str fs = S at *
      go_wp2_with fail
      go_ret
      exact ⟨rfl, HX8.out⟩
    · exact absurd HIS.out (hno _ _)
  · have t1 : (((nb : Int) % 2) == 0) = false := by rw [beq_eq_false_iff_ne]; omega
    have t1' : (nb % 2 == 0) = false := by rw [beq_eq_false_iff_ne]; exact hev
    have t2 : (((nb : Int) % 2) == 1) = true := by rw [beq_iff_eq]; omega
    have t2' : (nb % 2 == 1) = true := by rw [beq_iff_eq]; omega
    clear hev
    have HR1 := hide (show Reads (w.alloc (.cells #[.slice A n c, .slice A' n' c', .int .i64 z] 33)) (w.alloc (.cells #[.slice A n c, .slice A' n' c', .int .i64 z] 33)).heap.size 1 Ab nb (bytesV bs) from (HX1.out.reads HB.out (Nat.le_refl _)).more HX1.out.size)
    go_enter Try.func5, Try.ntmps5
    go_wp2_with fail
    refine (img_any Ab nb cb bs _ HR1.out hnb HCB.out).mono ?_
    rintro e w4 ⟨hx4, hh⟩
    have HX4 := hide (HX1.out.trans hx4)
    have HR4 := hide ((hx4.reads HR1.out (Nat.le_refl _)).more hx4.size)
    clear hx4
    rcases hh with ⟨en, ps, Ap, k, cp, his, rfl, ho4, hr4⟩ | ⟨hno, rfl⟩
    · have HIS4 := hide his
      have HO4 := hide ho4
      have HRW4 := hide hr4
      have hen : en ≤ 4294967295 := by rw [his.entry]; exact wordL_lt _
      clear his ho4 hr4
      go_wp2_with fail
      have hb4 : Blk (w4.alloc (.cells #[.int .u32 (en : Int), .slice Ap k cp] 36)) w4.heap.size 36 #[.int .u32 (en : Int), .slice Ap k cp] := Blk.new _ _ _
      have HX5 := hide (show Ext w4 (w4.alloc (.cells #[.int .u32 (en : Int), .slice Ap k cp] 36)) by ((repeat (first | with_reducible exact Ext.refl _ | with_reducible assumption | with_reducible refine Ext.alloc ?_ _ | with_reducible refine Ext.drew ?_ | with_reducible refine Ext.drewN ?_ _ | with_reducible refine Ext.setCell ?_ (by first | exact Nat.le_refl _ | assumption | (simp; done) | omega) _ | with_reducible refine Ext.trans ?_ (by with_reducible assumption))); done))
      generalize w4.alloc (.cells #[.int .u32 (en : Int), .slice Ap k cp] 36) = w5 at hb4 HX5 ⊢
      refine (img_nil w5).mono ?_
      rintro e w6 ⟨rfl, hx6⟩
      have hb6 := hb4.ext hx6
      have HX6 := hide (HX5.out.trans hx6)
      have p0 : w6.cell? ⟨w4.heap.size, 0, none⟩ = some (.int .u32 (en : Int)) := hb6.cell 0
      have p1 : w6.cell? ⟨w4.heap.size, 1, none⟩ = some (.slice Ap k cp) := hb6.cell 1
      have hlt6 := hb6.lt
      have y6 := alloc_old w6
      clear hx6 hb4 hb6 HX5
      go_wp2_with fail
      have HX7 := hide (show Ext w4 (w6.alloc (.cells #[.int .u32 0, .slice none 0 0] 36)) from HX6.out.alloc _)
      generalize w6.alloc (.cells #[.int .u32 0, .slice none 0 0] 36) = w7 at HX7 ⊢
      clear y6 p0 p1
      refine (readfile _ w7 bs ps Ap k cp en HIS4.out (HX7.out.own HO4.out) (fun q hq => ⟨HX7.out.own (HRW4.out q hq).1, (HRW4.out q hq).2⟩) hen (own_max HO4.out)).mono ?_
      rintro e w8 ⟨A8, m8, c8, rfl, ho8, hx8⟩
      have cv1 := conv_str' (P := Try.prog) Try.underlying40 Try.underlying5 Try.underlying9 (Reads.of_own ho8) c8
      have cv2 := conv_str' (P := Try.prog) Try.underlying40 Try.underlying5 Try.underlying9 ((HX7.out.trans hx8).reads HR4.out (Nat.le_refl _)) cb
      have HX8 := hide (HX4.out.trans (HX7.out.trans hx8))
      clear ho8 hx8
      generalize str bs = S at *
      go_wp2_with fail
      go_ret
      exact ⟨rfl, HX8.out⟩
    · go_wp2_with fail
      have HX5 := hide (show Ext w4 (w4.alloc (.cells #[.int .u32 0, .slice none 0 0] 36)) by ((repeat (first | with_reducible exact Ext.refl _ | with_reducible assumption | with_reducible refine Ext.alloc ?_ _ | with_reducible refine Ext.drew ?_ | with_reducible refine Ext.drewN ?_ _ | with_reducible refine Ext.setCell ?_ (by first | exact Nat.le_refl _ | assumption | (simp; done) | omega) _ | with_reducible refine Ext.trans ?_ (by with_reducible assumption))); done))
      have hb4 : Blk (w4.alloc (.cells #[.int .u32 0, .slice none 0 0] 36)) w4.heap.size 36 #[.int .u32 0, .slice none 0 0] := Blk.new _ _ _
      generalize w4.alloc (.cells #[.int .u32 0, .slice none 0 0] 36) = w5 at hb4 HX5 ⊢
      refine (img_nil w5).mono ?_
      rintro e w6 ⟨rfl, hx6⟩
      have hb6 := hb4.ext hx6
      have HX6 := hide (HX4.out.trans (HX5.out.trans hx6))
      have p1 : w6.cell? ⟨w4.heap.size, 1, none⟩ = some (.slice none 0 0) := hb6.cell 1
      have hlt6 := hb6.lt
      have y6 := alloc_old w6
      clear hx6 hb4 hb6 HX5
      go_wp2_with fail
      go_ret
      exact ⟨rfl, HX6.out.alloc _⟩
end Go.Proofs.Ytmcgkdifieohlaa
