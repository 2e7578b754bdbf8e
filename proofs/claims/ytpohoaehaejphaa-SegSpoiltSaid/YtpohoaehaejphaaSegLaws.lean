/- The laws over seg, walked. -/
import Derived.Test.YtpohoaehaejphaaSegCode
import Derived.Test.YtpohoaehaejphaaSegDec
import Derived.Laws.BytesString
import Derived.Laws.BytesArg
namespace Go.Proofs.Ytpohoaehaejphaa
open Go.RowKit
set_option linter.unusedVariables false

theorem decode_any (bs : List UInt8) (A : Option Addr) (n c B : Nat) (w : World) (hr : Reads w B 1 A n (bytesV bs)) (hB : B ≤ w.heap.size) (hnc : n ≤ c) (hc : c ≤ maxLen) (hn : bs.length = n) :
    Calls Try.prog 10 #[.slice A n c] w (DecPost bs w) := by
  by_cases h1 : n < 14 ∨ n < 14 + (bs.getD 10 0).toNat
  · refine (decode_short bs A n c B w hr hB hnc hc h1).mono fun e w' ⟨he, hx⟩ => .inl ?_
    have : decErr bs = 21 := by unfold decErr; rw [hn, if_pos h1]
    rw [this]
    exact ⟨by decide, he, hx⟩
  · by_cases h2 : 14 + (bs.getD 10 0).toNat < n ∨ bs.getD 11 0 ≠ 0
    · refine (decode_form bs A n c B w hr hB hnc hc (by omega) (by omega) h2).mono fun e w' ⟨he, hx⟩ => .inl ?_
      have : decErr bs = 3 := by unfold decErr; rw [hn, if_neg h1, if_pos h2]
      rw [this]
      exact ⟨by decide, he, hx⟩
    · simp only [not_or, Decidable.not_not] at h2
      exact decode_rest bs A n c B w hr hB hnc hc hn (by omega) (by omega) h2.2

set_option maxHeartbeats 1000000 in
set_option maxRecDepth 100000 in
theorem segment_any (q a f v : Int) (A : Option Addr) (n c : Nat) (w : World) (hn : n ≤ c) (hc : c ≤ maxLen) (hf : -9223372036854775808 ≤ f) (hf' : f ≤ 9223372036854775807) (hv : -9223372036854775808 ≤ v) (hv' : v ≤ 9223372036854775807) :
    Calls Try.prog 8 #[.agg #[.int .u32 q, .int .u32 a, .int .i64 f, .int .i64 v, .slice A n c]] w fun e w' =>
      e = .returned (.agg #[.int .u32 q, .int .u32 a, .int .i64 (restZ f 16), .int .i64 (restZ v 256), .slice A (min n 32) c]) ∧ Ext w w' := by
  go_enter Try.func8, Try.ntmps8
  go_wp2_with fail
  obtain ⟨W, hW⟩ : ∃ W, W = (w.alloc (Obj.cells #[Value.int IntKind.u32 q, Value.int IntKind.u32 a, Value.int IntKind.i64 f, Value.int IntKind.i64 v, Value.slice A n c] 27)).alloc (Obj.cells #[Value.int IntKind.u32 0, Value.int IntKind.u32 0, Value.int IntKind.i64 0, Value.int IntKind.i64 0, Value.slice none 0 0] 29) := ⟨_, rfl⟩
  rw [← hW]
  have hx : Ext w W := by rw [hW]; ((repeat (first | with_reducible exact Ext.refl _ | with_reducible assumption | with_reducible refine Ext.alloc ?_ _ | with_reducible refine Ext.drew ?_ | with_reducible refine Ext.drewN ?_ _ | with_reducible refine Ext.setCell ?_ (by first | exact Nat.le_refl _ | assumption | (simp; done) | omega) _ | with_reducible refine Ext.trans ?_ (by with_reducible assumption))); done)
  have hb1 : Blk W w.heap.size 27 #[Value.int IntKind.u32 q, Value.int IntKind.u32 a, Value.int IntKind.i64 f, Value.int IntKind.i64 v, Value.slice A n c] := by rw [hW]; ((repeat (first | (with_reducible refine Blk.new' _ _ _ ?_; first | rfl | simp) | with_reducible assumption | with_reducible refine Blk.alloc ?_ _ | with_reducible refine Blk.drew ?_ | with_reducible refine Blk.drewN ?_ _ | with_reducible refine Blk.ext ?_ (by with_reducible assumption))); done)
  have hb2 : Blk W (w.heap.size + 1) 29 #[Value.int IntKind.u32 0, Value.int IntKind.u32 0, Value.int IntKind.i64 0, Value.int IntKind.i64 0, Value.slice none 0 0] := by rw [hW]; ((repeat (first | (with_reducible refine Blk.new' _ _ _ ?_; first | rfl | simp) | with_reducible assumption | with_reducible refine Blk.alloc ?_ _ | with_reducible refine Blk.drew ?_ | with_reducible refine Blk.drewN ?_ _ | with_reducible refine Blk.ext ?_ (by with_reducible assumption))); done)
  clear hW
  have k0 : W.cell? ⟨w.heap.size, 0, none⟩ = some (.int .u32 q) := hb1.cell 0
  have k1 : W.cell? ⟨w.heap.size, 1, none⟩ = some (.int .u32 a) := hb1.cell 1
  have k2 : W.cell? ⟨w.heap.size, 2, none⟩ = some (.int .i64 f) := hb1.cell 2
  have k3 : W.cell? ⟨w.heap.size, 3, none⟩ = some (.int .i64 v) := hb1.cell 3
  have k4 : W.cell? ⟨w.heap.size, 4, none⟩ = some (.slice A n c) := hb1.cell 4
  have z0 : W.cell? ⟨w.heap.size + 1, 0, none⟩ = some (.int .u32 0) := hb2.cell 0
  have z1 : W.cell? ⟨w.heap.size + 1, 1, none⟩ = some (.int .u32 0) := hb2.cell 1
  have z2 : W.cell? ⟨w.heap.size + 1, 2, none⟩ = some (.int .i64 0) := hb2.cell 2
  have z3 : W.cell? ⟨w.heap.size + 1, 3, none⟩ = some (.int .i64 0) := hb2.cell 3
  have z4 : W.cell? ⟨w.heap.size + 1, 4, none⟩ = some (.slice none 0 0) := hb2.cell 4
  have y0 := hb2.frozen 0
  have y1 := hb2.frozen 1
  have y2 := hb2.frozen 2
  have y3 := hb2.frozen 3
  have y4 := hb2.frozen 4
  go_region_held3 (fun w' => w'.cell? ⟨w.heap.size, 0, none⟩ = some (.int .u32 q) ∧ w'.cell? ⟨w.heap.size, 1, none⟩ = some (.int .u32 a) ∧ w'.cell? ⟨w.heap.size, 2, none⟩ = some (.int .i64 f) ∧ w'.cell? ⟨w.heap.size, 3, none⟩ = some (.int .i64 v) ∧ w'.cell? ⟨w.heap.size, 4, none⟩ = some (.slice A n c))
    (first | (refine ⟨?_, ?_, ?_, ?_, ?_⟩ <;> (refine Ext.cell (w := W) ?_ (by assumption); ((repeat (first | with_reducible exact Ext.refl _ | with_reducible assumption | with_reducible refine Ext.alloc ?_ _ | with_reducible refine Ext.drew ?_ | with_reducible refine Ext.drewN ?_ _ | with_reducible refine Ext.setCell ?_ (by first | exact Nat.le_refl _ | assumption | (simp; done) | omega) _ | with_reducible refine Ext.trans ?_ (by with_reducible assumption))); done))) | (refine ⟨?_, ?_, ?_, ?_, ?_⟩ <;> ((try rw [World.cell?_drew]); with_reducible refine far5 ?_ (by simp) _ _ _ _ _; refine Ext.cell (w := W) ?_ (by assumption); ((repeat (first | with_reducible exact Ext.refl _ | with_reducible assumption | with_reducible refine Ext.alloc ?_ _ | with_reducible refine Ext.drew ?_ | with_reducible refine Ext.drewN ?_ _ | with_reducible refine Ext.setCell ?_ (by first | exact Nat.le_refl _ | assumption | (simp; done) | omega) _ | with_reducible refine Ext.trans ?_ (by with_reducible assumption))); done))) | fail)
    (first
      | (go_at_call_of 12 (Value.int .i64 f); refine (rest_any _ _ _ hf hf' (by omega) (by omega)).mono ?_; rintro e w' ⟨rfl, rfl⟩)
      | (go_at_call_of 12 (Value.int .i64 v); refine (rest_any _ _ _ hv hv' (by omega) (by omega)).mono ?_; rintro e w' ⟨rfl, rfl⟩)
      | (go_at_call 13; refine (cut_any _ _ _ 32 _ hn hc (by omega)).mono ?_; rintro e w' ⟨rfl, rfl⟩)
      | fail)
  go_wp2_with fail
  refine bodyPost_ret (v := .agg #[.int .u32 q, .int .u32 a, .int .i64 (restZ f 16), .int .i64 (restZ v 256), .slice A (min n 32) c]) (by simp [results, Try.results8, go_sem, z0, z1, z2, z3, z4]) rfl ⟨rfl, by ((repeat (first | with_reducible exact Ext.refl _ | with_reducible assumption | with_reducible refine Ext.alloc ?_ _ | with_reducible refine Ext.drew ?_ | with_reducible refine Ext.drewN ?_ _ | with_reducible refine Ext.setCell ?_ (by first | exact Nat.le_refl _ | assumption | (simp; done) | omega) _ | with_reducible refine Ext.trans ?_ (by with_reducible assumption))); done)⟩

/-- The same, in natural numbers. -/
theorem segment_nat (q a : Nat) (f v : Int) (A : Option Addr) (n c : Nat) (w : World) (hn : n ≤ c) (hc : c ≤ maxLen) (hf : -9223372036854775808 ≤ f) (hf' : f ≤ 9223372036854775807) (hv : -9223372036854775808 ≤ v) (hv' : v ≤ 9223372036854775807) :
    Calls Try.prog 8 #[.agg #[.int .u32 q, .int .u32 a, .int .i64 f, .int .i64 v, .slice A n c]] w fun e w' =>
      ∃ fl wn : Nat, fl ≤ 15 ∧ wn ≤ 255 ∧ e = .returned (.agg #[.int .u32 q, .int .u32 a, .int .i64 fl, .int .i64 wn, .slice A (min n 32) c]) ∧ Ext w w' :=
  (segment_any q a f v A n c w hn hc hf hf' hv hv').mono fun e w' ⟨he, hx⟩ => by
    have h1 := restZ_lo f 16 (by omega)
    have h2 := restZ_hi f 16 (by omega)
    have h3 := restZ_lo v 256 (by omega)
    have h4 := restZ_hi v 256 (by omega)
    refine ⟨(restZ f 16).toNat, (restZ v 256).toNat, by omega, by omega, ?_, hx⟩
    rw [he, Int.toNat_of_nonneg h1, Int.toNat_of_nonneg h3]

/-- What was encoded is decoded. -/
theorem decode_enc (s : SegD) (ok : s.Ok) (m : Nat) (hm : s.data.length = m) (A : Option Addr) (c B : Nat) (w : World) (hr : Reads w B 1 A (14 + m) (bytesV (enc s))) (hB : B ≤ w.heap.size) (hnc : 14 + m ≤ c) (hc : c ≤ maxLen) :
    Calls Try.prog 10 #[.slice A (14 + m) c] w fun e w' =>
      ∃ A' c', e = .returned (.tuple #[.agg #[.int .u32 s.seq, .int .u32 s.ack, .int .i64 s.fl, .int .i64 s.wn, .slice A' m c'], .int .i64 0]) ∧ w'.ownsRow w.heap.size 5 1 (.slice A' m c') m (bytesV s.data) ∧ Ext w w' := by
  refine (decode_any (enc s) A (14 + m) c B w hr hB hnc hc (by rw [enc_length, hm])).mono fun e w' h => ?_
  obtain ⟨h0, h1⟩ := dec_enc s ok
  rcases h with ⟨h, _⟩ | ⟨_, A', c', he, ho, hx⟩
  · exact absurd h0 h
  · have e1 : word (enc s) 0 = s.seq := congrArg SegD.seq h1
    have e2 : word (enc s) 4 = s.ack := congrArg SegD.ack h1
    have e3 : ((enc s).getD 8 0).toNat = s.fl := congrArg SegD.fl h1
    have e4 : ((enc s).getD 9 0).toNat = s.wn := congrArg SegD.wn h1
    have e5 : (enc s).drop 14 = s.data := by have := congrArg SegD.data h1; exact this
    have e6 : (enc s).length - 14 = m := by rw [enc_length, hm]; omega
    rw [e1, e2, e3, e4, e6] at he
    rw [e5, e6] at ho
    exact ⟨A', c', he, ho, hx⟩

set_option maxHeartbeats 2000000 in
set_option maxRecDepth 100000 in
theorem back_walk (q a : Nat) (f v : Int) (A : Option Addr) (n c : Nat) (bs : List UInt8) (w : World) (hr : Reads w w.heap.size 1 A n (bytesV bs)) (hn : n ≤ c) (hc : c ≤ maxLen) (hq : q ≤ 4294967295) (ha : a ≤ 4294967295) (hf : -9223372036854775808 ≤ f) (hf' : f ≤ 9223372036854775807) (hv : -9223372036854775808 ≤ v) (hv' : v ≤ 9223372036854775807) :
    Calls Try.prog 4 #[.agg #[.int .u32 q, .int .u32 a, .int .i64 f, .int .i64 v, .slice A n c]] w fun e w' => e = .returned (.bool true) ∧ Ext w w' := by
  have HR := hide hr
  clear hr
  go_enter Try.func4, Try.ntmps4
  go_wp2_with fail
  refine (segment_nat _ _ _ _ _ _ _ _ hn hc hf hf' hv hv').mono ?_
  rintro e w1 ⟨fl, wn, h1, h2, rfl, hx1⟩
  have hw1 : Ext w w1 := ((Ext.refl w).alloc _).trans hx1
  have hm : min n 32 ≤ n := Nat.min_le_left _ _
  have hm' : min n 32 ≤ 32 := Nat.min_le_right _ _
  have hlen := HR.out.1
  rw [bytesV_length] at hlen
  have hl : (bs.take (min n 32)).length = min n 32 := by rw [List.length_take]; omega
  have HR1 := hide (show Reads w w.heap.size 1 A (min n 32) (bytesV (bs.take (min n 32))) by rw [← bytesV_take]; exact HR.out.take hm)
  have ok : SegD.Ok ⟨q, a, fl, wn, bs.take (min n 32)⟩ := ⟨hq, ha, h1, h2, by rw [hl]; exact hm'⟩
  have HL := hide hl
  clear hl hlen
  generalize bs.take (min n 32) = d at *
  generalize min n 32 = m at *
  go_wp2_with fail
  have HX := hide (hw1.alloc (.cells #[.int .u32 q, .int .u32 a, .int .i64 fl, .int .i64 wn, .slice A m c] 29))
  refine (encode_any ⟨q, a, fl, wn, d⟩ ok A m c w.heap.size _ (HX.out.reads HR1.out (Nat.le_refl _)) HX.out.size HL.out).mono ?_
  rintro e w2 ⟨A2, c2, rfl, ho2, hx2⟩
  obtain ⟨g2, rfl, _, _, hg3, hg4⟩ := own_addr ho2 (by omega)
  have hb2 : Blk w2 w1.heap.size 29 #[.int .u32 q, .int .u32 a, .int .i64 fl, .int .i64 wn, .slice A m c] := ext_blk hx2 (Blk.new _ _ _)
  have hw2 : Ext w w2 := HX.out.trans hx2
  clear hx2
  go_wp2_with fail
  refine (decode_enc ⟨q, a, fl, wn, d⟩ ok m HL.out _ _ _ _ (Reads.of_own ho2) (Nat.le_refl _) hg3 hg4).mono ?_
  rintro e w3 ⟨A3, c3, rfl, ho3, hx3⟩
  have hb3 := hb2.ext hx3
  have hlt3 := hb3.lt
  have k0 : w3.cell? ⟨w1.heap.size, 0, none⟩ = some (.int .u32 q) := hb3.cell 0
  have k1 : w3.cell? ⟨w1.heap.size, 1, none⟩ = some (.int .u32 a) := hb3.cell 1
  have k2 : w3.cell? ⟨w1.heap.size, 2, none⟩ = some (.int .i64 fl) := hb3.cell 2
  have k3 : w3.cell? ⟨w1.heap.size, 3, none⟩ = some (.int .i64 wn) := hb3.cell 3
  have k4 : w3.cell? ⟨w1.heap.size, 4, none⟩ = some (.slice A m c) := hb3.cell 4
  have hal := alloc_old w3
  have hw3 : Ext w w3 := hw2.trans hx3
  have s1 := conv_str (P := Try.prog) (dst := 9) Try.underlying25 Try.underlying5 Try.underlying9 ((hw3.alloc (.cells #[.int .u32 q, .int .u32 a, .int .i64 fl, .int .i64 wn, .slice A3 m c3] 29)).reads HR1.out (Nat.le_refl _)) c
  have s2 := conv_str (P := Try.prog) (dst := 9) Try.underlying25 Try.underlying5 Try.underlying9 (Reads.of_own (((Ext.refl w3).alloc (.cells #[.int .u32 q, .int .u32 a, .int .i64 fl, .int .i64 wn, .slice A3 m c3] 29)).own ho3)) c3
  have hmm : m ≤ 32 := hm'
  go_wp2_with fail
  go_ret
  exact ⟨rfl, by ((repeat (first | with_reducible exact Ext.refl _ | with_reducible assumption | with_reducible refine Ext.alloc ?_ _ | with_reducible refine Ext.drew ?_ | with_reducible refine Ext.drewN ?_ _ | with_reducible refine Ext.setCell ?_ (by first | exact Nat.le_refl _ | assumption | (simp; done) | omega) _ | with_reducible refine Ext.trans ?_ (by with_reducible assumption))); done)⟩

set_option maxHeartbeats 2000000 in
set_option maxRecDepth 100000 in
theorem turned_walk (A : Option Addr) (n c : Nat) (bs : List UInt8) (w : World) (hr : Reads w w.heap.size 1 A n (bytesV bs)) (hn : n ≤ c) (hc : c ≤ maxLen) :
    Calls Try.prog 5 #[.slice A n c] w fun e w' => e = .returned (.bool true) ∧ Ext w w' := by
  have hlen := hr.1
  rw [bytesV_length, Nat.mul_one] at hlen
  have HR := hide hr
  clear hr
  go_enter Try.func5, Try.ntmps5
  have HLn := hide hlen
  clear hlen
  go_wp2_with fail
  refine (decode_any bs A n c w.heap.size w HR.out (Nat.le_refl _) hn hc HLn.out).mono ?_
  rintro e w1 h
  have one : SegD.Ok ⟨1, 0, 0, 0, []⟩ := ⟨by decide, by decide, by decide, by decide, by decide⟩
  rcases h with ⟨h0, rfl, hx1⟩ | ⟨h0, A1, c1, rfl, ho1, hx1⟩
  · unfold NoSeg
    have t0 : ((decErr bs : Int) != 0) = true := by rw [bne_iff_ne]; omega
    generalize decErr bs = er at *
    go_wp2_with fail
    refine (encode_any ⟨1, 0, 0, 0, []⟩ one none 0 0 w.heap.size _ Reads.none_ ((hx1.alloc _).size) rfl).mono ?_
    rintro e w2 ⟨A2, c2, rfl, ho2, hx2⟩
    have hb2 : Blk w2 w1.heap.size 29 #[.int .u32 0, .int .u32 0, .int .i64 0, .int .i64 0, .slice none 0 0] := ext_blk hx2 (Blk.new _ _ _)
    have k0 : w2.cell? ⟨w1.heap.size, 0, none⟩ = some (.int .u32 0) := hb2.cell 0
    have k4 : w2.cell? ⟨w1.heap.size, 4, none⟩ = some (.slice none 0 0) := hb2.cell 4
    have hw2 : Ext w w2 := (hx1.alloc _).trans hx2
    go_wp2_with fail
    go_ret
    exact ⟨rfl, by ((repeat (first | with_reducible exact Ext.refl _ | with_reducible assumption | with_reducible refine Ext.alloc ?_ _ | with_reducible refine Ext.drew ?_ | with_reducible refine Ext.drewN ?_ _ | with_reducible refine Ext.setCell ?_ (by first | exact Nat.le_refl _ | assumption | (simp; done) | omega) _ | with_reducible refine Ext.trans ?_ (by with_reducible assumption))); done)⟩
  · obtain ⟨ok, hen⟩ := enc_dec bs h0
    have HE := hide hen
    clear hen h0
    have hdl : (bs.drop 14).length = bs.length - 14 := by simp
    have HD := hide hdl
    clear hdl
    go_wp2_with fail
    have HX1 := hide (hx1.alloc (.cells #[.int .u32 (word bs 0 : Nat), .int .u32 (word bs 4 : Nat), .int .i64 ((bs.getD 8 0).toNat : Int), .int .i64 ((bs.getD 9 0).toNat : Int), .slice A1 (bs.length - 14) c1] 29))
    refine (encode_any ⟨1, 0, 0, 0, []⟩ one none 0 0 w.heap.size _ Reads.none_ ((hx1.alloc _).size) rfl).mono ?_
    rintro e w2 ⟨A2, c2, rfl, ho2, hx2⟩
    have hb2 : Blk w2 w1.heap.size 29 #[.int .u32 (word bs 0 : Nat), .int .u32 (word bs 4 : Nat), .int .i64 ((bs.getD 8 0).toNat : Int), .int .i64 ((bs.getD 9 0).toNat : Int), .slice A1 (bs.length - 14) c1] := ext_blk hx2 (Blk.new _ _ _)
    have k0 : w2.cell? ⟨w1.heap.size, 0, none⟩ = some (.int .u32 (word bs 0 : Nat)) := hb2.cell 0
    have k1 : w2.cell? ⟨w1.heap.size, 1, none⟩ = some (.int .u32 (word bs 4 : Nat)) := hb2.cell 1
    have k2 : w2.cell? ⟨w1.heap.size, 2, none⟩ = some (.int .i64 ((decSeg bs).fl : Nat)) := hb2.cell 2
    have k3 : w2.cell? ⟨w1.heap.size, 3, none⟩ = some (.int .i64 ((decSeg bs).wn : Nat)) := hb2.cell 3
    have k4 : w2.cell? ⟨w1.heap.size, 4, none⟩ = some (.slice A1 (bs.length - 14) c1) := hb2.cell 4
    have hw2 : Ext w w2 := (hx1.alloc _).trans hx2
    have hw12 : Ext w1 w2 := ((Ext.refl w1).alloc _).trans hx2
    have HO := hide (hw12.own ho1)
    clear hb2 ho1 HX1
    go_wp2_with fail
    refine (encode_any (decSeg bs) ok A1 (bs.length - 14) c1 w2.heap.size w2 (Reads.of_own HO.out) (Nat.le_refl _) HD.out).mono ?_
    rintro e w4 ⟨A4, c4, rfl, ho4, hx4⟩
    rw [HE.out] at ho4
    have hw4 : Ext w w4 := hw2.trans hx4
    have s1 := conv_str (P := Try.prog) (dst := 9) Try.underlying25 Try.underlying5 Try.underlying9 (hw4.reads HR.out (Nat.le_refl _)) c
    have s2 := conv_str (P := Try.prog) (dst := 9) Try.underlying25 Try.underlying5 Try.underlying9 (Reads.of_own ho4) c4
    go_wp2_with fail
    go_ret
    exact ⟨rfl, by ((repeat (first | with_reducible exact Ext.refl _ | with_reducible assumption | with_reducible refine Ext.alloc ?_ _ | with_reducible refine Ext.drew ?_ | with_reducible refine Ext.drewN ?_ _ | with_reducible refine Ext.setCell ?_ (by first | exact Nat.le_refl _ | assumption | (simp; done) | omega) _ | with_reducible refine Ext.trans ?_ (by with_reducible assumption))); done)⟩

theorem xor_ne (x y : UInt8) (hy : y ≠ 0) : UInt8.ofNat (x.toNat ^^^ y.toNat) ≠ x := by
  intro h
  apply hy
  rw [← UInt8.toNat_xor, UInt8.ofNat_toNat] at h
  have h2 := congrArg (fun z => x ^^^ z) h
  simp only [← UInt8.xor_assoc, UInt8.xor_self, UInt8.zero_xor] at h2
  exact h2

theorem xor_some (bi : UInt8) (t : Int) (h0 : 1 ≤ t) (h1 : t ≤ 255) : ∃ x' : UInt8, x' ≠ bi ∧ bits .xor .u8 (bi.toNat : Int) t = (x'.toNat : Int) := by
  obtain ⟨m, rfl⟩ := Int.eq_ofNat_of_zero_le (show 0 ≤ t by omega)
  have hb : bi.toNat < 256 := bi.toNat_lt
  have hm : (UInt8.ofNat m).toNat = m := by simp; omega
  have hx := Nat.xor_lt_two_pow (n := 8) (x := bi.toNat) (y := m) bi.toNat_lt (by omega)
  refine ⟨UInt8.ofNat (bi.toNat ^^^ m), ?_, ?_⟩
  · have := xor_ne bi (UInt8.ofNat m) (fun e => by rw [e] at hm; simp at hm; omega)
    rwa [hm] at this
  · rw [u8_xor_nat bi.toNat m hb (by omega), UInt8.toNat_ofNat', Nat.mod_eq_of_lt hx]
theorem bytesV_set (bs : List UInt8) (i : Nat) (x : UInt8) : (bytesV bs).set i (.int .u8 (x.toNat : Int)) = bytesV (bs.set i x) := by
  simp [bytesV, List.map_set]

set_option maxHeartbeats 4000000 in
set_option maxRecDepth 100000 in
theorem spoilt_walk (q a : Nat) (f v : Int) (A : Option Addr) (n c : Nat) (bs : List UInt8) (at' : Int) (y : UInt8) (k : Int) (w : World) (hr : Reads w w.heap.size 1 A n (bytesV bs)) (hn : n ≤ c) (hc : c ≤ maxLen) (hq : q ≤ 4294967295) (ha : a ≤ 4294967295) (hf : -9223372036854775808 ≤ f) (hf' : f ≤ 9223372036854775807) (hv : -9223372036854775808 ≤ v) (hv' : v ≤ 9223372036854775807)
    (ht : -9223372036854775808 ≤ at') (ht' : at' ≤ 9223372036854775807) (hk : -9223372036854775808 ≤ k) (hk' : k ≤ 9223372036854775807) :
    Calls Try.prog 6 #[.agg #[.int .u32 q, .int .u32 a, .int .i64 f, .int .i64 v, .slice A n c], .int .i64 at', .int .u8 (y.toNat : Int), .int .i64 k] w fun e w' => e = .returned (.bool true) ∧ Ext w w' := by
  have HR := hide hr
  clear hr
  obtain ⟨i0, hi0, hz0, hz1, hz2⟩ := info_parts u8_info
  go_enter Try.func6, Try.ntmps6
  go_wp2_with fail
  refine (segment_nat _ _ _ _ _ _ _ _ hn hc hf hf' hv hv').mono ?_
  rintro e w1 ⟨fl, wn, h1, h2, rfl, hx1⟩
  have hw1 : Ext w w1 := ((Ext.refl w).alloc _).trans hx1
  have hm : min n 32 ≤ n := Nat.min_le_left _ _
  have hm' : min n 32 ≤ 32 := Nat.min_le_right _ _
  have hlen := HR.out.1
  rw [bytesV_length] at hlen
  have hl : (bs.take (min n 32)).length = min n 32 := by rw [List.length_take]; omega
  have HR1 := hide (show Reads w w.heap.size 1 A (min n 32) (bytesV (bs.take (min n 32))) by rw [← bytesV_take]; exact HR.out.take hm)
  have ok : SegD.Ok ⟨q, a, fl, wn, bs.take (min n 32)⟩ := ⟨hq, ha, h1, h2, by rw [hl]; exact hm'⟩
  have HL := hide hl
  clear hl hlen
  generalize bs.take (min n 32) = d at *
  generalize min n 32 = m at *
  go_wp2_with fail
  refine (encode_any ⟨q, a, fl, wn, d⟩ ok A m c w.heap.size _ (hw1.reads HR1.out (Nat.le_refl _)) hw1.size HL.out).mono ?_
  rintro e w2 ⟨A2, c2, rfl, ho2, hx2⟩
  have hel := enc_length ⟨q, a, fl, wn, d⟩
  have HEL := hide (show (enc ⟨q, a, fl, wn, d⟩).length = 14 + m by rw [hel]; show 14 + d.length = _; rw [HL.out])
  clear hel
  have HSP := hide (fun i hi x hx => dec_spoilt ⟨q, a, fl, wn, d⟩ ok i hi x hx)
  have HSH := hide (fun j hj => dec_short ⟨q, a, fl, wn, d⟩ ok j hj)
  have HLO := hide (dec_long ⟨q, a, fl, wn, d⟩ ok)
  generalize enc ⟨q, a, fl, wn, d⟩ = bb at *
  have hL1 : 14 ≤ 14 + m := by omega
  have hL2 : 14 + m ≤ 46 := by omega
  generalize 14 + m = L at *
  obtain ⟨g2, rfl, hg1, hg2, hg3, hg4⟩ := own_addr ho2 (by omega)
  have hw2 : Ext w w2 := hw1.trans hx2
  go_wp2_with fail
  refine (sclone_any _ _ _ _ (bytesV bb) _ (Reads.of_own ho2) (bytesV_one _) (Nat.le_refl _) (by omega) (by simp)).mono ?_
  rintro e w3 ⟨A3, c3, rfl, ho3, hx3⟩
  obtain ⟨g3, rfl, hg5, hg6, hg7, hg8⟩ := own_addr ho3 (by omega)
  go_wp2_with fail
  refine (rest_any _ _ _ ht ht' (by omega) (by have := hg8; unfold maxLen at this; omega)).mono ?_
  rintro e w' ⟨rfl, rfl⟩
  have r1 := restZ_lo at' (L : Int) (by omega)
  have r2 := restZ_hi at' (L : Int) (by omega)
  obtain ⟨i, hi⟩ := Int.eq_ofNat_of_zero_le r1
  rw [hi] at r1 r2 ⊢
  have hi2 : i < L := by omega
  have q3 := cells_of (Reads.of_own ho3) i hi2
  rw [Nat.zero_add] at q3
  have f3 := ho3.frozenAt i
  have hbi : (bb.getD i 0).toNat < 256 := (bb.getD i 0).toNat_lt
  have hy : y.toNat < 256 := y.toNat_lt
  clear hi
  generalize hbb : bb.getD i 0 = bi at *
  have HBB := hide hbb
  clear hbb
  have hw3 : Ext w2 (w3.setCell ⟨g3, i, none⟩ (.int .u8 0)) := hx3.setCell (p := ⟨g3, i, none⟩) hg5 _
  clear hw3
  go_wp2_with fail
  all_goals (first | (obtain ⟨x', hx', he⟩ := xor_some bi 1 (by omega) (by omega); rw [he]; clear he) | (obtain ⟨x', hx', he⟩ := xor_some bi (y.toNat : Int) (by omega) (by omega); rw [he]; clear he))
  all_goals
    have hw4 : Ext w2 (w3.setCell ⟨g3, i, none⟩ (.int .u8 (x'.toNat : Int))) := hx3.setCell (p := ⟨g3, i, none⟩) hg5 _
    have ho4 := (ho3.stored i (.int .u8 (x'.toNat : Int))).1
    rw [bytesV_set] at ho4
    generalize w3.setCell ⟨g3, i, none⟩ (.int .u8 (x'.toNat : Int)) = W4 at *
    clear q3 f3 ho3
    refine (decode_any (bb.set i x') _ _ _ _ _ (Reads.of_own ho4) (Nat.le_refl _) hg7 hg8 (by rw [List.length_set]; exact HEL.out)).mono ?_
    rintro e w5 h
    rcases h with ⟨h0, rfl, hx5⟩ | ⟨h0, _⟩
    rotate_left
    · exact absurd h0 (HSP.out i (by rw [HEL.out]; exact hi2) x' (by rw [HBB.out]; exact hx'))
    unfold NoSeg
    have t0 : ((decErr (bb.set i x') : Int) != 0) = true := by rw [bne_iff_ne]; omega
    generalize decErr (bb.set i x') = er at *
    have hw5 : Ext w2 w5 := hw4.trans hx5
    clear h0 hx5 hw4 ho4
    go_wp2_with fail
    refine (rest_any _ _ _ hk hk' (by omega) (by omega)).mono ?_
    rintro e w' ⟨rfl, rfl⟩
    have p1 := restZ_lo k (L : Int) (by omega)
    have p2 := restZ_hi k (L : Int) (by omega)
    obtain ⟨j, hj⟩ := Int.eq_ofNat_of_zero_le p1
    rw [hj] at p1 p2 ⊢
    have hj2 : j < L := by omega
    have hjc : (j : Int) ≤ (c2 : Int) := by omega
    clear hj
    have HX5 := hide (hw5.alloc (.cells #[.int .u32 0, .int .u32 0, .int .i64 0, .int .i64 0, .slice none 0 0] 29))
    go_wp2_with fail
    refine (decode_any (bb.take j) _ j _ _ _ (by rw [← bytesV_take]; exact (Reads.of_own (HX5.out.own ho2)).take (Nat.le_of_lt hj2)) (Nat.le_refl _) (by omega) hg4 (by rw [List.length_take, HEL.out]; omega)).mono ?_
    rintro e w6 h
    have hsh := HSH.out j (by rw [HEL.out]; exact hj2)
    rcases h with ⟨h0, rfl, hx6⟩ | ⟨h0, _⟩
    rotate_left
    · rw [hsh] at h0; cases h0
    rw [hsh]
    clear hsh h0
    unfold NoSeg
    have hw6 : Ext w2 w6 := HX5.out.trans hx6
    have HX6 := hide (hw6.alloc (.cells #[.int .u32 0, .int .u32 0, .int .i64 0, .int .i64 0, .slice none 0 0] 29))
    go_wp2_with fail
    refine (sclone_any _ _ _ _ (bytesV bb) _ (Reads.of_own (HX6.out.own ho2)) (bytesV_one _) (Nat.le_refl _) (by omega) (by simp)).mono ?_
    rintro e w7 ⟨A7, c7, rfl, ho7, hx7⟩
    have hw7 : Ext w2 w7 := HX6.out.trans hx7
    have ho7' := ((Ext.refl w7).alloc (.cells #[.int .u8 (y.toNat : Int)] 5)).own ho7
    have hbn : Blk (w7.alloc (.cells #[.int .u8 (y.toNat : Int)] 5)) w7.heap.size 5 #[.int .u8 (y.toNat : Int)] := Blk.new _ _ _
    go_wp2_with (at_builtin; refine wpList_append_any _ rfl (.tmp 61) (.tmp 63) _ rfl _ 5 i0 _ 1 1 Try.underlying25 hi0 hz0 hz1 hz2 rfl (by omega) _ L _ rfl ho7' _ _ 1 1 _ rfl hbn.reads (by simp [Value.oneCell']) (by simp only [maxLen]; omega) (by omega) (by simp; have := hx7.size; simp at this; omega) ?_; intro A8 c8 w8 ho8 hg8' ha8)
    have ho9 : w8.ownsRow (w2.heap.size) 5 1 (.slice A8 (L + 1) c8) (L + 1) (bytesV (bb ++ [y])) := own_mono (by rw [bytesV_append]; exact ho8) HX6.out.size
    have hw8 : Ext w2 w8 := (hw7.alloc _).grown hg8' (fun k hk => Nat.le_trans HX6.out.size (ho7.lt k hk).1)
    obtain ⟨g8, rfl, _, _, hc8, hc9⟩ := own_addr ho9 (by omega)
    refine (decode_any (bb ++ [y]) _ (L + 1) _ _ _ (Reads.of_own ho9) (Nat.le_refl _) hc8 hc9 (by rw [List.length_append, HEL.out]; rfl)).mono ?_
    rintro e w9 h
    have hlo := HLO.out y
    rcases h with ⟨h0, rfl, hx9⟩ | ⟨h0, _⟩
    rotate_left
    · rw [hlo] at h0; cases h0
    rw [hlo]
    clear hlo h0
    unfold NoSeg
    have hw9 : Ext w w9 := (hw2.trans hw8).trans hx9
    clear ho7' hbn ho8 hg8' ha8
    go_wp2_with fail
    go_ret
    exact ⟨rfl, by ((repeat (first | with_reducible exact Ext.refl _ | with_reducible assumption | with_reducible refine Ext.alloc ?_ _ | with_reducible refine Ext.drew ?_ | with_reducible refine Ext.drewN ?_ _ | with_reducible refine Ext.setCell ?_ (by first | exact Nat.le_refl _ | assumption | (simp; done) | omega) _ | with_reducible refine Ext.trans ?_ (by with_reducible assumption))); done)⟩
end Go.Proofs.Ytpohoaehaejphaa
