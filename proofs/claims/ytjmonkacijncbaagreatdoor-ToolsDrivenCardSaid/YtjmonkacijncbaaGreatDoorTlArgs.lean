/- Which program, with which arguments, a Run is: the contract of Run.args. Printed by gen_args.py. -/
import Derived.Test.YtjmonkacijncbaaGreatDoorTlPartsW
import Derived.Test.YtjmonkacijncbaaGreatDoorTlOnceW
namespace Go.Proofs.YtjmonkacijncbaaGreatDoor
open Go.RowKit
set_option linter.unusedVariables false

inductive RunArgs : Bs → List Bs → Prop
  | cat_ : RunArgs [99, 97, 116] []
  | cut_ (a b : Nat) (h1 : 1 ≤ a) (h2 : a ≤ b) (h3 : b ≤ 30) : RunArgs [99, 117, 116] [Lib.itoa (a : Int), Lib.itoa (b : Int)]
  | echo_ (t : Bs) (h : t.length ≤ 40) : RunArgs [101, 99, 104, 111] [[97], t]
  | false_ : RunArgs [102, 97, 108, 115, 101] []
  | grep_ (g : Bs) (h : g ≠ []) (h2 : g.length ≤ 3) : RunArgs [103, 114, 101, 112] [g]
  | head_ (k : Nat) (h : k ≤ 12) : RunArgs [104, 101, 97, 100] [Lib.itoa (k : Int)]
  | nl_ : RunArgs [110, 108] []
  | sort_ : RunArgs [115, 111, 114, 116] []
  | tac_ : RunArgs [116, 97, 99] []
  | tail_ (k : Nat) (h : k ≤ 12) : RunArgs [116, 97, 105, 108] [Lib.itoa (k : Int)]
  | tr_ (x y : UInt8) : RunArgs [116, 114] [[x], [y]]
  | uniq_ : RunArgs [117, 110, 105, 113] []
  | wc_ : RunArgs [119, 99] []
def ArgsPost (w : World) (e : Ending) (w' : World) : Prop := ∃ (nm : Bs) (L : List Bs) (A : Option Addr) (n c : Nat), e = .returned (.tuple #[.string (str nm), .slice A n c]) ∧ RunArgs nm L ∧ n ≤ c ∧ c ≤ 2 ∧ Reads w' w'.heap.size 1 A n (strsV L) ∧ Ext w w'
theorem args_post {w w' : World} {nm : Bs} {L : List Bs} {N : ByteArray} {A : Option Addr} {n c : Nat} (hn : N = str nm) (h : RunArgs nm L) (hc : n ≤ c) (hc2 : c ≤ 2) (hr : Reads w' w'.heap.size 1 A n (strsV L)) (hx : Ext w w') : ArgsPost w (.returned (.tuple #[.string N, .slice A n c])) w' := by
  subst hn
  exact ⟨nm, L, A, n, c, rfl, h, hc, hc2, hr, hx⟩
theorem one_byte (W : World) (x : UInt8) : Reads (W.alloc (.cells #[.int .u8 (x.toNat : Int)] 5)) (W.alloc (.cells #[.int .u8 (x.toNat : Int)] 5)).heap.size 1 (some ⟨W.heap.size, 0, none⟩) 1 (bytesV [x]) := (Blk.new W 5 #[.int .u8 (x.toNat : Int)]).reads
abbrev byteC (x : UInt8) : Obj := .cells #[.int .u8 (x.toNat : Int)] 5
theorem conv_one1 (W : World) (u : UInt8) : (convert 22 9 (.slice (some ⟨W.heap.size, 0, none⟩) 1 1)).run Tryz.prog (W.alloc (byteC u)).drew = .ok (.string (str [u])) (W.alloc (byteC u)).drew := conv_str' (P := Tryz.prog) Tryz.underlying22 Tryz.underlying5 Tryz.underlying9 (one_byte W u).drew 1
theorem conv_one2 (W : World) (u v : UInt8) : (convert 22 9 (.slice (some ⟨W.heap.size, 0, none⟩) 1 1)).run Tryz.prog ((W.alloc (byteC u)).alloc (byteC v)).drew = .ok (.string (str [u])) ((W.alloc (byteC u)).alloc (byteC v)).drew := conv_str' (P := Tryz.prog) Tryz.underlying22 Tryz.underlying5 Tryz.underlying9 ((one_byte W u).alloc (Nat.le_refl _) (byteC v)).drew 1
theorem conv_one3 (W : World) (u v : UInt8) : (convert 22 9 (.slice (some ⟨W.heap.size + 1, 0, none⟩) 1 1)).run Tryz.prog ((W.alloc (byteC u)).alloc (byteC v)).drew = .ok (.string (str [v])) ((W.alloc (byteC u)).alloc (byteC v)).drew := by
  have h := one_byte (W.alloc (byteC u)) v
  rw [show (W.alloc (byteC u)).heap.size = W.heap.size + 1 by simp] at h
  exact conv_str' (P := Tryz.prog) Tryz.underlying22 Tryz.underlying5 Tryz.underlying9 h.drew 1
theorem two_str3 (W : World) (x y u v : UInt8) : Reads (((W.alloc (byteC x)).alloc (byteC y)).alloc (.cells #[.string (str [u]), .string (str [v])] 9)).drew (((W.alloc (byteC x)).alloc (byteC y)).alloc (.cells #[.string (str [u]), .string (str [v])] 9)).drew.heap.size 1 (some ⟨W.heap.size + 1 + 1, 0, none⟩) 2 (strsV [[u], [v]]) := by
  have h := two_str ((W.alloc (byteC x)).alloc (byteC y)) (str [u]) (str [v]) [u] [v] rfl rfl
  rw [show ((W.alloc (byteC x)).alloc (byteC y)).heap.size = W.heap.size + 1 + 1 by simp] at h
  exact h.drew
theorem byte_wrap2 (k : Nat) (h1 : k < 12) : ∃ x : UInt8, IntKind.u8.wrap (97 + (k : Int)) = (x.toNat : Int) ∧ 97 + (k : Int) = (x.toNat : Int) := byte_wrap (k : Int) (by omega) (by omega)
set_option maxHeartbeats 8000000 in
set_option maxRecDepth 100000 in
theorem args_cat_ (x a b : Int) (s : Bs) (w : World) (hz : restZ x 13 = 0) (bx : -9223372036854775808 ≤ x ∧ x ≤ 9223372036854775807) (ba : -9223372036854775808 ≤ a ∧ a ≤ 9223372036854775807) (bb : -9223372036854775808 ≤ b ∧ b ≤ 9223372036854775807) (hs : (str s).size ≤ 9223372036854775807) :
    Calls Tryz.prog 19 #[.agg #[.int .i64 x, .int .i64 a, .int .i64 b, .string (str s)]] w (ArgsPost w) := by
  obtain ⟨ra, hra, hra2⟩ : ∃ k : Nat, restZ a 12 = (k : Int) ∧ k < 12 := ⟨(restZ a 12).toNat, by have := restZ_lo a 12 (by omega); omega, by have := restZ_lo a 12 (by omega); have := restZ_hi a 12 (by omega); omega⟩
  obtain ⟨rb, hrb, hrb2⟩ : ∃ k : Nat, restZ b 12 = (k : Int) ∧ k < 12 := ⟨(restZ b 12).toNat, by have := restZ_lo b 12 (by omega); omega, by have := restZ_lo b 12 (by omega); have := restZ_hi b 12 (by omega); omega⟩
  have hrx := fun W => rest_any x 13 W bx.1 bx.2 (by omega) (by omega)
  have hqa := fun W => rest_any a 12 W ba.1 ba.2 (by omega) (by omega)
  have hqb := fun W => rest_any b 12 W bb.1 bb.2 (by omega) (by omega)
  rw [hz] at hrx
  rw [hra] at hqa
  rw [hrb] at hqb
  have HRX := hide hrx
  have HRA := hide hqa
  have HRB := hide hqb
  clear hz hra hrb hrx hqa hqb bx ba bb
  have hbx := (Blk.new w 38 #[.int .i64 x, .int .i64 a, .int .i64 b, .string (str s)]).alloc (.cells (strsV namesL).toArray 9)
  have hnb := Blk.new (w.alloc (.cells #[.int .i64 x, .int .i64 a, .int .i64 b, .string (str s)] 38)) 9 (strsV namesL).toArray
  have hnz : (w.alloc (.cells #[.int .i64 x, .int .i64 a, .int .i64 b, .string (str s)] 38)).heap.size = w.heap.size + 1 := by simp
  rw [hnz] at hnb
  have HXA := hide (((Ext.refl w).alloc (.cells #[.int .i64 x, .int .i64 a, .int .i64 b, .string (str s)] 38)).alloc (.cells (strsV namesL).toArray 9))
  have HNM := hide (names_any (w.alloc (.cells #[.int .i64 x, .int .i64 a, .int .i64 b, .string (str s)] 38)))
  rw [hnz] at HNM
  have HBX := hide hbx
  have HNB := hide hnb
  clear hbx hnb hnz
  go_enter Tryz.func19, Tryz.ntmps19
  go_wp2_with fail
  refine HNM.out.mono ?_
  rintro e w1 ⟨rfl, hw1⟩
  rw [← hw1] at HXA HBX HNB
  clear hw1 HNM
  obtain ⟨hp, hhp⟩ : ∃ hp, w.heap.size = hp := ⟨_, rfl⟩
  rw [hhp] at HBX HNB ⊢
  clear hhp
  have c0 : w1.cell? ⟨hp, 0, none⟩ = some (.int .i64 x) := HBX.out.cell 0
  have c1 : w1.cell? ⟨hp, 1, none⟩ = some (.int .i64 a) := HBX.out.cell 1
  have c2 : w1.cell? ⟨hp, 2, none⟩ = some (.int .i64 b) := HBX.out.cell 2
  have c3 : w1.cell? ⟨hp, 3, none⟩ = some (.string (str s)) := HBX.out.cell 3
  have q : w1.cell? ⟨hp + 1, 0, none⟩ = some (.string ⟨#[99, 97, 116]⟩) := HNB.out.cell 0
  go_wp2_with fail
  refine (HRX.out w1).mono ?_
  rintro e w2 ⟨rfl, rfl⟩
  go_upto_region 5 with fail
  go_quiet (first
    | (go_at_call_of 11 (Value.int .i64 a); exact Calls.quiet_of_same ((HRA.out _).mono fun e w' h => ⟨h.1, h.2.symm⟩))
    | (go_at_call_of 11 (Value.int .i64 b); exact Calls.quiet_of_same ((HRB.out _).mono fun e w' h => ⟨h.1, h.2.symm⟩)))
  have HX1 := hide (HXA.out.drewN nq)
  have c3 : (w1.drewN nq).cell? ⟨hp, 3, none⟩ = some (.string (str s)) := c3
  generalize w1.drewN nq = W at *
  go_wp2_with fail
  go_ret2
  exact args_post rfl .cat_ (Nat.le_refl _) (by decide) Reads.none_ HX1.out
set_option maxHeartbeats 8000000 in
set_option maxRecDepth 100000 in
theorem args_cut_ (x a b : Int) (s : Bs) (w : World) (hz : restZ x 13 = 1) (bx : -9223372036854775808 ≤ x ∧ x ≤ 9223372036854775807) (ba : -9223372036854775808 ≤ a ∧ a ≤ 9223372036854775807) (bb : -9223372036854775808 ≤ b ∧ b ≤ 9223372036854775807) (hs : (str s).size ≤ 9223372036854775807) :
    Calls Tryz.prog 19 #[.agg #[.int .i64 x, .int .i64 a, .int .i64 b, .string (str s)]] w (ArgsPost w) := by
  obtain ⟨ra, hra, hra2⟩ : ∃ k : Nat, restZ a 12 = (k : Int) ∧ k < 12 := ⟨(restZ a 12).toNat, by have := restZ_lo a 12 (by omega); omega, by have := restZ_lo a 12 (by omega); have := restZ_hi a 12 (by omega); omega⟩
  obtain ⟨rb, hrb, hrb2⟩ : ∃ k : Nat, restZ b 12 = (k : Int) ∧ k < 12 := ⟨(restZ b 12).toNat, by have := restZ_lo b 12 (by omega); omega, by have := restZ_lo b 12 (by omega); have := restZ_hi b 12 (by omega); omega⟩
  have hrx := fun W => rest_any x 13 W bx.1 bx.2 (by omega) (by omega)
  have hqa := fun W => rest_any a 12 W ba.1 ba.2 (by omega) (by omega)
  have hqb := fun W => rest_any b 12 W bb.1 bb.2 (by omega) (by omega)
  rw [hz] at hrx
  rw [hra] at hqa
  rw [hrb] at hqb
  have HRX := hide hrx
  have HRA := hide hqa
  have HRB := hide hqb
  clear hz hra hrb hrx hqa hqb bx ba bb
  have hbx := (Blk.new w 38 #[.int .i64 x, .int .i64 a, .int .i64 b, .string (str s)]).alloc (.cells (strsV namesL).toArray 9)
  have hnb := Blk.new (w.alloc (.cells #[.int .i64 x, .int .i64 a, .int .i64 b, .string (str s)] 38)) 9 (strsV namesL).toArray
  have hnz : (w.alloc (.cells #[.int .i64 x, .int .i64 a, .int .i64 b, .string (str s)] 38)).heap.size = w.heap.size + 1 := by simp
  rw [hnz] at hnb
  have HXA := hide (((Ext.refl w).alloc (.cells #[.int .i64 x, .int .i64 a, .int .i64 b, .string (str s)] 38)).alloc (.cells (strsV namesL).toArray 9))
  have HNM := hide (names_any (w.alloc (.cells #[.int .i64 x, .int .i64 a, .int .i64 b, .string (str s)] 38)))
  rw [hnz] at HNM
  have HBX := hide hbx
  have HNB := hide hnb
  clear hbx hnb hnz
  go_enter Tryz.func19, Tryz.ntmps19
  go_wp2_with fail
  refine HNM.out.mono ?_
  rintro e w1 ⟨rfl, hw1⟩
  rw [← hw1] at HXA HBX HNB
  clear hw1 HNM
  obtain ⟨hp, hhp⟩ : ∃ hp, w.heap.size = hp := ⟨_, rfl⟩
  rw [hhp] at HBX HNB ⊢
  clear hhp
  have c0 : w1.cell? ⟨hp, 0, none⟩ = some (.int .i64 x) := HBX.out.cell 0
  have c1 : w1.cell? ⟨hp, 1, none⟩ = some (.int .i64 a) := HBX.out.cell 1
  have c2 : w1.cell? ⟨hp, 2, none⟩ = some (.int .i64 b) := HBX.out.cell 2
  have c3 : w1.cell? ⟨hp, 3, none⟩ = some (.string (str s)) := HBX.out.cell 3
  have q : w1.cell? ⟨hp + 1, 1, none⟩ = some (.string ⟨#[99, 117, 116]⟩) := HNB.out.cell 1
  go_wp2_with fail
  refine (HRX.out w1).mono ?_
  rintro e w2 ⟨rfl, rfl⟩
  go_upto_region 5 with fail
  go_quiet (first
    | (go_at_call_of 11 (Value.int .i64 a); exact Calls.quiet_of_same ((HRA.out _).mono fun e w' h => ⟨h.1, h.2.symm⟩))
    | (go_at_call_of 11 (Value.int .i64 b); exact Calls.quiet_of_same ((HRB.out _).mono fun e w' h => ⟨h.1, h.2.symm⟩)))
  have HX1 := hide (HXA.out.drewN nq)
  have c3 : (w1.drewN nq).cell? ⟨hp, 3, none⟩ = some (.string (str s)) := c3
  generalize w1.drewN nq = W at *
  have HI := hide (fun W => itoa_3 (1 + ra) (by omega) W)
  have HJ := hide (fun W => itoa_3 (1 + ra + rb) (by omega) W)
  obtain ⟨p1, hp1⟩ : ∃ p1, 1 + ra = p1 := ⟨_, rfl⟩
  obtain ⟨p2, hp2⟩ : ∃ p2, p1 + rb = p2 := ⟨_, rfl⟩
  rw [hp1] at HI HJ
  rw [hp2] at HJ
  have e3 : IntKind.i64.wrap ((1 : Int) + (ra : Int)) = (p1 : Int) := by rw [IntKind.wrap_i64]; omega
  have e4 : IntKind.i64.wrap ((p1 : Int) + (rb : Int)) = (p2 : Int) := by rw [IntKind.wrap_i64]; omega
  go_wp2_with fail
  refine (HI.out W).mono ?_
  rintro e w3 ⟨rfl, hx3⟩
  have HX3 := hide (HX1.out.trans hx3)
  clear hx3
  go_wp2_with fail
  refine (HJ.out w3).mono ?_
  rintro e w4 ⟨rfl, hx4⟩
  have HX4 := hide (HX3.out.trans hx4)
  clear hx4
  go_wp2_with fail
  go_ret2
  refine args_post rfl (.cut_ p1 p2 (by omega) (by omega) (by omega)) (Nat.le_refl _) (by decide) ?_ (HX4.out.alloc _)
  rw [itoa_nat, itoa_nat]
  exact two_str _ _ _ _ _ rfl rfl
set_option maxHeartbeats 8000000 in
set_option maxRecDepth 100000 in
theorem args_echo_ (x a b : Int) (s : Bs) (w : World) (hz : restZ x 13 = 2) (bx : -9223372036854775808 ≤ x ∧ x ≤ 9223372036854775807) (ba : -9223372036854775808 ≤ a ∧ a ≤ 9223372036854775807) (bb : -9223372036854775808 ≤ b ∧ b ≤ 9223372036854775807) (hs : (str s).size ≤ 9223372036854775807) :
    Calls Tryz.prog 19 #[.agg #[.int .i64 x, .int .i64 a, .int .i64 b, .string (str s)]] w (ArgsPost w) := by
  obtain ⟨ra, hra, hra2⟩ : ∃ k : Nat, restZ a 12 = (k : Int) ∧ k < 12 := ⟨(restZ a 12).toNat, by have := restZ_lo a 12 (by omega); omega, by have := restZ_lo a 12 (by omega); have := restZ_hi a 12 (by omega); omega⟩
  obtain ⟨rb, hrb, hrb2⟩ : ∃ k : Nat, restZ b 12 = (k : Int) ∧ k < 12 := ⟨(restZ b 12).toNat, by have := restZ_lo b 12 (by omega); omega, by have := restZ_lo b 12 (by omega); have := restZ_hi b 12 (by omega); omega⟩
  have hrx := fun W => rest_any x 13 W bx.1 bx.2 (by omega) (by omega)
  have hqa := fun W => rest_any a 12 W ba.1 ba.2 (by omega) (by omega)
  have hqb := fun W => rest_any b 12 W bb.1 bb.2 (by omega) (by omega)
  rw [hz] at hrx
  rw [hra] at hqa
  rw [hrb] at hqb
  have HRX := hide hrx
  have HRA := hide hqa
  have HRB := hide hqb
  clear hz hra hrb hrx hqa hqb bx ba bb
  have hbx := (Blk.new w 38 #[.int .i64 x, .int .i64 a, .int .i64 b, .string (str s)]).alloc (.cells (strsV namesL).toArray 9)
  have hnb := Blk.new (w.alloc (.cells #[.int .i64 x, .int .i64 a, .int .i64 b, .string (str s)] 38)) 9 (strsV namesL).toArray
  have hnz : (w.alloc (.cells #[.int .i64 x, .int .i64 a, .int .i64 b, .string (str s)] 38)).heap.size = w.heap.size + 1 := by simp
  rw [hnz] at hnb
  have HXA := hide (((Ext.refl w).alloc (.cells #[.int .i64 x, .int .i64 a, .int .i64 b, .string (str s)] 38)).alloc (.cells (strsV namesL).toArray 9))
  have HNM := hide (names_any (w.alloc (.cells #[.int .i64 x, .int .i64 a, .int .i64 b, .string (str s)] 38)))
  rw [hnz] at HNM
  have HBX := hide hbx
  have HNB := hide hnb
  clear hbx hnb hnz
  go_enter Tryz.func19, Tryz.ntmps19
  go_wp2_with fail
  refine HNM.out.mono ?_
  rintro e w1 ⟨rfl, hw1⟩
  rw [← hw1] at HXA HBX HNB
  clear hw1 HNM
  obtain ⟨hp, hhp⟩ : ∃ hp, w.heap.size = hp := ⟨_, rfl⟩
  rw [hhp] at HBX HNB ⊢
  clear hhp
  have c0 : w1.cell? ⟨hp, 0, none⟩ = some (.int .i64 x) := HBX.out.cell 0
  have c1 : w1.cell? ⟨hp, 1, none⟩ = some (.int .i64 a) := HBX.out.cell 1
  have c2 : w1.cell? ⟨hp, 2, none⟩ = some (.int .i64 b) := HBX.out.cell 2
  have c3 : w1.cell? ⟨hp, 3, none⟩ = some (.string (str s)) := HBX.out.cell 3
  have q : w1.cell? ⟨hp + 1, 2, none⟩ = some (.string ⟨#[101, 99, 104, 111]⟩) := HNB.out.cell 2
  go_wp2_with fail
  refine (HRX.out w1).mono ?_
  rintro e w2 ⟨rfl, rfl⟩
  go_upto_region 5 with fail
  go_quiet (first
    | (go_at_call_of 11 (Value.int .i64 a); exact Calls.quiet_of_same ((HRA.out _).mono fun e w' h => ⟨h.1, h.2.symm⟩))
    | (go_at_call_of 11 (Value.int .i64 b); exact Calls.quiet_of_same ((HRB.out _).mono fun e w' h => ⟨h.1, h.2.symm⟩)))
  have HX1 := hide (HXA.out.drewN nq)
  have c3 : (w1.drewN nq).cell? ⟨hp, 3, none⟩ = some (.string (str s)) := c3
  generalize w1.drewN nq = W at *
  obtain ⟨q1, hq1⟩ : ∃ q1, min (s.length) 40 = q1 := ⟨_, rfl⟩
  have hsz : (str s).size = s.length := str_size s
  have m1 : min (((str s).size : Nat) : Int) (40 : Int) = (q1 : Int) := by rw [hsz]; omega
  have m2 : q1 ≤ (str s).size := by rw [hsz]; omega
  have m3 : (q1 : Int) ≤ ((str s).size : Int) := by omega
  have hex : (str s).extract 0 q1 = str (s.take q1) := by rw [str, ByteArray.extract_mk, str]; simp
  have HEX := hide hex
  have hq2 : q1 ≤ 40 := by omega
  clear hsz hq1 hex
  generalize str s = S at *
  have m4 : (S.extract 0 q1).size = q1 := by simp only [ByteArray.size_extract]; omega
  have m5 : ¬ 9223372036854775807 < (⟨#[120]⟩ : ByteArray).size + (S.extract 0 q1).size := by rw [m4]; have : (⟨#[120]⟩ : ByteArray).size = 1 := rfl; omega
  have m6 : ¬ 9223372036854775807 < 1 + (S.extract 0 q1).size := by rw [m4]; omega
  have m7 : ¬ 9223372036854775807 < 1 + q1 := by omega
  have m8 : ¬ 9223372036854775807 < 1 + min q1 S.size := by omega
  have hsl := fun wx => run_slice_string (P := Tryz.prog) wx 9 S .i64 .i64 0 (q1 : Int) Tryz.underlying9 (by omega) (by omega) (by omega)
  go_upto_region 17 with fail
  go_region_held3 (fun w' => w'.cell? ⟨hp, 3, none⟩ = some (.string S)) (first | exact c3 | exact Ext.cell (w := W) (by ((repeat (first | with_reducible exact Ext.refl _ | with_reducible assumption | with_reducible refine Ext.alloc ?_ _ | with_reducible refine Ext.drew ?_ | with_reducible refine Ext.drewN ?_ _ | with_reducible refine Ext.setCell ?_ (by first | exact Nat.le_refl _ | assumption | (simp; done) | omega) _ | with_reducible refine Ext.trans ?_ (by with_reducible assumption))); done)) c3 | fail) (fail)
  all_goals
    go_wp2_with fail
    go_ret2
    refine args_post rfl (.echo_ (s.take q1) (by rw [List.length_take]; omega)) (Nat.le_refl _) (by decide) ?_ (HX1.out.trans (by ((repeat (first | with_reducible exact Ext.refl _ | with_reducible assumption | with_reducible refine Ext.alloc ?_ _ | with_reducible refine Ext.drew ?_ | with_reducible refine Ext.drewN ?_ _ | with_reducible refine Ext.setCell ?_ (by first | exact Nat.le_refl _ | assumption | (simp; done) | omega) _ | with_reducible refine Ext.trans ?_ (by with_reducible assumption))); done)))
    exact two_str _ _ _ _ _ rfl HEX.out
set_option maxHeartbeats 8000000 in
set_option maxRecDepth 100000 in
theorem args_false_ (x a b : Int) (s : Bs) (w : World) (hz : restZ x 13 = 3) (bx : -9223372036854775808 ≤ x ∧ x ≤ 9223372036854775807) (ba : -9223372036854775808 ≤ a ∧ a ≤ 9223372036854775807) (bb : -9223372036854775808 ≤ b ∧ b ≤ 9223372036854775807) (hs : (str s).size ≤ 9223372036854775807) :
    Calls Tryz.prog 19 #[.agg #[.int .i64 x, .int .i64 a, .int .i64 b, .string (str s)]] w (ArgsPost w) := by
  obtain ⟨ra, hra, hra2⟩ : ∃ k : Nat, restZ a 12 = (k : Int) ∧ k < 12 := ⟨(restZ a 12).toNat, by have := restZ_lo a 12 (by omega); omega, by have := restZ_lo a 12 (by omega); have := restZ_hi a 12 (by omega); omega⟩
  obtain ⟨rb, hrb, hrb2⟩ : ∃ k : Nat, restZ b 12 = (k : Int) ∧ k < 12 := ⟨(restZ b 12).toNat, by have := restZ_lo b 12 (by omega); omega, by have := restZ_lo b 12 (by omega); have := restZ_hi b 12 (by omega); omega⟩
  have hrx := fun W => rest_any x 13 W bx.1 bx.2 (by omega) (by omega)
  have hqa := fun W => rest_any a 12 W ba.1 ba.2 (by omega) (by omega)
  have hqb := fun W => rest_any b 12 W bb.1 bb.2 (by omega) (by omega)
  rw [hz] at hrx
  rw [hra] at hqa
  rw [hrb] at hqb
  have HRX := hide hrx
  have HRA := hide hqa
  have HRB := hide hqb
  clear hz hra hrb hrx hqa hqb bx ba bb
  have hbx := (Blk.new w 38 #[.int .i64 x, .int .i64 a, .int .i64 b, .string (str s)]).alloc (.cells (strsV namesL).toArray 9)
  have hnb := Blk.new (w.alloc (.cells #[.int .i64 x, .int .i64 a, .int .i64 b, .string (str s)] 38)) 9 (strsV namesL).toArray
  have hnz : (w.alloc (.cells #[.int .i64 x, .int .i64 a, .int .i64 b, .string (str s)] 38)).heap.size = w.heap.size + 1 := by simp
  rw [hnz] at hnb
  have HXA := hide (((Ext.refl w).alloc (.cells #[.int .i64 x, .int .i64 a, .int .i64 b, .string (str s)] 38)).alloc (.cells (strsV namesL).toArray 9))
  have HNM := hide (names_any (w.alloc (.cells #[.int .i64 x, .int .i64 a, .int .i64 b, .string (str s)] 38)))
  rw [hnz] at HNM
  have HBX := hide hbx
  have HNB := hide hnb
  clear hbx hnb hnz
  go_enter Tryz.func19, Tryz.ntmps19
  go_wp2_with fail
  refine HNM.out.mono ?_
  rintro e w1 ⟨rfl, hw1⟩
  rw [← hw1] at HXA HBX HNB
  clear hw1 HNM
  obtain ⟨hp, hhp⟩ : ∃ hp, w.heap.size = hp := ⟨_, rfl⟩
  rw [hhp] at HBX HNB ⊢
  clear hhp
  have c0 : w1.cell? ⟨hp, 0, none⟩ = some (.int .i64 x) := HBX.out.cell 0
  have c1 : w1.cell? ⟨hp, 1, none⟩ = some (.int .i64 a) := HBX.out.cell 1
  have c2 : w1.cell? ⟨hp, 2, none⟩ = some (.int .i64 b) := HBX.out.cell 2
  have c3 : w1.cell? ⟨hp, 3, none⟩ = some (.string (str s)) := HBX.out.cell 3
  have q : w1.cell? ⟨hp + 1, 3, none⟩ = some (.string ⟨#[102, 97, 108, 115, 101]⟩) := HNB.out.cell 3
  go_wp2_with fail
  refine (HRX.out w1).mono ?_
  rintro e w2 ⟨rfl, rfl⟩
  go_upto_region 5 with fail
  go_quiet (first
    | (go_at_call_of 11 (Value.int .i64 a); exact Calls.quiet_of_same ((HRA.out _).mono fun e w' h => ⟨h.1, h.2.symm⟩))
    | (go_at_call_of 11 (Value.int .i64 b); exact Calls.quiet_of_same ((HRB.out _).mono fun e w' h => ⟨h.1, h.2.symm⟩)))
  have HX1 := hide (HXA.out.drewN nq)
  have c3 : (w1.drewN nq).cell? ⟨hp, 3, none⟩ = some (.string (str s)) := c3
  generalize w1.drewN nq = W at *
  go_wp2_with fail
  go_ret2
  exact args_post rfl .false_ (Nat.le_refl _) (by decide) Reads.none_ HX1.out
set_option maxHeartbeats 8000000 in
set_option maxRecDepth 100000 in
theorem args_grep_ (x a b : Int) (s : Bs) (w : World) (hz : restZ x 13 = 4) (bx : -9223372036854775808 ≤ x ∧ x ≤ 9223372036854775807) (ba : -9223372036854775808 ≤ a ∧ a ≤ 9223372036854775807) (bb : -9223372036854775808 ≤ b ∧ b ≤ 9223372036854775807) (hs : (str s).size ≤ 9223372036854775807) :
    Calls Tryz.prog 19 #[.agg #[.int .i64 x, .int .i64 a, .int .i64 b, .string (str s)]] w (ArgsPost w) := by
  obtain ⟨ra, hra, hra2⟩ : ∃ k : Nat, restZ a 12 = (k : Int) ∧ k < 12 := ⟨(restZ a 12).toNat, by have := restZ_lo a 12 (by omega); omega, by have := restZ_lo a 12 (by omega); have := restZ_hi a 12 (by omega); omega⟩
  obtain ⟨rb, hrb, hrb2⟩ : ∃ k : Nat, restZ b 12 = (k : Int) ∧ k < 12 := ⟨(restZ b 12).toNat, by have := restZ_lo b 12 (by omega); omega, by have := restZ_lo b 12 (by omega); have := restZ_hi b 12 (by omega); omega⟩
  have hrx := fun W => rest_any x 13 W bx.1 bx.2 (by omega) (by omega)
  have hqa := fun W => rest_any a 12 W ba.1 ba.2 (by omega) (by omega)
  have hqb := fun W => rest_any b 12 W bb.1 bb.2 (by omega) (by omega)
  rw [hz] at hrx
  rw [hra] at hqa
  rw [hrb] at hqb
  have HRX := hide hrx
  have HRA := hide hqa
  have HRB := hide hqb
  clear hz hra hrb hrx hqa hqb bx ba bb
  have hbx := (Blk.new w 38 #[.int .i64 x, .int .i64 a, .int .i64 b, .string (str s)]).alloc (.cells (strsV namesL).toArray 9)
  have hnb := Blk.new (w.alloc (.cells #[.int .i64 x, .int .i64 a, .int .i64 b, .string (str s)] 38)) 9 (strsV namesL).toArray
  have hnz : (w.alloc (.cells #[.int .i64 x, .int .i64 a, .int .i64 b, .string (str s)] 38)).heap.size = w.heap.size + 1 := by simp
  rw [hnz] at hnb
  have HXA := hide (((Ext.refl w).alloc (.cells #[.int .i64 x, .int .i64 a, .int .i64 b, .string (str s)] 38)).alloc (.cells (strsV namesL).toArray 9))
  have HNM := hide (names_any (w.alloc (.cells #[.int .i64 x, .int .i64 a, .int .i64 b, .string (str s)] 38)))
  rw [hnz] at HNM
  have HBX := hide hbx
  have HNB := hide hnb
  clear hbx hnb hnz
  go_enter Tryz.func19, Tryz.ntmps19
  go_wp2_with fail
  refine HNM.out.mono ?_
  rintro e w1 ⟨rfl, hw1⟩
  rw [← hw1] at HXA HBX HNB
  clear hw1 HNM
  obtain ⟨hp, hhp⟩ : ∃ hp, w.heap.size = hp := ⟨_, rfl⟩
  rw [hhp] at HBX HNB ⊢
  clear hhp
  have c0 : w1.cell? ⟨hp, 0, none⟩ = some (.int .i64 x) := HBX.out.cell 0
  have c1 : w1.cell? ⟨hp, 1, none⟩ = some (.int .i64 a) := HBX.out.cell 1
  have c2 : w1.cell? ⟨hp, 2, none⟩ = some (.int .i64 b) := HBX.out.cell 2
  have c3 : w1.cell? ⟨hp, 3, none⟩ = some (.string (str s)) := HBX.out.cell 3
  have q : w1.cell? ⟨hp + 1, 4, none⟩ = some (.string ⟨#[103, 114, 101, 112]⟩) := HNB.out.cell 4
  go_wp2_with fail
  refine (HRX.out w1).mono ?_
  rintro e w2 ⟨rfl, rfl⟩
  go_upto_region 5 with fail
  go_quiet (first
    | (go_at_call_of 11 (Value.int .i64 a); exact Calls.quiet_of_same ((HRA.out _).mono fun e w' h => ⟨h.1, h.2.symm⟩))
    | (go_at_call_of 11 (Value.int .i64 b); exact Calls.quiet_of_same ((HRB.out _).mono fun e w' h => ⟨h.1, h.2.symm⟩)))
  have HX1 := hide (HXA.out.drewN nq)
  have c3 : (w1.drewN nq).cell? ⟨hp, 3, none⟩ = some (.string (str s)) := c3
  generalize w1.drewN nq = W at *
  obtain ⟨q1, hq1⟩ : ∃ q1, min (s.length) 2 = q1 := ⟨_, rfl⟩
  have hsz : (str s).size = s.length := str_size s
  have m1 : min (((str s).size : Nat) : Int) (2 : Int) = (q1 : Int) := by rw [hsz]; omega
  have m2 : q1 ≤ (str s).size := by rw [hsz]; omega
  have m3 : (q1 : Int) ≤ ((str s).size : Int) := by omega
  have hex : (str s).extract 0 q1 = str (s.take q1) := by rw [str, ByteArray.extract_mk, str]; simp
  have HEX := hide hex
  have hq2 : q1 ≤ 2 := by omega
  clear hsz hq1 hex
  generalize str s = S at *
  have m4 : (S.extract 0 q1).size = q1 := by simp only [ByteArray.size_extract]; omega
  have m5 : ¬ 9223372036854775807 < (⟨#[120]⟩ : ByteArray).size + (S.extract 0 q1).size := by rw [m4]; have : (⟨#[120]⟩ : ByteArray).size = 1 := rfl; omega
  have m6 : ¬ 9223372036854775807 < 1 + (S.extract 0 q1).size := by rw [m4]; omega
  have m7 : ¬ 9223372036854775807 < 1 + q1 := by omega
  have m8 : ¬ 9223372036854775807 < 1 + min q1 S.size := by omega
  have hsl := fun wx => run_slice_string (P := Tryz.prog) wx 9 S .i64 .i64 0 (q1 : Int) Tryz.underlying9 (by omega) (by omega) (by omega)
  go_upto_region 15 with fail
  go_region_held3 (fun w' => w'.cell? ⟨hp, 3, none⟩ = some (.string S)) (first | exact c3 | exact Ext.cell (w := W) (by ((repeat (first | with_reducible exact Ext.refl _ | with_reducible assumption | with_reducible refine Ext.alloc ?_ _ | with_reducible refine Ext.drew ?_ | with_reducible refine Ext.drewN ?_ _ | with_reducible refine Ext.setCell ?_ (by first | exact Nat.le_refl _ | assumption | (simp; done) | omega) _ | with_reducible refine Ext.trans ?_ (by with_reducible assumption))); done)) c3 | fail) (fail)
  all_goals
    go_wp2_with fail
    go_ret2
    refine args_post rfl (.grep_ (120 :: s.take q1) (by simp) (by rw [List.length_cons, List.length_take]; omega)) (Nat.le_refl _) (by decide) ?_ (HX1.out.trans (by ((repeat (first | with_reducible exact Ext.refl _ | with_reducible assumption | with_reducible refine Ext.alloc ?_ _ | with_reducible refine Ext.drew ?_ | with_reducible refine Ext.drewN ?_ _ | with_reducible refine Ext.setCell ?_ (by first | exact Nat.le_refl _ | assumption | (simp; done) | omega) _ | with_reducible refine Ext.trans ?_ (by with_reducible assumption))); done)))
    rw [HEX.out, show (⟨#[120]⟩ : ByteArray) ++ str (s.take q1) = str (120 :: s.take q1) from str_append [120] _]
    exact one_str _ _
set_option maxHeartbeats 8000000 in
set_option maxRecDepth 100000 in
theorem args_head_ (x a b : Int) (s : Bs) (w : World) (hz : restZ x 13 = 5) (bx : -9223372036854775808 ≤ x ∧ x ≤ 9223372036854775807) (ba : -9223372036854775808 ≤ a ∧ a ≤ 9223372036854775807) (bb : -9223372036854775808 ≤ b ∧ b ≤ 9223372036854775807) (hs : (str s).size ≤ 9223372036854775807) :
    Calls Tryz.prog 19 #[.agg #[.int .i64 x, .int .i64 a, .int .i64 b, .string (str s)]] w (ArgsPost w) := by
  obtain ⟨ra, hra, hra2⟩ : ∃ k : Nat, restZ a 12 = (k : Int) ∧ k < 12 := ⟨(restZ a 12).toNat, by have := restZ_lo a 12 (by omega); omega, by have := restZ_lo a 12 (by omega); have := restZ_hi a 12 (by omega); omega⟩
  obtain ⟨rb, hrb, hrb2⟩ : ∃ k : Nat, restZ b 12 = (k : Int) ∧ k < 12 := ⟨(restZ b 12).toNat, by have := restZ_lo b 12 (by omega); omega, by have := restZ_lo b 12 (by omega); have := restZ_hi b 12 (by omega); omega⟩
  have hrx := fun W => rest_any x 13 W bx.1 bx.2 (by omega) (by omega)
  have hqa := fun W => rest_any a 12 W ba.1 ba.2 (by omega) (by omega)
  have hqb := fun W => rest_any b 12 W bb.1 bb.2 (by omega) (by omega)
  rw [hz] at hrx
  rw [hra] at hqa
  rw [hrb] at hqb
  have HRX := hide hrx
  have HRA := hide hqa
  have HRB := hide hqb
  clear hz hra hrb hrx hqa hqb bx ba bb
  have hbx := (Blk.new w 38 #[.int .i64 x, .int .i64 a, .int .i64 b, .string (str s)]).alloc (.cells (strsV namesL).toArray 9)
  have hnb := Blk.new (w.alloc (.cells #[.int .i64 x, .int .i64 a, .int .i64 b, .string (str s)] 38)) 9 (strsV namesL).toArray
  have hnz : (w.alloc (.cells #[.int .i64 x, .int .i64 a, .int .i64 b, .string (str s)] 38)).heap.size = w.heap.size + 1 := by simp
  rw [hnz] at hnb
  have HXA := hide (((Ext.refl w).alloc (.cells #[.int .i64 x, .int .i64 a, .int .i64 b, .string (str s)] 38)).alloc (.cells (strsV namesL).toArray 9))
  have HNM := hide (names_any (w.alloc (.cells #[.int .i64 x, .int .i64 a, .int .i64 b, .string (str s)] 38)))
  rw [hnz] at HNM
  have HBX := hide hbx
  have HNB := hide hnb
  clear hbx hnb hnz
  go_enter Tryz.func19, Tryz.ntmps19
  go_wp2_with fail
  refine HNM.out.mono ?_
  rintro e w1 ⟨rfl, hw1⟩
  rw [← hw1] at HXA HBX HNB
  clear hw1 HNM
  obtain ⟨hp, hhp⟩ : ∃ hp, w.heap.size = hp := ⟨_, rfl⟩
  rw [hhp] at HBX HNB ⊢
  clear hhp
  have c0 : w1.cell? ⟨hp, 0, none⟩ = some (.int .i64 x) := HBX.out.cell 0
  have c1 : w1.cell? ⟨hp, 1, none⟩ = some (.int .i64 a) := HBX.out.cell 1
  have c2 : w1.cell? ⟨hp, 2, none⟩ = some (.int .i64 b) := HBX.out.cell 2
  have c3 : w1.cell? ⟨hp, 3, none⟩ = some (.string (str s)) := HBX.out.cell 3
  have q : w1.cell? ⟨hp + 1, 5, none⟩ = some (.string ⟨#[104, 101, 97, 100]⟩) := HNB.out.cell 5
  go_wp2_with fail
  refine (HRX.out w1).mono ?_
  rintro e w2 ⟨rfl, rfl⟩
  go_upto_region 5 with fail
  go_quiet (first
    | (go_at_call_of 11 (Value.int .i64 a); exact Calls.quiet_of_same ((HRA.out _).mono fun e w' h => ⟨h.1, h.2.symm⟩))
    | (go_at_call_of 11 (Value.int .i64 b); exact Calls.quiet_of_same ((HRB.out _).mono fun e w' h => ⟨h.1, h.2.symm⟩)))
  have HX1 := hide (HXA.out.drewN nq)
  have c3 : (w1.drewN nq).cell? ⟨hp, 3, none⟩ = some (.string (str s)) := c3
  generalize w1.drewN nq = W at *
  have HI := hide (itoa_3 ra (by omega) W)
  go_wp2_with fail
  refine HI.out.mono ?_
  rintro e w3 ⟨rfl, hx3⟩
  have HX3 := hide (HX1.out.trans hx3)
  clear hx3
  go_wp2_with fail
  go_ret2
  refine args_post rfl (.head_ ra (by omega)) (Nat.le_refl _) (by decide) ?_ (HX3.out.alloc _)
  rw [itoa_nat]
  exact one_str _ _
set_option maxHeartbeats 8000000 in
set_option maxRecDepth 100000 in
theorem args_nl_ (x a b : Int) (s : Bs) (w : World) (hz : restZ x 13 = 6) (bx : -9223372036854775808 ≤ x ∧ x ≤ 9223372036854775807) (ba : -9223372036854775808 ≤ a ∧ a ≤ 9223372036854775807) (bb : -9223372036854775808 ≤ b ∧ b ≤ 9223372036854775807) (hs : (str s).size ≤ 9223372036854775807) :
    Calls Tryz.prog 19 #[.agg #[.int .i64 x, .int .i64 a, .int .i64 b, .string (str s)]] w (ArgsPost w) := by
  obtain ⟨ra, hra, hra2⟩ : ∃ k : Nat, restZ a 12 = (k : Int) ∧ k < 12 := ⟨(restZ a 12).toNat, by have := restZ_lo a 12 (by omega); omega, by have := restZ_lo a 12 (by omega); have := restZ_hi a 12 (by omega); omega⟩
  obtain ⟨rb, hrb, hrb2⟩ : ∃ k : Nat, restZ b 12 = (k : Int) ∧ k < 12 := ⟨(restZ b 12).toNat, by have := restZ_lo b 12 (by omega); omega, by have := restZ_lo b 12 (by omega); have := restZ_hi b 12 (by omega); omega⟩
  have hrx := fun W => rest_any x 13 W bx.1 bx.2 (by omega) (by omega)
  have hqa := fun W => rest_any a 12 W ba.1 ba.2 (by omega) (by omega)
  have hqb := fun W => rest_any b 12 W bb.1 bb.2 (by omega) (by omega)
  rw [hz] at hrx
  rw [hra] at hqa
  rw [hrb] at hqb
  have HRX := hide hrx
  have HRA := hide hqa
  have HRB := hide hqb
  clear hz hra hrb hrx hqa hqb bx ba bb
  have hbx := (Blk.new w 38 #[.int .i64 x, .int .i64 a, .int .i64 b, .string (str s)]).alloc (.cells (strsV namesL).toArray 9)
  have hnb := Blk.new (w.alloc (.cells #[.int .i64 x, .int .i64 a, .int .i64 b, .string (str s)] 38)) 9 (strsV namesL).toArray
  have hnz : (w.alloc (.cells #[.int .i64 x, .int .i64 a, .int .i64 b, .string (str s)] 38)).heap.size = w.heap.size + 1 := by simp
  rw [hnz] at hnb
  have HXA := hide (((Ext.refl w).alloc (.cells #[.int .i64 x, .int .i64 a, .int .i64 b, .string (str s)] 38)).alloc (.cells (strsV namesL).toArray 9))
  have HNM := hide (names_any (w.alloc (.cells #[.int .i64 x, .int .i64 a, .int .i64 b, .string (str s)] 38)))
  rw [hnz] at HNM
  have HBX := hide hbx
  have HNB := hide hnb
  clear hbx hnb hnz
  go_enter Tryz.func19, Tryz.ntmps19
  go_wp2_with fail
  refine HNM.out.mono ?_
  rintro e w1 ⟨rfl, hw1⟩
  rw [← hw1] at HXA HBX HNB
  clear hw1 HNM
  obtain ⟨hp, hhp⟩ : ∃ hp, w.heap.size = hp := ⟨_, rfl⟩
  rw [hhp] at HBX HNB ⊢
  clear hhp
  have c0 : w1.cell? ⟨hp, 0, none⟩ = some (.int .i64 x) := HBX.out.cell 0
  have c1 : w1.cell? ⟨hp, 1, none⟩ = some (.int .i64 a) := HBX.out.cell 1
  have c2 : w1.cell? ⟨hp, 2, none⟩ = some (.int .i64 b) := HBX.out.cell 2
  have c3 : w1.cell? ⟨hp, 3, none⟩ = some (.string (str s)) := HBX.out.cell 3
  have q : w1.cell? ⟨hp + 1, 6, none⟩ = some (.string ⟨#[110, 108]⟩) := HNB.out.cell 6
  go_wp2_with fail
  refine (HRX.out w1).mono ?_
  rintro e w2 ⟨rfl, rfl⟩
  go_upto_region 5 with fail
  go_quiet (first
    | (go_at_call_of 11 (Value.int .i64 a); exact Calls.quiet_of_same ((HRA.out _).mono fun e w' h => ⟨h.1, h.2.symm⟩))
    | (go_at_call_of 11 (Value.int .i64 b); exact Calls.quiet_of_same ((HRB.out _).mono fun e w' h => ⟨h.1, h.2.symm⟩)))
  have HX1 := hide (HXA.out.drewN nq)
  have c3 : (w1.drewN nq).cell? ⟨hp, 3, none⟩ = some (.string (str s)) := c3
  generalize w1.drewN nq = W at *
  go_wp2_with fail
  go_ret2
  exact args_post rfl .nl_ (Nat.le_refl _) (by decide) Reads.none_ HX1.out
set_option maxHeartbeats 8000000 in
set_option maxRecDepth 100000 in
theorem args_sort_ (x a b : Int) (s : Bs) (w : World) (hz : restZ x 13 = 7) (bx : -9223372036854775808 ≤ x ∧ x ≤ 9223372036854775807) (ba : -9223372036854775808 ≤ a ∧ a ≤ 9223372036854775807) (bb : -9223372036854775808 ≤ b ∧ b ≤ 9223372036854775807) (hs : (str s).size ≤ 9223372036854775807) :
    Calls Tryz.prog 19 #[.agg #[.int .i64 x, .int .i64 a, .int .i64 b, .string (str s)]] w (ArgsPost w) := by
  obtain ⟨ra, hra, hra2⟩ : ∃ k : Nat, restZ a 12 = (k : Int) ∧ k < 12 := ⟨(restZ a 12).toNat, by have := restZ_lo a 12 (by omega); omega, by have := restZ_lo a 12 (by omega); have := restZ_hi a 12 (by omega); omega⟩
  obtain ⟨rb, hrb, hrb2⟩ : ∃ k : Nat, restZ b 12 = (k : Int) ∧ k < 12 := ⟨(restZ b 12).toNat, by have := restZ_lo b 12 (by omega); omega, by have := restZ_lo b 12 (by omega); have := restZ_hi b 12 (by omega); omega⟩
  have hrx := fun W => rest_any x 13 W bx.1 bx.2 (by omega) (by omega)
  have hqa := fun W => rest_any a 12 W ba.1 ba.2 (by omega) (by omega)
  have hqb := fun W => rest_any b 12 W bb.1 bb.2 (by omega) (by omega)
  rw [hz] at hrx
  rw [hra] at hqa
  rw [hrb] at hqb
  have HRX := hide hrx
  have HRA := hide hqa
  have HRB := hide hqb
  clear hz hra hrb hrx hqa hqb bx ba bb
  have hbx := (Blk.new w 38 #[.int .i64 x, .int .i64 a, .int .i64 b, .string (str s)]).alloc (.cells (strsV namesL).toArray 9)
  have hnb := Blk.new (w.alloc (.cells #[.int .i64 x, .int .i64 a, .int .i64 b, .string (str s)] 38)) 9 (strsV namesL).toArray
  have hnz : (w.alloc (.cells #[.int .i64 x, .int .i64 a, .int .i64 b, .string (str s)] 38)).heap.size = w.heap.size + 1 := by simp
  rw [hnz] at hnb
  have HXA := hide (((Ext.refl w).alloc (.cells #[.int .i64 x, .int .i64 a, .int .i64 b, .string (str s)] 38)).alloc (.cells (strsV namesL).toArray 9))
  have HNM := hide (names_any (w.alloc (.cells #[.int .i64 x, .int .i64 a, .int .i64 b, .string (str s)] 38)))
  rw [hnz] at HNM
  have HBX := hide hbx
  have HNB := hide hnb
  clear hbx hnb hnz
  go_enter Tryz.func19, Tryz.ntmps19
  go_wp2_with fail
  refine HNM.out.mono ?_
  rintro e w1 ⟨rfl, hw1⟩
  rw [← hw1] at HXA HBX HNB
  clear hw1 HNM
  obtain ⟨hp, hhp⟩ : ∃ hp, w.heap.size = hp := ⟨_, rfl⟩
  rw [hhp] at HBX HNB ⊢
  clear hhp
  have c0 : w1.cell? ⟨hp, 0, none⟩ = some (.int .i64 x) := HBX.out.cell 0
  have c1 : w1.cell? ⟨hp, 1, none⟩ = some (.int .i64 a) := HBX.out.cell 1
  have c2 : w1.cell? ⟨hp, 2, none⟩ = some (.int .i64 b) := HBX.out.cell 2
  have c3 : w1.cell? ⟨hp, 3, none⟩ = some (.string (str s)) := HBX.out.cell 3
  have q : w1.cell? ⟨hp + 1, 7, none⟩ = some (.string ⟨#[115, 111, 114, 116]⟩) := HNB.out.cell 7
  go_wp2_with fail
  refine (HRX.out w1).mono ?_
  rintro e w2 ⟨rfl, rfl⟩
  go_upto_region 5 with fail
  go_quiet (first
    | (go_at_call_of 11 (Value.int .i64 a); exact Calls.quiet_of_same ((HRA.out _).mono fun e w' h => ⟨h.1, h.2.symm⟩))
    | (go_at_call_of 11 (Value.int .i64 b); exact Calls.quiet_of_same ((HRB.out _).mono fun e w' h => ⟨h.1, h.2.symm⟩)))
  have HX1 := hide (HXA.out.drewN nq)
  have c3 : (w1.drewN nq).cell? ⟨hp, 3, none⟩ = some (.string (str s)) := c3
  generalize w1.drewN nq = W at *
  go_wp2_with fail
  go_ret2
  exact args_post rfl .sort_ (Nat.le_refl _) (by decide) Reads.none_ HX1.out
set_option maxHeartbeats 8000000 in
set_option maxRecDepth 100000 in
theorem args_tac_ (x a b : Int) (s : Bs) (w : World) (hz : restZ x 13 = 8) (bx : -9223372036854775808 ≤ x ∧ x ≤ 9223372036854775807) (ba : -9223372036854775808 ≤ a ∧ a ≤ 9223372036854775807) (bb : -9223372036854775808 ≤ b ∧ b ≤ 9223372036854775807) (hs : (str s).size ≤ 9223372036854775807) :
    Calls Tryz.prog 19 #[.agg #[.int .i64 x, .int .i64 a, .int .i64 b, .string (str s)]] w (ArgsPost w) := by
  obtain ⟨ra, hra, hra2⟩ : ∃ k : Nat, restZ a 12 = (k : Int) ∧ k < 12 := ⟨(restZ a 12).toNat, by have := restZ_lo a 12 (by omega); omega, by have := restZ_lo a 12 (by omega); have := restZ_hi a 12 (by omega); omega⟩
  obtain ⟨rb, hrb, hrb2⟩ : ∃ k : Nat, restZ b 12 = (k : Int) ∧ k < 12 := ⟨(restZ b 12).toNat, by have := restZ_lo b 12 (by omega); omega, by have := restZ_lo b 12 (by omega); have := restZ_hi b 12 (by omega); omega⟩
  have hrx := fun W => rest_any x 13 W bx.1 bx.2 (by omega) (by omega)
  have hqa := fun W => rest_any a 12 W ba.1 ba.2 (by omega) (by omega)
  have hqb := fun W => rest_any b 12 W bb.1 bb.2 (by omega) (by omega)
  rw [hz] at hrx
  rw [hra] at hqa
  rw [hrb] at hqb
  have HRX := hide hrx
  have HRA := hide hqa
  have HRB := hide hqb
  clear hz hra hrb hrx hqa hqb bx ba bb
  have hbx := (Blk.new w 38 #[.int .i64 x, .int .i64 a, .int .i64 b, .string (str s)]).alloc (.cells (strsV namesL).toArray 9)
  have hnb := Blk.new (w.alloc (.cells #[.int .i64 x, .int .i64 a, .int .i64 b, .string (str s)] 38)) 9 (strsV namesL).toArray
  have hnz : (w.alloc (.cells #[.int .i64 x, .int .i64 a, .int .i64 b, .string (str s)] 38)).heap.size = w.heap.size + 1 := by simp
  rw [hnz] at hnb
  have HXA := hide (((Ext.refl w).alloc (.cells #[.int .i64 x, .int .i64 a, .int .i64 b, .string (str s)] 38)).alloc (.cells (strsV namesL).toArray 9))
  have HNM := hide (names_any (w.alloc (.cells #[.int .i64 x, .int .i64 a, .int .i64 b, .string (str s)] 38)))
  rw [hnz] at HNM
  have HBX := hide hbx
  have HNB := hide hnb
  clear hbx hnb hnz
  go_enter Tryz.func19, Tryz.ntmps19
  go_wp2_with fail
  refine HNM.out.mono ?_
  rintro e w1 ⟨rfl, hw1⟩
  rw [← hw1] at HXA HBX HNB
  clear hw1 HNM
  obtain ⟨hp, hhp⟩ : ∃ hp, w.heap.size = hp := ⟨_, rfl⟩
  rw [hhp] at HBX HNB ⊢
  clear hhp
  have c0 : w1.cell? ⟨hp, 0, none⟩ = some (.int .i64 x) := HBX.out.cell 0
  have c1 : w1.cell? ⟨hp, 1, none⟩ = some (.int .i64 a) := HBX.out.cell 1
  have c2 : w1.cell? ⟨hp, 2, none⟩ = some (.int .i64 b) := HBX.out.cell 2
  have c3 : w1.cell? ⟨hp, 3, none⟩ = some (.string (str s)) := HBX.out.cell 3
  have q : w1.cell? ⟨hp + 1, 8, none⟩ = some (.string ⟨#[116, 97, 99]⟩) := HNB.out.cell 8
  go_wp2_with fail
  refine (HRX.out w1).mono ?_
  rintro e w2 ⟨rfl, rfl⟩
  go_upto_region 5 with fail
  go_quiet (first
    | (go_at_call_of 11 (Value.int .i64 a); exact Calls.quiet_of_same ((HRA.out _).mono fun e w' h => ⟨h.1, h.2.symm⟩))
    | (go_at_call_of 11 (Value.int .i64 b); exact Calls.quiet_of_same ((HRB.out _).mono fun e w' h => ⟨h.1, h.2.symm⟩)))
  have HX1 := hide (HXA.out.drewN nq)
  have c3 : (w1.drewN nq).cell? ⟨hp, 3, none⟩ = some (.string (str s)) := c3
  generalize w1.drewN nq = W at *
  go_wp2_with fail
  go_ret2
  exact args_post rfl .tac_ (Nat.le_refl _) (by decide) Reads.none_ HX1.out
set_option maxHeartbeats 8000000 in
set_option maxRecDepth 100000 in
theorem args_tail_ (x a b : Int) (s : Bs) (w : World) (hz : restZ x 13 = 9) (bx : -9223372036854775808 ≤ x ∧ x ≤ 9223372036854775807) (ba : -9223372036854775808 ≤ a ∧ a ≤ 9223372036854775807) (bb : -9223372036854775808 ≤ b ∧ b ≤ 9223372036854775807) (hs : (str s).size ≤ 9223372036854775807) :
    Calls Tryz.prog 19 #[.agg #[.int .i64 x, .int .i64 a, .int .i64 b, .string (str s)]] w (ArgsPost w) := by
  obtain ⟨ra, hra, hra2⟩ : ∃ k : Nat, restZ a 12 = (k : Int) ∧ k < 12 := ⟨(restZ a 12).toNat, by have := restZ_lo a 12 (by omega); omega, by have := restZ_lo a 12 (by omega); have := restZ_hi a 12 (by omega); omega⟩
  obtain ⟨rb, hrb, hrb2⟩ : ∃ k : Nat, restZ b 12 = (k : Int) ∧ k < 12 := ⟨(restZ b 12).toNat, by have := restZ_lo b 12 (by omega); omega, by have := restZ_lo b 12 (by omega); have := restZ_hi b 12 (by omega); omega⟩
  have hrx := fun W => rest_any x 13 W bx.1 bx.2 (by omega) (by omega)
  have hqa := fun W => rest_any a 12 W ba.1 ba.2 (by omega) (by omega)
  have hqb := fun W => rest_any b 12 W bb.1 bb.2 (by omega) (by omega)
  rw [hz] at hrx
  rw [hra] at hqa
  rw [hrb] at hqb
  have HRX := hide hrx
  have HRA := hide hqa
  have HRB := hide hqb
  clear hz hra hrb hrx hqa hqb bx ba bb
  have hbx := (Blk.new w 38 #[.int .i64 x, .int .i64 a, .int .i64 b, .string (str s)]).alloc (.cells (strsV namesL).toArray 9)
  have hnb := Blk.new (w.alloc (.cells #[.int .i64 x, .int .i64 a, .int .i64 b, .string (str s)] 38)) 9 (strsV namesL).toArray
  have hnz : (w.alloc (.cells #[.int .i64 x, .int .i64 a, .int .i64 b, .string (str s)] 38)).heap.size = w.heap.size + 1 := by simp
  rw [hnz] at hnb
  have HXA := hide (((Ext.refl w).alloc (.cells #[.int .i64 x, .int .i64 a, .int .i64 b, .string (str s)] 38)).alloc (.cells (strsV namesL).toArray 9))
  have HNM := hide (names_any (w.alloc (.cells #[.int .i64 x, .int .i64 a, .int .i64 b, .string (str s)] 38)))
  rw [hnz] at HNM
  have HBX := hide hbx
  have HNB := hide hnb
  clear hbx hnb hnz
  go_enter Tryz.func19, Tryz.ntmps19
  go_wp2_with fail
  refine HNM.out.mono ?_
  rintro e w1 ⟨rfl, hw1⟩
  rw [← hw1] at HXA HBX HNB
  clear hw1 HNM
  obtain ⟨hp, hhp⟩ : ∃ hp, w.heap.size = hp := ⟨_, rfl⟩
  rw [hhp] at HBX HNB ⊢
  clear hhp
  have c0 : w1.cell? ⟨hp, 0, none⟩ = some (.int .i64 x) := HBX.out.cell 0
  have c1 : w1.cell? ⟨hp, 1, none⟩ = some (.int .i64 a) := HBX.out.cell 1
  have c2 : w1.cell? ⟨hp, 2, none⟩ = some (.int .i64 b) := HBX.out.cell 2
  have c3 : w1.cell? ⟨hp, 3, none⟩ = some (.string (str s)) := HBX.out.cell 3
  have q : w1.cell? ⟨hp + 1, 9, none⟩ = some (.string ⟨#[116, 97, 105, 108]⟩) := HNB.out.cell 9
  go_wp2_with fail
  refine (HRX.out w1).mono ?_
  rintro e w2 ⟨rfl, rfl⟩
  go_upto_region 5 with fail
  go_quiet (first
    | (go_at_call_of 11 (Value.int .i64 a); exact Calls.quiet_of_same ((HRA.out _).mono fun e w' h => ⟨h.1, h.2.symm⟩))
    | (go_at_call_of 11 (Value.int .i64 b); exact Calls.quiet_of_same ((HRB.out _).mono fun e w' h => ⟨h.1, h.2.symm⟩)))
  have HX1 := hide (HXA.out.drewN nq)
  have c3 : (w1.drewN nq).cell? ⟨hp, 3, none⟩ = some (.string (str s)) := c3
  generalize w1.drewN nq = W at *
  have HI := hide (itoa_3 ra (by omega) W)
  go_wp2_with fail
  refine HI.out.mono ?_
  rintro e w3 ⟨rfl, hx3⟩
  have HX3 := hide (HX1.out.trans hx3)
  clear hx3
  go_wp2_with fail
  go_ret2
  refine args_post rfl (.tail_ ra (by omega)) (Nat.le_refl _) (by decide) ?_ (HX3.out.alloc _)
  rw [itoa_nat]
  exact one_str _ _
set_option maxHeartbeats 8000000 in
set_option maxRecDepth 100000 in
theorem args_tr_ (x a b : Int) (s : Bs) (w : World) (hz : restZ x 13 = 10) (bx : -9223372036854775808 ≤ x ∧ x ≤ 9223372036854775807) (ba : -9223372036854775808 ≤ a ∧ a ≤ 9223372036854775807) (bb : -9223372036854775808 ≤ b ∧ b ≤ 9223372036854775807) (hs : (str s).size ≤ 9223372036854775807) :
    Calls Tryz.prog 19 #[.agg #[.int .i64 x, .int .i64 a, .int .i64 b, .string (str s)]] w (ArgsPost w) := by
  obtain ⟨ra, hra, hra2⟩ : ∃ k : Nat, restZ a 12 = (k : Int) ∧ k < 12 := ⟨(restZ a 12).toNat, by have := restZ_lo a 12 (by omega); omega, by have := restZ_lo a 12 (by omega); have := restZ_hi a 12 (by omega); omega⟩
  obtain ⟨rb, hrb, hrb2⟩ : ∃ k : Nat, restZ b 12 = (k : Int) ∧ k < 12 := ⟨(restZ b 12).toNat, by have := restZ_lo b 12 (by omega); omega, by have := restZ_lo b 12 (by omega); have := restZ_hi b 12 (by omega); omega⟩
  have hrx := fun W => rest_any x 13 W bx.1 bx.2 (by omega) (by omega)
  have hqa := fun W => rest_any a 12 W ba.1 ba.2 (by omega) (by omega)
  have hqb := fun W => rest_any b 12 W bb.1 bb.2 (by omega) (by omega)
  rw [hz] at hrx
  rw [hra] at hqa
  rw [hrb] at hqb
  have HRX := hide hrx
  have HRA := hide hqa
  have HRB := hide hqb
  clear hz hra hrb hrx hqa hqb bx ba bb
  have hbx := (Blk.new w 38 #[.int .i64 x, .int .i64 a, .int .i64 b, .string (str s)]).alloc (.cells (strsV namesL).toArray 9)
  have hnb := Blk.new (w.alloc (.cells #[.int .i64 x, .int .i64 a, .int .i64 b, .string (str s)] 38)) 9 (strsV namesL).toArray
  have hnz : (w.alloc (.cells #[.int .i64 x, .int .i64 a, .int .i64 b, .string (str s)] 38)).heap.size = w.heap.size + 1 := by simp
  rw [hnz] at hnb
  have HXA := hide (((Ext.refl w).alloc (.cells #[.int .i64 x, .int .i64 a, .int .i64 b, .string (str s)] 38)).alloc (.cells (strsV namesL).toArray 9))
  have HNM := hide (names_any (w.alloc (.cells #[.int .i64 x, .int .i64 a, .int .i64 b, .string (str s)] 38)))
  rw [hnz] at HNM
  have HBX := hide hbx
  have HNB := hide hnb
  clear hbx hnb hnz
  go_enter Tryz.func19, Tryz.ntmps19
  go_wp2_with fail
  refine HNM.out.mono ?_
  rintro e w1 ⟨rfl, hw1⟩
  rw [← hw1] at HXA HBX HNB
  clear hw1 HNM
  obtain ⟨hp, hhp⟩ : ∃ hp, w.heap.size = hp := ⟨_, rfl⟩
  rw [hhp] at HBX HNB ⊢
  clear hhp
  have c0 : w1.cell? ⟨hp, 0, none⟩ = some (.int .i64 x) := HBX.out.cell 0
  have c1 : w1.cell? ⟨hp, 1, none⟩ = some (.int .i64 a) := HBX.out.cell 1
  have c2 : w1.cell? ⟨hp, 2, none⟩ = some (.int .i64 b) := HBX.out.cell 2
  have c3 : w1.cell? ⟨hp, 3, none⟩ = some (.string (str s)) := HBX.out.cell 3
  have q : w1.cell? ⟨hp + 1, 10, none⟩ = some (.string ⟨#[116, 114]⟩) := HNB.out.cell 10
  go_wp2_with fail
  refine (HRX.out w1).mono ?_
  rintro e w2 ⟨rfl, rfl⟩
  go_upto_region 5 with fail
  go_quiet (first
    | (go_at_call_of 11 (Value.int .i64 a); exact Calls.quiet_of_same ((HRA.out _).mono fun e w' h => ⟨h.1, h.2.symm⟩))
    | (go_at_call_of 11 (Value.int .i64 b); exact Calls.quiet_of_same ((HRB.out _).mono fun e w' h => ⟨h.1, h.2.symm⟩)))
  have HX1 := hide (HXA.out.drewN nq)
  have c3 : (w1.drewN nq).cell? ⟨hp, 3, none⟩ = some (.string (str s)) := c3
  generalize w1.drewN nq = W at *
  obtain ⟨u, hu1, hu2⟩ := byte_wrap2 ra hra2
  obtain ⟨v, hv1, hv2⟩ := byte_wrap2 rb hrb2
  have hcu := conv_one1 W u
  have hcv := conv_one1 W v
  have hcu2 := conv_one2 W u v
  have hcv2 := conv_one2 W v u
  have hcu3 := conv_one3 W u v
  have hcv3 := conv_one3 W v u
  have e5 : IntKind.i64.wrap (u.toNat : Int) = (u.toNat : Int) := by have := u.toNat_lt; rw [IntKind.wrap_i64]; omega
  have e6 : IntKind.i64.wrap (v.toNat : Int) = (v.toNat : Int) := by have := v.toNat_lt; rw [IntKind.wrap_i64]; omega
  have e7 : IntKind.u8.wrap (u.toNat : Int) = (u.toNat : Int) := by rw [← hu2]; rw [hu1]; exact hu2.symm
  have e8 : IntKind.u8.wrap (v.toNat : Int) = (v.toNat : Int) := by rw [← hv2]; rw [hv1]; exact hv2.symm
  have e1 : IntKind.i64.wrap (97 + (ra : Int)) = 97 + (ra : Int) := by rw [IntKind.wrap_i64]; omega
  have e2 : IntKind.i64.wrap (97 + (rb : Int)) = 97 + (rb : Int) := by rw [IntKind.wrap_i64]; omega
  go_upto_region 13 with fail
  go_region_law (fail)
  all_goals
    simp only [Act.put, List.getElem_toArray, List.getElem_cons_zero, List.getElem_cons_succ, Array.setIfInBounds, List.size_toArray, List.length_cons, List.length_nil, Nat.reduceAdd, Nat.reduceLT, dite_true, List.set_toArray, List.set_cons_zero, List.set_cons_succ]
    go_wp2_with fail
    go_ret2
    refine args_post rfl (.tr_ u v) (Nat.le_refl _) (by decide) ?_ (HX1.out.trans (by ((repeat (first | with_reducible exact Ext.refl _ | with_reducible assumption | with_reducible refine Ext.alloc ?_ _ | with_reducible refine Ext.drew ?_ | with_reducible refine Ext.drewN ?_ _ | with_reducible refine Ext.setCell ?_ (by first | exact Nat.le_refl _ | assumption | (simp; done) | omega) _ | with_reducible refine Ext.trans ?_ (by with_reducible assumption))); done)))
    first | exact two_str3 W u v u v | exact two_str3 W v u u v
set_option maxHeartbeats 8000000 in
set_option maxRecDepth 100000 in
theorem args_uniq_ (x a b : Int) (s : Bs) (w : World) (hz : restZ x 13 = 11) (bx : -9223372036854775808 ≤ x ∧ x ≤ 9223372036854775807) (ba : -9223372036854775808 ≤ a ∧ a ≤ 9223372036854775807) (bb : -9223372036854775808 ≤ b ∧ b ≤ 9223372036854775807) (hs : (str s).size ≤ 9223372036854775807) :
    Calls Tryz.prog 19 #[.agg #[.int .i64 x, .int .i64 a, .int .i64 b, .string (str s)]] w (ArgsPost w) := by
  obtain ⟨ra, hra, hra2⟩ : ∃ k : Nat, restZ a 12 = (k : Int) ∧ k < 12 := ⟨(restZ a 12).toNat, by have := restZ_lo a 12 (by omega); omega, by have := restZ_lo a 12 (by omega); have := restZ_hi a 12 (by omega); omega⟩
  obtain ⟨rb, hrb, hrb2⟩ : ∃ k : Nat, restZ b 12 = (k : Int) ∧ k < 12 := ⟨(restZ b 12).toNat, by have := restZ_lo b 12 (by omega); omega, by have := restZ_lo b 12 (by omega); have := restZ_hi b 12 (by omega); omega⟩
  have hrx := fun W => rest_any x 13 W bx.1 bx.2 (by omega) (by omega)
  have hqa := fun W => rest_any a 12 W ba.1 ba.2 (by omega) (by omega)
  have hqb := fun W => rest_any b 12 W bb.1 bb.2 (by omega) (by omega)
  rw [hz] at hrx
  rw [hra] at hqa
  rw [hrb] at hqb
  have HRX := hide hrx
  have HRA := hide hqa
  have HRB := hide hqb
  clear hz hra hrb hrx hqa hqb bx ba bb
  have hbx := (Blk.new w 38 #[.int .i64 x, .int .i64 a, .int .i64 b, .string (str s)]).alloc (.cells (strsV namesL).toArray 9)
  have hnb := Blk.new (w.alloc (.cells #[.int .i64 x, .int .i64 a, .int .i64 b, .string (str s)] 38)) 9 (strsV namesL).toArray
  have hnz : (w.alloc (.cells #[.int .i64 x, .int .i64 a, .int .i64 b, .string (str s)] 38)).heap.size = w.heap.size + 1 := by simp
  rw [hnz] at hnb
  have HXA := hide (((Ext.refl w).alloc (.cells #[.int .i64 x, .int .i64 a, .int .i64 b, .string (str s)] 38)).alloc (.cells (strsV namesL).toArray 9))
  have HNM := hide (names_any (w.alloc (.cells #[.int .i64 x, .int .i64 a, .int .i64 b, .string (str s)] 38)))
  rw [hnz] at HNM
  have HBX := hide hbx
  have HNB := hide hnb
  clear hbx hnb hnz
  go_enter Tryz.func19, Tryz.ntmps19
  go_wp2_with fail
  refine HNM.out.mono ?_
  rintro e w1 ⟨rfl, hw1⟩
  rw [← hw1] at HXA HBX HNB
  clear hw1 HNM
  obtain ⟨hp, hhp⟩ : ∃ hp, w.heap.size = hp := ⟨_, rfl⟩
  rw [hhp] at HBX HNB ⊢
  clear hhp
  have c0 : w1.cell? ⟨hp, 0, none⟩ = some (.int .i64 x) := HBX.out.cell 0
  have c1 : w1.cell? ⟨hp, 1, none⟩ = some (.int .i64 a) := HBX.out.cell 1
  have c2 : w1.cell? ⟨hp, 2, none⟩ = some (.int .i64 b) := HBX.out.cell 2
  have c3 : w1.cell? ⟨hp, 3, none⟩ = some (.string (str s)) := HBX.out.cell 3
  have q : w1.cell? ⟨hp + 1, 11, none⟩ = some (.string ⟨#[117, 110, 105, 113]⟩) := HNB.out.cell 11
  go_wp2_with fail
  refine (HRX.out w1).mono ?_
  rintro e w2 ⟨rfl, rfl⟩
  go_upto_region 5 with fail
  go_quiet (first
    | (go_at_call_of 11 (Value.int .i64 a); exact Calls.quiet_of_same ((HRA.out _).mono fun e w' h => ⟨h.1, h.2.symm⟩))
    | (go_at_call_of 11 (Value.int .i64 b); exact Calls.quiet_of_same ((HRB.out _).mono fun e w' h => ⟨h.1, h.2.symm⟩)))
  have HX1 := hide (HXA.out.drewN nq)
  have c3 : (w1.drewN nq).cell? ⟨hp, 3, none⟩ = some (.string (str s)) := c3
  generalize w1.drewN nq = W at *
  go_wp2_with fail
  go_ret2
  exact args_post rfl .uniq_ (Nat.le_refl _) (by decide) Reads.none_ HX1.out
set_option maxHeartbeats 8000000 in
set_option maxRecDepth 100000 in
theorem args_wc_ (x a b : Int) (s : Bs) (w : World) (hz : restZ x 13 = 12) (bx : -9223372036854775808 ≤ x ∧ x ≤ 9223372036854775807) (ba : -9223372036854775808 ≤ a ∧ a ≤ 9223372036854775807) (bb : -9223372036854775808 ≤ b ∧ b ≤ 9223372036854775807) (hs : (str s).size ≤ 9223372036854775807) :
    Calls Tryz.prog 19 #[.agg #[.int .i64 x, .int .i64 a, .int .i64 b, .string (str s)]] w (ArgsPost w) := by
  obtain ⟨ra, hra, hra2⟩ : ∃ k : Nat, restZ a 12 = (k : Int) ∧ k < 12 := ⟨(restZ a 12).toNat, by have := restZ_lo a 12 (by omega); omega, by have := restZ_lo a 12 (by omega); have := restZ_hi a 12 (by omega); omega⟩
  obtain ⟨rb, hrb, hrb2⟩ : ∃ k : Nat, restZ b 12 = (k : Int) ∧ k < 12 := ⟨(restZ b 12).toNat, by have := restZ_lo b 12 (by omega); omega, by have := restZ_lo b 12 (by omega); have := restZ_hi b 12 (by omega); omega⟩
  have hrx := fun W => rest_any x 13 W bx.1 bx.2 (by omega) (by omega)
  have hqa := fun W => rest_any a 12 W ba.1 ba.2 (by omega) (by omega)
  have hqb := fun W => rest_any b 12 W bb.1 bb.2 (by omega) (by omega)
  rw [hz] at hrx
  rw [hra] at hqa
  rw [hrb] at hqb
  have HRX := hide hrx
  have HRA := hide hqa
  have HRB := hide hqb
  clear hz hra hrb hrx hqa hqb bx ba bb
  have hbx := (Blk.new w 38 #[.int .i64 x, .int .i64 a, .int .i64 b, .string (str s)]).alloc (.cells (strsV namesL).toArray 9)
  have hnb := Blk.new (w.alloc (.cells #[.int .i64 x, .int .i64 a, .int .i64 b, .string (str s)] 38)) 9 (strsV namesL).toArray
  have hnz : (w.alloc (.cells #[.int .i64 x, .int .i64 a, .int .i64 b, .string (str s)] 38)).heap.size = w.heap.size + 1 := by simp
  rw [hnz] at hnb
  have HXA := hide (((Ext.refl w).alloc (.cells #[.int .i64 x, .int .i64 a, .int .i64 b, .string (str s)] 38)).alloc (.cells (strsV namesL).toArray 9))
  have HNM := hide (names_any (w.alloc (.cells #[.int .i64 x, .int .i64 a, .int .i64 b, .string (str s)] 38)))
  rw [hnz] at HNM
  have HBX := hide hbx
  have HNB := hide hnb
  clear hbx hnb hnz
  go_enter Tryz.func19, Tryz.ntmps19
  go_wp2_with fail
  refine HNM.out.mono ?_
  rintro e w1 ⟨rfl, hw1⟩
  rw [← hw1] at HXA HBX HNB
  clear hw1 HNM
  obtain ⟨hp, hhp⟩ : ∃ hp, w.heap.size = hp := ⟨_, rfl⟩
  rw [hhp] at HBX HNB ⊢
  clear hhp
  have c0 : w1.cell? ⟨hp, 0, none⟩ = some (.int .i64 x) := HBX.out.cell 0
  have c1 : w1.cell? ⟨hp, 1, none⟩ = some (.int .i64 a) := HBX.out.cell 1
  have c2 : w1.cell? ⟨hp, 2, none⟩ = some (.int .i64 b) := HBX.out.cell 2
  have c3 : w1.cell? ⟨hp, 3, none⟩ = some (.string (str s)) := HBX.out.cell 3
  have q : w1.cell? ⟨hp + 1, 12, none⟩ = some (.string ⟨#[119, 99]⟩) := HNB.out.cell 12
  go_wp2_with fail
  refine (HRX.out w1).mono ?_
  rintro e w2 ⟨rfl, rfl⟩
  go_upto_region 5 with fail
  go_quiet (first
    | (go_at_call_of 11 (Value.int .i64 a); exact Calls.quiet_of_same ((HRA.out _).mono fun e w' h => ⟨h.1, h.2.symm⟩))
    | (go_at_call_of 11 (Value.int .i64 b); exact Calls.quiet_of_same ((HRB.out _).mono fun e w' h => ⟨h.1, h.2.symm⟩)))
  have HX1 := hide (HXA.out.drewN nq)
  have c3 : (w1.drewN nq).cell? ⟨hp, 3, none⟩ = some (.string (str s)) := c3
  generalize w1.drewN nq = W at *
  go_wp2_with fail
  go_ret2
  exact args_post rfl .wc_ (Nat.le_refl _) (by decide) Reads.none_ HX1.out
theorem args_any (x a b : Int) (s : Bs) (w : World) (bx : -9223372036854775808 ≤ x ∧ x ≤ 9223372036854775807) (ba : -9223372036854775808 ≤ a ∧ a ≤ 9223372036854775807) (bb : -9223372036854775808 ≤ b ∧ b ≤ 9223372036854775807) (hs : (str s).size ≤ 9223372036854775807) :
    Calls Tryz.prog 19 #[.agg #[.int .i64 x, .int .i64 a, .int .i64 b, .string (str s)]] w (ArgsPost w) := by
  have h0 := restZ_lo x 13 (by omega)
  have h1 := restZ_hi x 13 (by omega)
  rcases (show restZ x 13 = 0 ∨ restZ x 13 = 1 ∨ restZ x 13 = 2 ∨ restZ x 13 = 3 ∨ restZ x 13 = 4 ∨ restZ x 13 = 5 ∨ restZ x 13 = 6 ∨ restZ x 13 = 7 ∨ restZ x 13 = 8 ∨ restZ x 13 = 9 ∨ restZ x 13 = 10 ∨ restZ x 13 = 11 ∨ restZ x 13 = 12 from by omega) with h | h | h | h | h | h | h | h | h | h | h | h | h
  · exact args_cat_ x a b s w h bx ba bb hs
  · exact args_cut_ x a b s w h bx ba bb hs
  · exact args_echo_ x a b s w h bx ba bb hs
  · exact args_false_ x a b s w h bx ba bb hs
  · exact args_grep_ x a b s w h bx ba bb hs
  · exact args_head_ x a b s w h bx ba bb hs
  · exact args_nl_ x a b s w h bx ba bb hs
  · exact args_sort_ x a b s w h bx ba bb hs
  · exact args_tac_ x a b s w h bx ba bb hs
  · exact args_tail_ x a b s w h bx ba bb hs
  · exact args_tr_ x a b s w h bx ba bb hs
  · exact args_uniq_ x a b s w h bx ba bb hs
  · exact args_wc_ x a b s w h bx ba bb hs
end Go.Proofs.YtjmonkacijncbaaGreatDoor
