/- The walk of ToolsFail. Printed by gen_fail.py. -/
import Derived.Test.YtjmonkacijncbaaGreatDoorTlNext
import Derived.Deep.DeepCutAuto
namespace Go.Proofs.YtjmonkacijncbaaGreatDoor
open Go.RowKit
set_option linter.unusedVariables false

/-- A program by the way it starts. -/
inductive Kind (nm : Bs) (L : List Bs) : Prop
  | plain (hc : CheckAt nm L) (e1 : ((str nm).toList == [101, 99, 104, 111]) = false) (e2 : ((str nm).toList == [102, 97, 108, 115, 101]) = false)
  | echo (f : Bs → Bs) (hm : MeanAt nm L f fun _ => 0) (hc : CheckAt nm L) (e1 : ((str nm).toList == [101, 99, 104, 111]) = true) (hf : (f []).length ≠ 0)
  | false_ (hm : MeanAt nm L (fun _ => []) fun _ => 1) (hc : CheckAt nm L) (e1 : ((str nm).toList == [101, 99, 104, 111]) = false) (e2 : ((str nm).toList == [102, 97, 108, 115, 101]) = true)
theorem kind_of {nm : Bs} {L : List Bs} (h : RunArgs nm L) : Kind nm L := by
  cases h with
  | cat_ => exact .plain check_cat (by kernel_rfl) (by kernel_rfl)
  | cut_ a b h1 h2 h3 => exact .plain (check_cut a b h1 h2 (by omega)) (by kernel_rfl) (by kernel_rfl)
  | echo_ t h => exact .echo (fun _ => Lib.join [[97], t] [32] ++ [10]) (mean_echo [[97], t] (by simp) (by simp [Lib.join]; omega)) (check_echo [[97], t] (by simp)) (by kernel_rfl) (by simp)
  | false_ => exact .false_ mean_false check_false_ (by kernel_rfl) (by kernel_rfl)
  | grep_ g h h2 => exact .plain (check_grep g h) (by kernel_rfl) (by kernel_rfl)
  | head_ k h => exact .plain (check_head k (by omega)) (by kernel_rfl) (by kernel_rfl)
  | nl_ => exact .plain check_nl (by kernel_rfl) (by kernel_rfl)
  | sort_ => exact .plain check_sort (by kernel_rfl) (by kernel_rfl)
  | tac_ => exact .plain check_tac (by kernel_rfl) (by kernel_rfl)
  | tail_ k h => exact .plain (check_tail k (by omega)) (by kernel_rfl) (by kernel_rfl)
  | tr_ x y => exact .plain (check_tr x y) (by kernel_rfl) (by kernel_rfl)
  | uniq_ => exact .plain check_uniq (by kernel_rfl) (by kernel_rfl)
  | wc_ => exact .plain check_wc (by kernel_rfl) (by kernel_rfl)
/-- A program that reads: one step of it. -/
theorem next_more {w0 w : World} {hp : Nat} {nm : Bs} {L : List Bs} {q : Bool} {inp ds : Bs} {Ad : Option Addr} {nd cd B : Nat} (h : TAt w0 w hp nm L 1 q 0 inp []) (hr : Reads w B 1 Ad nd (bytesV ds)) (hB : B ≤ w.heap.size) (hq : q = true → 0 < nd) (hlen : inp.length + nd ≤ 1024) :
    Calls Tryz.prog 23 #[.pointer (some ⟨hp, 0, none⟩), .agg #[.int .i64 0, .int .i64 0, .int .i64 0, .slice Ad nd cd, .slice none 0 0, .int .i64 0, .int .i64 0, .int .i64 0, .int .i64 0, .int .i64 0, .int .i64 0]] w fun e w' => CallRead e ∧ TAt w0 w' hp nm L 1 true 0 (if q = true then inp ++ ds else inp) [] ∧ KeepX hp false w w' := by
  cases q with
  | false =>
    rw [if_neg (by simp)]
    exact next_f1 h 0 0 Ad nd cd
  | true =>
    rw [if_pos rfl]
    refine next_t1 h 0 0 Ad nd cd fun W hx hT => ?_
    obtain ⟨A, n, c, Ai, mi, ci, Ao, mo, co, hT⟩ := hT
    have hmo : mo = 0 := by have := bytes_len hT.outr; simpa using this.symm
    refine (got_read hT hmo Ad nd cd ds B (hx.reads hr hB) (Nat.le_trans hB hx.size) (hq rfl) hlen).mono ?_
    rintro e w' ⟨rfl, ⟨Ai', ci', h'⟩, hk⟩
    exact ⟨rfl, ⟨_, _, _, _, _, _, _, _, _, h'⟩, hk⟩
theorem next_err {w0 w : World} {hp : Nat} {nm : Bs} {L : List Bs} {d st : Int} {inp out : Bs} (h : TAt w0 w hp nm L d true st inp out) (er : Int) (h9 : er ≠ 9) (h0 : er ≠ 0) :
    Calls Tryz.prog 23 #[.pointer (some ⟨hp, 0, none⟩), .agg #[.int .i64 er, .int .i64 0, .int .i64 0, .slice none 0 0, .slice none 0 0, .int .i64 0, .int .i64 0, .int .i64 0, .int .i64 0, .int .i64 0, .int .i64 0]] w fun e w' => CallExit 2 e ∧ TAt w0 w' hp nm L 3 false 2 inp out ∧ KeepX hp true w w' := by
  refine next_t3 h er 0 none 0 0 fun W hx hT => ?_
  obtain ⟨A, n, c, Ai, mi, ci, Ao, mo, co, hT⟩ := hT
  refine (got_err hT er 0 h9 h0 none 0 0).mono ?_
  rintro e w' ⟨rfl, h', hk⟩
  exact ⟨rfl, ⟨_, _, _, _, _, _, _, _, _, h'⟩, hk⟩
/-- A program that writes, of which nothing is taken: one step of it. -/
theorem next_same {w0 w : World} {hp : Nat} {nm : Bs} {L : List Bs} {q : Bool} {st : Int} {inp out : Bs} (h : TAt w0 w hp nm L 2 q st inp out) (ho : out.length ≠ 0) :
    Calls Tryz.prog 23 #[.pointer (some ⟨hp, 0, none⟩), .agg #[.int .i64 0, .int .i64 0, .int .i64 0, .slice none 0 0, .slice none 0 0, .int .i64 0, .int .i64 0, .int .i64 0, .int .i64 0, .int .i64 0, .int .i64 0]] w fun e w' => CallWrite out e w' ∧ TAt w0 w' hp nm L 2 true st inp out ∧ KeepX hp true w w' := by
  cases q with
  | false => exact next_f2 h 0 0 none 0 0
  | true =>
    refine next_t2 h 0 0 none 0 0 fun W hx hT => ?_
    obtain ⟨A, n, c, Ai, mi, ci, Ao, mo, co, hT⟩ := hT
    refine (got_write hT 0 0 (Nat.zero_min _)).mono ?_
    rintro e w' ⟨rfl, ⟨Ao', mo', co', h'⟩, hk⟩
    rw [List.drop_zero, show doingOf out = 2 from if_neg ho] at h'
    exact ⟨rfl, ⟨_, _, _, _, _, _, _, _, _, h'⟩, hk⟩
theorem other_ne {w : World} {g hp : Nat} {w0 : World} {nm : Bs} {L : List Bs} {d st : Int} {q : Bool} {inp out : Bs} {t : TypeId} {cs : Array Value} (h : TAt w0 w hp nm L d q st inp out) (hb : Blk w g t cs) (ht : t ≠ 80) : g ≠ hp := by
  obtain ⟨_, _, _, _, _, _, _, _, _, h⟩ := h
  exact Blk.ne_ hb h.box ht
/-- Where the rounds of ToolsFail stand: a program that reads. -/
def FailP (w0 : World) (hp ha : Nat) (nm : Bs) (L : List Bs) (k : Nat) (v : Value) (w : World) : Prop :=
  ∃ (j : Nat) (inp ds : Bs) (Ad : Option Addr) (nd cd : Nat), v = .int .i64 (j : Int) ∧ j ≤ k ∧ inp.length ≤ 2 * j ∧ nd ≤ 2 ∧ TAt w0 w hp nm L 1 (decide (0 < j)) 0 inp [] ∧ Blk w ha 55 #[.int .i64 0, .int .i64 0, .int .i64 0, .slice Ad nd cd, .slice none 0 0, .int .i64 0, .int .i64 0, .int .i64 0, .int .i64 0, .int .i64 0, .int .i64 0] ∧ Reads w w.heap.size 1 Ad nd (bytesV ds) ∧ (0 < j → 0 < nd)
theorem two_bytes (W : World) : Reads (W.alloc (.cells #[.int .u8 97, .int .u8 10] 5 (2, 3))) (W.alloc (.cells #[.int .u8 97, .int .u8 10] 5 (2, 3))).heap.size 1 (some ⟨W.heap.size, 0, none⟩) 2 (bytesV [97, 10]) := by
  refine ⟨rfl, fun _ => ⟨_, rfl, by simp, fun j u hu => ?_⟩⟩
  rw [add_lit, Nat.zero_add, cell_of_row _ W.heap.size j _ _ _ (heap_alloc_new W _)]
  simpa [bytesV] using hu
theorem Blk.set7 {w : World} {g : Nat} {t : TypeId} {a0 a1 a2 a3 a4 a5 a6 : Value} (h : Blk w g t #[a0, a1, a2, a3, a4, a5, a6]) (v0 v1 v2 v3 v4 v5 v6 : Value) : Blk (((((((w.setCell ⟨g, 0, none⟩ v0).setCell ⟨g, 1, none⟩ v1).setCell ⟨g, 2, none⟩ v2).setCell ⟨g, 3, none⟩ v3).setCell ⟨g, 4, none⟩ v4).setCell ⟨g, 5, none⟩ v5).setCell ⟨g, 6, none⟩ v6) g t #[v0, v1, v2, v3, v4, v5, v6] := by
  have h0 : Blk (w.setCell ⟨g, 0, none⟩ v0) g t #[v0, a1, a2, a3, a4, a5, a6] := h.set_ 0 v0
  have h1 : Blk ((w.setCell ⟨g, 0, none⟩ v0).setCell ⟨g, 1, none⟩ v1) g t #[v0, v1, a2, a3, a4, a5, a6] := h0.set_ 1 v1
  have h2 : Blk (((w.setCell ⟨g, 0, none⟩ v0).setCell ⟨g, 1, none⟩ v1).setCell ⟨g, 2, none⟩ v2) g t #[v0, v1, v2, a3, a4, a5, a6] := h1.set_ 2 v2
  have h3 : Blk ((((w.setCell ⟨g, 0, none⟩ v0).setCell ⟨g, 1, none⟩ v1).setCell ⟨g, 2, none⟩ v2).setCell ⟨g, 3, none⟩ v3) g t #[v0, v1, v2, v3, a4, a5, a6] := h2.set_ 3 v3
  have h4 : Blk (((((w.setCell ⟨g, 0, none⟩ v0).setCell ⟨g, 1, none⟩ v1).setCell ⟨g, 2, none⟩ v2).setCell ⟨g, 3, none⟩ v3).setCell ⟨g, 4, none⟩ v4) g t #[v0, v1, v2, v3, v4, a5, a6] := h3.set_ 4 v4
  have h5 : Blk ((((((w.setCell ⟨g, 0, none⟩ v0).setCell ⟨g, 1, none⟩ v1).setCell ⟨g, 2, none⟩ v2).setCell ⟨g, 3, none⟩ v3).setCell ⟨g, 4, none⟩ v4).setCell ⟨g, 5, none⟩ v5) g t #[v0, v1, v2, v3, v4, v5, a6] := h4.set_ 5 v5
  have h6 : Blk (((((((w.setCell ⟨g, 0, none⟩ v0).setCell ⟨g, 1, none⟩ v1).setCell ⟨g, 2, none⟩ v2).setCell ⟨g, 3, none⟩ v3).setCell ⟨g, 4, none⟩ v4).setCell ⟨g, 5, none⟩ v5).setCell ⟨g, 6, none⟩ v6) g t #[v0, v1, v2, v3, v4, v5, v6] := h5.set_ 6 v6
  exact h6
theorem KeepX.set7 (g : Nat) (w : World) (v0 v1 v2 v3 v4 v5 v6 : Value) : KeepX g true w (((((((w.setCell ⟨g, 0, none⟩ v0).setCell ⟨g, 1, none⟩ v1).setCell ⟨g, 2, none⟩ v2).setCell ⟨g, 3, none⟩ v3).setCell ⟨g, 4, none⟩ v4).setCell ⟨g, 5, none⟩ v5).setCell ⟨g, 6, none⟩ v6) := by
  have h0 : KeepX g true w (w.setCell ⟨g, 0, none⟩ v0) := KeepX.set g true w 0 v0
  have h1 : KeepX g true w ((w.setCell ⟨g, 0, none⟩ v0).setCell ⟨g, 1, none⟩ v1) := h0.trans (KeepX.set g true _ 1 v1)
  have h2 : KeepX g true w (((w.setCell ⟨g, 0, none⟩ v0).setCell ⟨g, 1, none⟩ v1).setCell ⟨g, 2, none⟩ v2) := h1.trans (KeepX.set g true _ 2 v2)
  have h3 : KeepX g true w ((((w.setCell ⟨g, 0, none⟩ v0).setCell ⟨g, 1, none⟩ v1).setCell ⟨g, 2, none⟩ v2).setCell ⟨g, 3, none⟩ v3) := h2.trans (KeepX.set g true _ 3 v3)
  have h4 : KeepX g true w (((((w.setCell ⟨g, 0, none⟩ v0).setCell ⟨g, 1, none⟩ v1).setCell ⟨g, 2, none⟩ v2).setCell ⟨g, 3, none⟩ v3).setCell ⟨g, 4, none⟩ v4) := h3.trans (KeepX.set g true _ 4 v4)
  have h5 : KeepX g true w ((((((w.setCell ⟨g, 0, none⟩ v0).setCell ⟨g, 1, none⟩ v1).setCell ⟨g, 2, none⟩ v2).setCell ⟨g, 3, none⟩ v3).setCell ⟨g, 4, none⟩ v4).setCell ⟨g, 5, none⟩ v5) := h4.trans (KeepX.set g true _ 5 v5)
  have h6 : KeepX g true w (((((((w.setCell ⟨g, 0, none⟩ v0).setCell ⟨g, 1, none⟩ v1).setCell ⟨g, 2, none⟩ v2).setCell ⟨g, 3, none⟩ v3).setCell ⟨g, 4, none⟩ v4).setCell ⟨g, 5, none⟩ v5).setCell ⟨g, 6, none⟩ v6) := h5.trans (KeepX.set g true _ 6 v6)
  exact h6
theorem Blk.set11 {w : World} {g : Nat} {t : TypeId} {a0 a1 a2 a3 a4 a5 a6 a7 a8 a9 a10 : Value} (h : Blk w g t #[a0, a1, a2, a3, a4, a5, a6, a7, a8, a9, a10]) (v0 v1 v2 v3 v4 v5 v6 v7 v8 v9 v10 : Value) : Blk (((((((((((w.setCell ⟨g, 0, none⟩ v0).setCell ⟨g, 1, none⟩ v1).setCell ⟨g, 2, none⟩ v2).setCell ⟨g, 3, none⟩ v3).setCell ⟨g, 4, none⟩ v4).setCell ⟨g, 5, none⟩ v5).setCell ⟨g, 6, none⟩ v6).setCell ⟨g, 7, none⟩ v7).setCell ⟨g, 8, none⟩ v8).setCell ⟨g, 9, none⟩ v9).setCell ⟨g, 10, none⟩ v10) g t #[v0, v1, v2, v3, v4, v5, v6, v7, v8, v9, v10] := by
  have h0 : Blk (w.setCell ⟨g, 0, none⟩ v0) g t #[v0, a1, a2, a3, a4, a5, a6, a7, a8, a9, a10] := h.set_ 0 v0
  have h1 : Blk ((w.setCell ⟨g, 0, none⟩ v0).setCell ⟨g, 1, none⟩ v1) g t #[v0, v1, a2, a3, a4, a5, a6, a7, a8, a9, a10] := h0.set_ 1 v1
  have h2 : Blk (((w.setCell ⟨g, 0, none⟩ v0).setCell ⟨g, 1, none⟩ v1).setCell ⟨g, 2, none⟩ v2) g t #[v0, v1, v2, a3, a4, a5, a6, a7, a8, a9, a10] := h1.set_ 2 v2
  have h3 : Blk ((((w.setCell ⟨g, 0, none⟩ v0).setCell ⟨g, 1, none⟩ v1).setCell ⟨g, 2, none⟩ v2).setCell ⟨g, 3, none⟩ v3) g t #[v0, v1, v2, v3, a4, a5, a6, a7, a8, a9, a10] := h2.set_ 3 v3
  have h4 : Blk (((((w.setCell ⟨g, 0, none⟩ v0).setCell ⟨g, 1, none⟩ v1).setCell ⟨g, 2, none⟩ v2).setCell ⟨g, 3, none⟩ v3).setCell ⟨g, 4, none⟩ v4) g t #[v0, v1, v2, v3, v4, a5, a6, a7, a8, a9, a10] := h3.set_ 4 v4
  have h5 : Blk ((((((w.setCell ⟨g, 0, none⟩ v0).setCell ⟨g, 1, none⟩ v1).setCell ⟨g, 2, none⟩ v2).setCell ⟨g, 3, none⟩ v3).setCell ⟨g, 4, none⟩ v4).setCell ⟨g, 5, none⟩ v5) g t #[v0, v1, v2, v3, v4, v5, a6, a7, a8, a9, a10] := h4.set_ 5 v5
  have h6 : Blk (((((((w.setCell ⟨g, 0, none⟩ v0).setCell ⟨g, 1, none⟩ v1).setCell ⟨g, 2, none⟩ v2).setCell ⟨g, 3, none⟩ v3).setCell ⟨g, 4, none⟩ v4).setCell ⟨g, 5, none⟩ v5).setCell ⟨g, 6, none⟩ v6) g t #[v0, v1, v2, v3, v4, v5, v6, a7, a8, a9, a10] := h5.set_ 6 v6
  have h7 : Blk ((((((((w.setCell ⟨g, 0, none⟩ v0).setCell ⟨g, 1, none⟩ v1).setCell ⟨g, 2, none⟩ v2).setCell ⟨g, 3, none⟩ v3).setCell ⟨g, 4, none⟩ v4).setCell ⟨g, 5, none⟩ v5).setCell ⟨g, 6, none⟩ v6).setCell ⟨g, 7, none⟩ v7) g t #[v0, v1, v2, v3, v4, v5, v6, v7, a8, a9, a10] := h6.set_ 7 v7
  have h8 : Blk (((((((((w.setCell ⟨g, 0, none⟩ v0).setCell ⟨g, 1, none⟩ v1).setCell ⟨g, 2, none⟩ v2).setCell ⟨g, 3, none⟩ v3).setCell ⟨g, 4, none⟩ v4).setCell ⟨g, 5, none⟩ v5).setCell ⟨g, 6, none⟩ v6).setCell ⟨g, 7, none⟩ v7).setCell ⟨g, 8, none⟩ v8) g t #[v0, v1, v2, v3, v4, v5, v6, v7, v8, a9, a10] := h7.set_ 8 v8
  have h9 : Blk ((((((((((w.setCell ⟨g, 0, none⟩ v0).setCell ⟨g, 1, none⟩ v1).setCell ⟨g, 2, none⟩ v2).setCell ⟨g, 3, none⟩ v3).setCell ⟨g, 4, none⟩ v4).setCell ⟨g, 5, none⟩ v5).setCell ⟨g, 6, none⟩ v6).setCell ⟨g, 7, none⟩ v7).setCell ⟨g, 8, none⟩ v8).setCell ⟨g, 9, none⟩ v9) g t #[v0, v1, v2, v3, v4, v5, v6, v7, v8, v9, a10] := h8.set_ 9 v9
  have h10 : Blk (((((((((((w.setCell ⟨g, 0, none⟩ v0).setCell ⟨g, 1, none⟩ v1).setCell ⟨g, 2, none⟩ v2).setCell ⟨g, 3, none⟩ v3).setCell ⟨g, 4, none⟩ v4).setCell ⟨g, 5, none⟩ v5).setCell ⟨g, 6, none⟩ v6).setCell ⟨g, 7, none⟩ v7).setCell ⟨g, 8, none⟩ v8).setCell ⟨g, 9, none⟩ v9).setCell ⟨g, 10, none⟩ v10) g t #[v0, v1, v2, v3, v4, v5, v6, v7, v8, v9, v10] := h9.set_ 10 v10
  exact h10
theorem KeepX.set11 (g : Nat) (w : World) (v0 v1 v2 v3 v4 v5 v6 v7 v8 v9 v10 : Value) : KeepX g true w (((((((((((w.setCell ⟨g, 0, none⟩ v0).setCell ⟨g, 1, none⟩ v1).setCell ⟨g, 2, none⟩ v2).setCell ⟨g, 3, none⟩ v3).setCell ⟨g, 4, none⟩ v4).setCell ⟨g, 5, none⟩ v5).setCell ⟨g, 6, none⟩ v6).setCell ⟨g, 7, none⟩ v7).setCell ⟨g, 8, none⟩ v8).setCell ⟨g, 9, none⟩ v9).setCell ⟨g, 10, none⟩ v10) := by
  have h0 : KeepX g true w (w.setCell ⟨g, 0, none⟩ v0) := KeepX.set g true w 0 v0
  have h1 : KeepX g true w ((w.setCell ⟨g, 0, none⟩ v0).setCell ⟨g, 1, none⟩ v1) := h0.trans (KeepX.set g true _ 1 v1)
  have h2 : KeepX g true w (((w.setCell ⟨g, 0, none⟩ v0).setCell ⟨g, 1, none⟩ v1).setCell ⟨g, 2, none⟩ v2) := h1.trans (KeepX.set g true _ 2 v2)
  have h3 : KeepX g true w ((((w.setCell ⟨g, 0, none⟩ v0).setCell ⟨g, 1, none⟩ v1).setCell ⟨g, 2, none⟩ v2).setCell ⟨g, 3, none⟩ v3) := h2.trans (KeepX.set g true _ 3 v3)
  have h4 : KeepX g true w (((((w.setCell ⟨g, 0, none⟩ v0).setCell ⟨g, 1, none⟩ v1).setCell ⟨g, 2, none⟩ v2).setCell ⟨g, 3, none⟩ v3).setCell ⟨g, 4, none⟩ v4) := h3.trans (KeepX.set g true _ 4 v4)
  have h5 : KeepX g true w ((((((w.setCell ⟨g, 0, none⟩ v0).setCell ⟨g, 1, none⟩ v1).setCell ⟨g, 2, none⟩ v2).setCell ⟨g, 3, none⟩ v3).setCell ⟨g, 4, none⟩ v4).setCell ⟨g, 5, none⟩ v5) := h4.trans (KeepX.set g true _ 5 v5)
  have h6 : KeepX g true w (((((((w.setCell ⟨g, 0, none⟩ v0).setCell ⟨g, 1, none⟩ v1).setCell ⟨g, 2, none⟩ v2).setCell ⟨g, 3, none⟩ v3).setCell ⟨g, 4, none⟩ v4).setCell ⟨g, 5, none⟩ v5).setCell ⟨g, 6, none⟩ v6) := h5.trans (KeepX.set g true _ 6 v6)
  have h7 : KeepX g true w ((((((((w.setCell ⟨g, 0, none⟩ v0).setCell ⟨g, 1, none⟩ v1).setCell ⟨g, 2, none⟩ v2).setCell ⟨g, 3, none⟩ v3).setCell ⟨g, 4, none⟩ v4).setCell ⟨g, 5, none⟩ v5).setCell ⟨g, 6, none⟩ v6).setCell ⟨g, 7, none⟩ v7) := h6.trans (KeepX.set g true _ 7 v7)
  have h8 : KeepX g true w (((((((((w.setCell ⟨g, 0, none⟩ v0).setCell ⟨g, 1, none⟩ v1).setCell ⟨g, 2, none⟩ v2).setCell ⟨g, 3, none⟩ v3).setCell ⟨g, 4, none⟩ v4).setCell ⟨g, 5, none⟩ v5).setCell ⟨g, 6, none⟩ v6).setCell ⟨g, 7, none⟩ v7).setCell ⟨g, 8, none⟩ v8) := h7.trans (KeepX.set g true _ 8 v8)
  have h9 : KeepX g true w ((((((((((w.setCell ⟨g, 0, none⟩ v0).setCell ⟨g, 1, none⟩ v1).setCell ⟨g, 2, none⟩ v2).setCell ⟨g, 3, none⟩ v3).setCell ⟨g, 4, none⟩ v4).setCell ⟨g, 5, none⟩ v5).setCell ⟨g, 6, none⟩ v6).setCell ⟨g, 7, none⟩ v7).setCell ⟨g, 8, none⟩ v8).setCell ⟨g, 9, none⟩ v9) := h8.trans (KeepX.set g true _ 9 v9)
  have h10 : KeepX g true w (((((((((((w.setCell ⟨g, 0, none⟩ v0).setCell ⟨g, 1, none⟩ v1).setCell ⟨g, 2, none⟩ v2).setCell ⟨g, 3, none⟩ v3).setCell ⟨g, 4, none⟩ v4).setCell ⟨g, 5, none⟩ v5).setCell ⟨g, 6, none⟩ v6).setCell ⟨g, 7, none⟩ v7).setCell ⟨g, 8, none⟩ v8).setCell ⟨g, 9, none⟩ v9).setCell ⟨g, 10, none⟩ v10) := h9.trans (KeepX.set g true _ 10 v10)
  exact h10
/-- The same: the program that does nothing. -/
def FailF (w0 : World) (hp ha : Nat) (nm : Bs) (L : List Bs) (v : Value) (w : World) : Prop :=
  v = .int .i64 0 ∧ TAt w0 w hp nm L 3 false 1 [] [] ∧ Blk w ha 55 #[.int .i64 0, .int .i64 0, .int .i64 0, .slice none 0 0, .slice none 0 0, .int .i64 0, .int .i64 0, .int .i64 0, .int .i64 0, .int .i64 0, .int .i64 0]
theorem TAt.ext {w0 w : World} {hp : Nat} {nm : Bs} {L : List Bs} {d st : Int} {q : Bool} {inp out : Bs} (h : TAt w0 w hp nm L d q st inp out) : Ext w0 w := by
  obtain ⟨_, _, _, _, _, _, _, _, _, h⟩ := h
  exact h.ext
theorem ans_nob {er a0 : Int} {A : Option Addr} {n c : Nat} : ∀ (i : Nat) (x : Int), (#[.int .i64 er, .int .i64 a0, .int .i64 0, .slice A n c, .slice none 0 0, .int .i64 0, .int .i64 0, .int .i64 0, .int .i64 0, .int .i64 0, .int .i64 0] : Array Value)[i]? ≠ some (.int .u8 x) := by
  intro i x h
  match i, h with
  | 0, h => simp at h
  | 1, h => simp at h
  | 2, h => simp at h
  | 3, h => simp at h
  | 4, h => simp at h
  | 5, h => simp at h
  | 6, h => simp at h
  | 7, h => simp at h
  | 8, h => simp at h
  | 9, h => simp at h
  | 10, h => simp at h
  | i + 11, h => simp at h
/-- A store into another block: the program stays. -/
theorem TAt.far {w0 w w' : World} {hp g : Nat} {nm : Bs} {L : List Bs} {d : Int} {q : Bool} {st : Int} {inp out : Bs} {t : TypeId} {cs : Array Value} (h : TAt w0 w hp nm L d q st inp out) (hk : KeepX g true w w') (hb : Blk w g t cs) (hc : ∀ (i : Nat) (x : Int), cs[i]? ≠ some (.int .u8 x)) (ht : t ≠ 80 ∧ t ≠ 9 ∧ t ≠ 5) (hg : w0.heap.size ≤ g) : TAt w0 w' hp nm L d q st inp out := by
  have hne := other_ne h hb ht.1
  obtain ⟨A, n, c, Ai, mi, ci, Ao, mo, co, h⟩ := h
  exact ⟨A, n, c, Ai, mi, ci, Ao, mo, co, hk.blk h.box (Ne.symm hne) (.inl rfl), h.ge, hk.ext (u := true) h.ext hg, hk.own h.args (own_blk_ne h.args hb (Ne.symm ht.2.1)) (.inl rfl), hk.own h.inn (own_blk_ne h.inn hb (Ne.symm ht.2.2)) (.inl rfl), hk.bytes h.outr hb hc, h.oc⟩
/-- The same: a program that writes. -/
def FailE (w0 : World) (hp ha : Nat) (nm : Bs) (L : List Bs) (k : Nat) (o : Bs) (v : Value) (w : World) : Prop :=
  ∃ (j : Nat) (q : Bool), v = .int .i64 (j : Int) ∧ j ≤ k ∧ TAt w0 w hp nm L 2 q 0 [] o ∧ Blk w ha 55 #[.int .i64 0, .int .i64 0, .int .i64 0, .slice none 0 0, .slice none 0 0, .int .i64 0, .int .i64 0, .int .i64 0, .int .i64 0, .int .i64 0, .int .i64 0]
set_option maxHeartbeats 8000000 in
set_option maxRecDepth 100000 in
theorem fail_walk (x a b z1 z2 : Int) (s : Bs) (w : World) (bx : -9223372036854775808 ≤ x ∧ x ≤ 9223372036854775807) (ba : -9223372036854775808 ≤ a ∧ a ≤ 9223372036854775807) (bb : -9223372036854775808 ≤ b ∧ b ≤ 9223372036854775807) (hs : (str s).size ≤ 9223372036854775807) (b1 : -9223372036854775808 ≤ z1 ∧ z1 ≤ 9223372036854775807) (b2 : -9223372036854775808 ≤ z2 ∧ z2 ≤ 9223372036854775807) (hL : LibOk w) :
    Calls Tryz.prog 7 #[.agg #[.int .i64 x, .int .i64 a, .int .i64 b, .string (str s)], .int .i64 z1, .int .i64 z2] w fun e w' => e = .returned (.bool true) ∧ Ext w w' := by
  have HAR := hide (fun W => args_any x a b s W bx ba bb hs)
  have HR1 := hide (fun W => rest_any z1 20 W b1.1 b1.2 (by omega) (by omega))
  have HR2 := hide (fun W => rest_any z2 4 W b2.1 b2.2 (by omega) (by omega))
  have hr0 := restZ_lo z1 20 (by omega)
  have hr1 := restZ_hi z1 20 (by omega)
  generalize restZ z1 20 = r1 at *
  obtain ⟨k, hk, hk3⟩ : ∃ k : Nat, restZ z2 4 = (k : Int) ∧ k ≤ 3 := ⟨(restZ z2 4).toNat, by have := restZ_lo z2 4 (by omega); omega, by have := restZ_lo z2 4 (by omega); have := restZ_hi z2 4 (by omega); omega⟩
  rw [hk] at HR2
  clear hk bx ba bb b1 b2 hs
  have HLL := hide hL
  have HBR := hide (Blk.new w 38 #[.int .i64 x, .int .i64 a, .int .i64 b, .string (str s)])
  have HXR := hide ((Ext.refl w).alloc (.cells #[.int .i64 x, .int .i64 a, .int .i64 b, .string (str s)] 38))
  clear hL
  generalize str s = S at *
  go_enter Tryz.func7, Tryz.ntmps7
  go_upto_region 1 with fail
  obtain ⟨W, hW⟩ : ∃ W, W = w.alloc (.cells #[.int .i64 x, .int .i64 a, .int .i64 b, .string S] 38) := ⟨_, rfl⟩
  rw [← hW] at HBR HXR ⊢
  clear hW
  have r0 : W.cell? ⟨w.heap.size, 0, none⟩ = some (.int .i64 x) := HBR.out.cell 0
  have r1' : W.cell? ⟨w.heap.size, 1, none⟩ = some (.int .i64 a) := HBR.out.cell 1
  have r2 : W.cell? ⟨w.heap.size, 2, none⟩ = some (.int .i64 b) := HBR.out.cell 2
  have r3 : W.cell? ⟨w.heap.size, 3, none⟩ = some (.string S) := HBR.out.cell 3
  go_wp2_with fail
  refine (HAR.out W).mono ?_
  rintro e w1 ⟨nm, L, A, n, c, rfl, hra, hnc, hc2, hrd, hx1⟩
  clear r0 r1' r2 r3 HBR HAR
  have HK := kind_of hra
  have HX1 := hide (HXR.out.trans hx1)
  have HRD := hide hrd
  clear hra hrd hx1 HXR
  have hn2 : n ≤ 1000000 := by omega
  generalize hN : str nm = N
  have HN := hide hN
  clear hN
  rcases HK with ⟨hc, e1, e2⟩ | ⟨f, hm, hc, e1, hf⟩ | ⟨hm, hc, e1, e2⟩
  · have HST := hide (start_plain hc e1 e2 A n c w1.heap.size w1 (HLL.out.ext HX1.out) HRD.out (Nat.le_refl _) hnc hn2)
    rw [HN.out] at HST
    go_wp2_with fail
    refine HST.out.mono ?_
    rintro e w2 ⟨hp, A', c', rfl, h1⟩
    have HG2 := hide (show w1.heap.size ≤ w2.heap.size from h1.ext.size)
    have HT := hide (show TAt w1 w2 hp nm L 1 false 0 [] [] from ⟨_, _, _, _, _, _, _, _, _, h1⟩)
    clear h1 HST hc e1 e2 HRD HLL
    go_wp2_with fail
    refine (HR1.out w2).mono ?_
    rintro e w3 ⟨rfl, rfl⟩
    go_upto_region 6 with fail
    generalize hy : 1 + r1 = y
    go_upto_if 32 with fail
    obtain ⟨er, her, h9, h0⟩ : ∃ er : Int, (if y = 9 then 10 else y) = er ∧ er ≠ 9 ∧ er ≠ 0 := ⟨_, rfl, by split <;> omega, by split <;> omega⟩
    go_cut [1] (fun v wx => v = .int .i64 er ∧ w2 = wx)
    case first =>
      by_cases h8 : y = 9
      · rw [if_pos h8] at her
        have her2 := hide her
        clear her h9 h0 hy
        subst h8
        go_wp2_with fail
        go_meet
        exact ⟨by rw [← her2.out], rfl⟩
      · have t1 : (y == 9) = false := beq_eq_false_iff_ne.2 h8
        rw [if_neg h8] at her
        have her2 := hide her
        clear her h9 h0 hy
        go_wp2_with fail
        go_meet
        exact ⟨by rw [← her2.out], rfl⟩
    case rest =>
      obtain ⟨rfl, rfl⟩ := hcut
      have H9 := hide h9
      have H0 := hide h0
      clear her h9 h0 hy
      have HB3 := hide (Blk.new w2 55 #[.int .i64 0, .int .i64 0, .int .i64 0, .slice none 0 0, .slice none 0 0, .int .i64 0, .int .i64 0, .int .i64 0, .int .i64 0, .int .i64 0, .int .i64 0])
      have HT3 := hide (HT.out.more ((Ext.refl w2).alloc (.cells #[.int .i64 0, .int .i64 0, .int .i64 0, .slice none 0 0, .slice none 0 0, .int .i64 0, .int .i64 0, .int .i64 0, .int .i64 0, .int .i64 0, .int .i64 0] 55)))
      clear HT
      go_wp2_with fail
      generalize World.alloc _ _ = W3 at *
      generalize w2.heap.size = ha at *
      refine (HR2.out W3).mono ?_
      rintro e w4 ⟨rfl, rfl⟩
      go_wp2_with fail
      go_loopw [37] (FailP w1 hp ha nm L k) (fun v _ => k - (intOf v).toNat)
      case atStart => exact ⟨0, [], [], none, 0, 0, rfl, Nat.zero_le _, Nat.le_refl _, by omega, HT3.out, HB3.out, ⟨rfl, fun h => absurd h (by omega)⟩, fun h => absurd h (by omega)⟩
      case round =>
        obtain ⟨j, inp, ds, Ad, nd, cd, rfl, hj, hil, hnd2, ht, hba, hrd, hnd⟩ := hrel
        have HNX := hide (next_more (cd := cd) ht hrd (Nat.le_refl _) (fun hq => hnd (of_decide_eq_true hq)) (by omega))
        have hil2 : (if decide (0 < j) = true then inp ++ ds else inp).length ≤ 2 * (j + 1) := by
          split
          · rw [List.length_append, bytes_len hrd]; omega
          · omega
        generalize (if decide (0 < j) = true then inp ++ ds else inp) = inp2 at *
        clear hrd hnd
        have HBA := hide hba
        have hne := other_ne ht hba (by decide)
        have hg1 : w1.heap.size ≤ ha := by have := HG2.out; omega
        clear ht hba
        have a0 := HBA.out.cell 0
        have a1 := HBA.out.cell 1
        have a2 := HBA.out.cell 2
        have a3 := HBA.out.cell 3
        have a4 := HBA.out.cell 4
        have a5 := HBA.out.cell 5
        have a6 := HBA.out.cell 6
        have a7 := HBA.out.cell 7
        have a8 := HBA.out.cell 8
        have a9 := HBA.out.cell 9
        have a10 := HBA.out.cell 10
        simp only [List.getElem?_toArray, List.getElem?_cons_zero, List.getElem?_cons_succ] at a0 a1 a2 a3 a4 a5 a6 a7 a8 a9 a10
        by_cases hlt : j < k
        · go_wp2_with fail
          refine HNX.out.mono ?_
          rintro e w5 ⟨he, ht5, hk5⟩
          obtain rfl := he
          have HT5 := hide ht5
          have HB5 := hide (hk5.blk HBA.out hne (.inr (by decide)))
          clear ht5 hk5 HBA a0 a1 a2 a3 a4 a5 a6 a7 a8 a9 a10
          go_upto_region 12 with fail
          generalize hW6 : World.alloc _ _ = W6
          have HX56 := hide (show Ext w5 W6 from by rw [← hW6]; ((repeat (first | with_reducible exact Ext.refl _ | with_reducible assumption | with_reducible refine Ext.alloc ?_ _ | with_reducible refine Ext.drew ?_ | with_reducible refine Ext.drewN ?_ _ | with_reducible refine Ext.setCell ?_ (by first | exact Nat.le_refl _ | assumption | (simp; done) | omega) _ | with_reducible refine Ext.trans ?_ (by with_reducible assumption))); done))
          have HBC := hide (show Blk W6 w5.heap.size 57 #[.int .i64 7, .int .i64 0, .int .i64 0, .int .i64 32, .string ⟨#[]⟩, .string ⟨#[]⟩, .slice none 0 0] from by rw [← hW6]; exact Blk.new _ _ _)
          have HB6 := hide (HB5.out.ext HX56.out)
          have HT6 := hide (HT5.out.more HX56.out)
          have hga : ha ≠ w5.heap.size := by have := HB5.out.lt; omega
          have hgc : w1.heap.size ≤ w5.heap.size := by have := HB5.out.lt; omega
          clear hW6 HX56 HT5 HB5
          generalize w5.heap.size = gc at *
          have f0 := HB6.out.frozen 0
          have f1 := HB6.out.frozen 1
          have f2 := HB6.out.frozen 2
          have f3 := HB6.out.frozen 3
          have f4 := HB6.out.frozen 4
          have f5 := HB6.out.frozen 5
          have f6 := HB6.out.frozen 6
          have f7 := HB6.out.frozen 7
          have f8 := HB6.out.frozen 8
          have f9 := HB6.out.frozen 9
          have f10 := HB6.out.frozen 10
          have k0 := HB6.out.cell 0
          have k1 := HB6.out.cell 1
          have k2 := HB6.out.cell 2
          have k3 := HB6.out.cell 3
          have k4 := HB6.out.cell 4
          have k5 := HB6.out.cell 5
          have k6 := HB6.out.cell 6
          have k7 := HB6.out.cell 7
          have k8 := HB6.out.cell 8
          have k9 := HB6.out.cell 9
          have k10 := HB6.out.cell 10
          simp only [List.getElem?_toArray, List.getElem?_cons_zero, List.getElem?_cons_succ] at k0 k1 k2 k3 k4 k5 k6 k7 k8 k9 k10
          go_upto_region 13 with fail
          generalize hW7 : World.setCell _ _ _ = W7 at *
          have HK7 := hide (show KeepX ha true W6 W7 from by rw [← hW7]; exact KeepX.set11 ha W6 _ _ _ _ _ _ _ _ _ _ _)
          have HB7 := hide (show Blk W7 ha 55 #[.int .i64 0, .int .i64 0, .int .i64 0, .slice none 0 0, .slice none 0 0, .int .i64 0, .int .i64 0, .int .i64 0, .int .i64 0, .int .i64 0, .int .i64 0] from by rw [← hW7]; exact Blk.set11 HB6.out _ _ _ _ _ _ _ _ _ _ _)
          have HC7 := hide (HK7.out.blk HBC.out (Ne.symm hga) (.inl rfl))
          have HT7 := hide (HT6.out.far HK7.out HB6.out ans_nob (by decide) hg1)
          clear hW7 HK7 HB6 HBC HT6 f0 f1 f2 f3 f4 f5 f6 f7 f8 f9 f10 k0 k1 k2 k3 k4 k5 k6 k7 k8 k9 k10
          have n0 := HC7.out.cell 0
          simp only [List.getElem?_toArray, List.getElem?_cons_zero] at n0
          have f3 := HB7.out.frozen 3
          have f1 := HB7.out.frozen 1
          have k3 : W7.cell? ⟨ha, 3, none⟩ = some (.slice none 0 0) := HB7.out.cell 3
          have k1 : W7.cell? ⟨ha, 1, none⟩ = some (.int .i64 0) := HB7.out.cell 1
          have hkc := Lib.run_convert_bytes_const (P := Tryz.prog) W7 22 5 #[.int .u8 97, .int .u8 10] 2 2 Tryz.underlying22 Tryz.underlying5
          have hsz : (#[Value.int .u8 97, .int .u8 10] : Array Value).size = 2 := rfl
          rw [hsz] at hkc
          have HBA7 := hide (HB7.out.alloc (.cells #[.int .u8 97, .int .u8 10] 5 (2, 3)))
          have HTA7 := hide (HT7.out.more ((Ext.refl W7).alloc (.cells #[.int .u8 97, .int .u8 10] 5 (2, 3))))
          have HCA7 := hide (HC7.out.alloc (.cells #[.int .u8 97, .int .u8 10] 5 (2, 3)))
          have HR7 := hide (two_bytes W7)
          have f3 := HBA7.out.frozen 3
          have k3 : (W7.alloc (.cells #[.int .u8 97, .int .u8 10] 5 (2, 3))).cell? ⟨ha, 3, none⟩ = some (.slice none 0 0) := HBA7.out.cell 3
          have hgd : ha ≠ W7.heap.size := by have := HB7.out.lt; omega
          go_upto_region 15 with fail
          generalize hW8 : World.setCell _ _ _ = W8 at *
          have HB8 := hide (show Blk W8 ha 55 (#[.int .i64 0, .int .i64 0, .int .i64 0, .slice (some ⟨W7.heap.size, 0, none⟩) 2 2, .slice none 0 0, .int .i64 0, .int .i64 0, .int .i64 0, .int .i64 0, .int .i64 0, .int .i64 0]) from by rw [← hW8]; exact HBA7.out.set_ 3 _)
          have HK8 := hide (show KeepX ha true (W7.alloc (.cells #[.int .u8 97, .int .u8 10] 5 (2, 3))) W8 from by rw [← hW8]; exact KeepX.set ha true _ 3 _)
          have HC8 := hide (HK8.out.blk HCA7.out (Ne.symm hga) (.inl rfl))
          have HT8 := hide (HTA7.out.far HK8.out HBA7.out ans_nob (by decide) hg1)
          have HR8 := hide (HK8.out.bytes HR7.out HBA7.out ans_nob)
          clear hW8 HK8 HBA7 HTA7 HCA7 HR7 HB7 HT7 HC7 n0 f1 f3 k1 k3 hkc hgd
          have n0 := HC8.out.cell 0
          simp only [List.getElem?_toArray, List.getElem?_cons_zero] at n0
          go_wp2_with fail
          go_roundw
          case rel => exact ⟨j + 1, inp2, [97, 10], _, 2, 2, by first | rfl | go_num, by omega, hil2, by omega, by rw [decide_eq_true (show 0 < j + 1 by omega)]; exact HT8.out, HB8.out, HR8.out, fun _ => by omega⟩
          case measure => simp [intOf]; omega
        · obtain rfl : j = k := by omega
          go_wp2_with fail
          refine HNX.out.mono ?_
          rintro e w5 ⟨he, ht5, hk5⟩
          obtain rfl := he
          have HT5 := hide ht5
          have HB5 := hide (hk5.blk HBA.out hne (.inr (by decide)))
          clear ht5 hk5 HBA a0 a1 a2 a3 a4 a5 a6 a7 a8 a9 a10
          go_upto_region 21 with fail
          generalize hW6 : World.alloc _ _ = W6
          have HX56 := hide (show Ext w5 W6 from by rw [← hW6]; ((repeat (first | with_reducible exact Ext.refl _ | with_reducible assumption | with_reducible refine Ext.alloc ?_ _ | with_reducible refine Ext.drew ?_ | with_reducible refine Ext.drewN ?_ _ | with_reducible refine Ext.setCell ?_ (by first | exact Nat.le_refl _ | assumption | (simp; done) | omega) _ | with_reducible refine Ext.trans ?_ (by with_reducible assumption))); done))
          have HBC := hide (show Blk W6 w5.heap.size 57 #[.int .i64 7, .int .i64 0, .int .i64 0, .int .i64 32, .string ⟨#[]⟩, .string ⟨#[]⟩, .slice none 0 0] from by rw [← hW6]; exact Blk.new _ _ _)
          have HB6 := hide (HB5.out.ext HX56.out)
          have HT6 := hide (HT5.out.more HX56.out)
          have hga : ha ≠ w5.heap.size := by have := HB5.out.lt; omega
          have hgc : w1.heap.size ≤ w5.heap.size := by have := HB5.out.lt; omega
          clear hW6 HX56 HT5 HB5
          generalize w5.heap.size = gc at *
          have n0 := HBC.out.cell 0
          simp only [List.getElem?_toArray, List.getElem?_cons_zero] at n0
          go_wp2_with fail
          refine (next_err HT6.out er H9.out H0.out).mono ?_
          rintro e w8 ⟨he, ht8, hk8⟩
          obtain rfl := he
          have HT8 := hide ht8
          have HB8 := hide (hk8.blk HBC.out (other_ne HT6.out HBC.out (by decide)) (.inl rfl))
          clear ht8 hk8 HBC HT6 HB6 n0
          have f0 := HB8.out.frozen 0
          have f1 := HB8.out.frozen 1
          have f2 := HB8.out.frozen 2
          have f3 := HB8.out.frozen 3
          have f4 := HB8.out.frozen 4
          have f5 := HB8.out.frozen 5
          have f6 := HB8.out.frozen 6
          have k0 := HB8.out.cell 0
          have k1 := HB8.out.cell 1
          have k2 := HB8.out.cell 2
          have k3 := HB8.out.cell 3
          have k4 := HB8.out.cell 4
          have k5 := HB8.out.cell 5
          have k6 := HB8.out.cell 6
          simp only [List.getElem?_toArray, List.getElem?_cons_zero, List.getElem?_cons_succ] at k0 k1 k2 k3 k4 k5 k6
          go_upto_region 24 with fail
          generalize hW9 : World.setCell _ _ _ = W9 at *
          have HB9 := hide (show Blk W9 gc 57 #[.int .i64 1, .int .i64 2, .int .i64 0, .int .i64 0, .string ⟨#[]⟩, .string ⟨#[]⟩, .slice none 0 0] from by rw [← hW9]; exact Blk.set7 HB8.out _ _ _ _ _ _ _)
          have HK9 := hide (show KeepX gc true w8 W9 from by rw [← hW9]; exact KeepX.set7 gc w8 _ _ _ _ _ _ _)
          have HT9 := hide (HT8.out.far HK9.out HB8.out call_nob (by decide) hgc)
          clear hW9 HK9 HB8 HT8 f0 f1 f2 f3 f4 f5 f6 k0 k1 k2 k3 k4 k5 k6
          go_wp2_with fail
          refine (next_f3 (u := true) HT9.out 0 0 none 0 0).mono ?_
          rintro e w10 ⟨he, ht10, hk10⟩
          obtain rfl := he
          have HT10 := hide ht10
          have HB10 := hide (hk10.blk HB9.out (other_ne HT9.out HB9.out (by decide)) (.inl rfl))
          clear ht10 hk10 HT9 HB9
          go_upto_region 25 with fail
          generalize hW11 : World.alloc _ _ = W11
          have HX11 := hide (show Ext w10 W11 from by rw [← hW11]; ((repeat (first | with_reducible exact Ext.refl _ | with_reducible assumption | with_reducible refine Ext.alloc ?_ _ | with_reducible refine Ext.drew ?_ | with_reducible refine Ext.drewN ?_ _ | with_reducible refine Ext.setCell ?_ (by first | exact Nat.le_refl _ | assumption | (simp; done) | omega) _ | with_reducible refine Ext.trans ?_ (by with_reducible assumption))); done))
          have HD11 := hide (show Blk W11 w10.heap.size 57 #[.int .i64 1, .int .i64 2, .int .i64 0, .int .i64 0, .string ⟨#[]⟩, .string ⟨#[]⟩, .slice none 0 0] from by rw [← hW11]; exact Blk.new _ _ _)
          have HB11 := hide (HB10.out.ext HX11.out)
          have HE11 := hide (HX1.out.trans (HT10.out.ext.trans HX11.out))
          clear hW11 HX11 HT10 HB10
          generalize w10.heap.size = gd at *
          have p0 := HB11.out.cell 0
          have p1 := HB11.out.cell 1
          have q0 := HD11.out.cell 0
          have q1 := HD11.out.cell 1
          simp only [List.getElem?_toArray, List.getElem?_cons_zero, List.getElem?_cons_succ] at p0 p1 q0 q1
          go_wp2_with fail
          go_ret
          exact ⟨rfl, HE11.out⟩
  · have HST := hide (start_early hm hc (.inl e1) A n c w1.heap.size w1 (HLL.out.ext HX1.out) HRD.out (Nat.le_refl _) hnc hn2)
    rw [HN.out] at HST
    go_wp2_with fail
    refine HST.out.mono ?_
    rintro e w2 ⟨hp, A', c', Ao, mo, co, rfl, h1⟩
    have HG2 := hide (show w1.heap.size ≤ w2.heap.size from h1.ext.size)
    rw [show doingOf (f []) = 2 from if_neg hf] at h1
    have HT := hide (show TAt w1 w2 hp nm L 2 false 0 [] (f []) from ⟨_, _, _, _, _, _, _, _, _, h1⟩)
    have HF := hide hf
    generalize f [] = o at *
    clear hf
    clear h1 HST hc e1 hm HRD HLL
    go_wp2_with fail
    refine (HR1.out w2).mono ?_
    rintro e w3 ⟨rfl, rfl⟩
    go_upto_region 6 with fail
    generalize hy : 1 + r1 = y
    go_upto_if 32 with fail
    obtain ⟨er, her, h9, h0⟩ : ∃ er : Int, (if y = 9 then 10 else y) = er ∧ er ≠ 9 ∧ er ≠ 0 := ⟨_, rfl, by split <;> omega, by split <;> omega⟩
    go_cut [1] (fun v wx => v = .int .i64 er ∧ w2 = wx)
    case first =>
      by_cases h8 : y = 9
      · rw [if_pos h8] at her
        have her2 := hide her
        clear her h9 h0 hy
        subst h8
        go_wp2_with fail
        go_meet
        exact ⟨by rw [← her2.out], rfl⟩
      · have t1 : (y == 9) = false := beq_eq_false_iff_ne.2 h8
        rw [if_neg h8] at her
        have her2 := hide her
        clear her h9 h0 hy
        go_wp2_with fail
        go_meet
        exact ⟨by rw [← her2.out], rfl⟩
    case rest =>
      obtain ⟨rfl, rfl⟩ := hcut
      have H9 := hide h9
      have H0 := hide h0
      clear her h9 h0 hy
      have HB3 := hide (Blk.new w2 55 #[.int .i64 0, .int .i64 0, .int .i64 0, .slice none 0 0, .slice none 0 0, .int .i64 0, .int .i64 0, .int .i64 0, .int .i64 0, .int .i64 0, .int .i64 0])
      have HT3 := hide (HT.out.more ((Ext.refl w2).alloc (.cells #[.int .i64 0, .int .i64 0, .int .i64 0, .slice none 0 0, .slice none 0 0, .int .i64 0, .int .i64 0, .int .i64 0, .int .i64 0, .int .i64 0, .int .i64 0] 55)))
      clear HT
      go_wp2_with fail
      generalize World.alloc _ _ = W3 at *
      generalize w2.heap.size = ha at *
      refine (HR2.out W3).mono ?_
      rintro e w4 ⟨rfl, rfl⟩
      go_wp2_with fail
      go_loopw [37] (FailE w1 hp ha nm L k o) (fun v _ => k - (intOf v).toNat)
      case atStart => exact ⟨0, false, rfl, Nat.zero_le _, HT3.out, HB3.out⟩
      case round =>
        obtain ⟨j, q, rfl, hj, ht, hba⟩ := hrel
        have HNX := hide (next_same ht HF.out)
        have HBA := hide hba
        have hne := other_ne ht hba (by decide)
        have hg1 : w1.heap.size ≤ ha := by have := HG2.out; omega
        clear ht hba
        have a0 := HBA.out.cell 0
        have a1 := HBA.out.cell 1
        have a2 := HBA.out.cell 2
        have a3 := HBA.out.cell 3
        have a4 := HBA.out.cell 4
        have a5 := HBA.out.cell 5
        have a6 := HBA.out.cell 6
        have a7 := HBA.out.cell 7
        have a8 := HBA.out.cell 8
        have a9 := HBA.out.cell 9
        have a10 := HBA.out.cell 10
        simp only [List.getElem?_toArray, List.getElem?_cons_zero, List.getElem?_cons_succ] at a0 a1 a2 a3 a4 a5 a6 a7 a8 a9 a10
        by_cases hlt : j < k
        · go_wp2_with fail
          refine HNX.out.mono ?_
          rintro e w5 ⟨⟨Aw, mw, cw, hmw, hmc, hcm, he, -⟩, ht5, hk5⟩
          obtain rfl := he
          clear hmw hmc hcm
          have HT5 := hide ht5
          have HB5 := hide (hk5.blk HBA.out hne (.inr (by decide)))
          clear ht5 hk5 HBA a0 a1 a2 a3 a4 a5 a6 a7 a8 a9 a10
          go_upto_region 12 with fail
          generalize hW6 : World.alloc _ _ = W6
          have HX56 := hide (show Ext w5 W6 from by rw [← hW6]; ((repeat (first | with_reducible exact Ext.refl _ | with_reducible assumption | with_reducible refine Ext.alloc ?_ _ | with_reducible refine Ext.drew ?_ | with_reducible refine Ext.drewN ?_ _ | with_reducible refine Ext.setCell ?_ (by first | exact Nat.le_refl _ | assumption | (simp; done) | omega) _ | with_reducible refine Ext.trans ?_ (by with_reducible assumption))); done))
          have HBC := hide (show Blk W6 w5.heap.size 57 #[.int .i64 8, .int .i64 1, .int .i64 0, .int .i64 (mw : Int), .string ⟨#[]⟩, .string ⟨#[]⟩, .slice Aw mw cw] from by rw [← hW6]; exact Blk.new _ _ _)
          have HB6 := hide (HB5.out.ext HX56.out)
          have HT6 := hide (HT5.out.more HX56.out)
          have hga : ha ≠ w5.heap.size := by have := HB5.out.lt; omega
          have hgc : w1.heap.size ≤ w5.heap.size := by have := HB5.out.lt; omega
          clear hW6 HX56 HT5 HB5
          generalize w5.heap.size = gc at *
          have f0 := HB6.out.frozen 0
          have f1 := HB6.out.frozen 1
          have f2 := HB6.out.frozen 2
          have f3 := HB6.out.frozen 3
          have f4 := HB6.out.frozen 4
          have f5 := HB6.out.frozen 5
          have f6 := HB6.out.frozen 6
          have f7 := HB6.out.frozen 7
          have f8 := HB6.out.frozen 8
          have f9 := HB6.out.frozen 9
          have f10 := HB6.out.frozen 10
          have k0 := HB6.out.cell 0
          have k1 := HB6.out.cell 1
          have k2 := HB6.out.cell 2
          have k3 := HB6.out.cell 3
          have k4 := HB6.out.cell 4
          have k5 := HB6.out.cell 5
          have k6 := HB6.out.cell 6
          have k7 := HB6.out.cell 7
          have k8 := HB6.out.cell 8
          have k9 := HB6.out.cell 9
          have k10 := HB6.out.cell 10
          simp only [List.getElem?_toArray, List.getElem?_cons_zero, List.getElem?_cons_succ] at k0 k1 k2 k3 k4 k5 k6 k7 k8 k9 k10
          go_upto_region 13 with fail
          generalize hW7 : World.setCell _ _ _ = W7 at *
          have HK7 := hide (show KeepX ha true W6 W7 from by rw [← hW7]; exact KeepX.set11 ha W6 _ _ _ _ _ _ _ _ _ _ _)
          have HB7 := hide (show Blk W7 ha 55 #[.int .i64 0, .int .i64 0, .int .i64 0, .slice none 0 0, .slice none 0 0, .int .i64 0, .int .i64 0, .int .i64 0, .int .i64 0, .int .i64 0, .int .i64 0] from by rw [← hW7]; exact Blk.set11 HB6.out _ _ _ _ _ _ _ _ _ _ _)
          have HC7 := hide (HK7.out.blk HBC.out (Ne.symm hga) (.inl rfl))
          have HT7 := hide (HT6.out.far HK7.out HB6.out ans_nob (by decide) hg1)
          clear hW7 HK7 HB6 HBC HT6 f0 f1 f2 f3 f4 f5 f6 f7 f8 f9 f10 k0 k1 k2 k3 k4 k5 k6 k7 k8 k9 k10
          have n0 := HC7.out.cell 0
          simp only [List.getElem?_toArray, List.getElem?_cons_zero] at n0
          have f3 := HB7.out.frozen 3
          have f1 := HB7.out.frozen 1
          have k3 : W7.cell? ⟨ha, 3, none⟩ = some (.slice none 0 0) := HB7.out.cell 3
          have k1 : W7.cell? ⟨ha, 1, none⟩ = some (.int .i64 0) := HB7.out.cell 1
          go_upto_region 19 with fail
          generalize hW8 : World.setCell _ _ _ = W8 at *
          have HB8 := hide (show Blk W8 ha 55 #[.int .i64 0, .int .i64 0, .int .i64 0, .slice none 0 0, .slice none 0 0, .int .i64 0, .int .i64 0, .int .i64 0, .int .i64 0, .int .i64 0, .int .i64 0] from by rw [← hW8]; exact HB7.out.set_ 1 _)
          have HK8 := hide (show KeepX ha true W7 W8 from by rw [← hW8]; exact KeepX.set ha true _ 1 _)
          have HT8 := hide (HT7.out.far HK8.out HB7.out ans_nob (by decide) hg1)
          clear hW8 HK8 HB7 HT7 HC7 n0 f1 f3 k1 k3
          go_wp2_with fail
          go_roundw
          case rel => exact ⟨j + 1, true, by first | rfl | go_num, by omega, HT8.out, HB8.out⟩
          case measure => simp [intOf]; omega
        · obtain rfl : j = k := by omega
          go_wp2_with fail
          refine HNX.out.mono ?_
          rintro e w5 ⟨⟨Aw, mw, cw, hmw, hmc, hcm, he, -⟩, ht5, hk5⟩
          obtain rfl := he
          clear hmw hmc hcm
          have HT5 := hide ht5
          have HB5 := hide (hk5.blk HBA.out hne (.inr (by decide)))
          clear ht5 hk5 HBA a0 a1 a2 a3 a4 a5 a6 a7 a8 a9 a10
          go_upto_region 21 with fail
          generalize hW6 : World.alloc _ _ = W6
          have HX56 := hide (show Ext w5 W6 from by rw [← hW6]; ((repeat (first | with_reducible exact Ext.refl _ | with_reducible assumption | with_reducible refine Ext.alloc ?_ _ | with_reducible refine Ext.drew ?_ | with_reducible refine Ext.drewN ?_ _ | with_reducible refine Ext.setCell ?_ (by first | exact Nat.le_refl _ | assumption | (simp; done) | omega) _ | with_reducible refine Ext.trans ?_ (by with_reducible assumption))); done))
          have HBC := hide (show Blk W6 w5.heap.size 57 #[.int .i64 8, .int .i64 1, .int .i64 0, .int .i64 (mw : Int), .string ⟨#[]⟩, .string ⟨#[]⟩, .slice Aw mw cw] from by rw [← hW6]; exact Blk.new _ _ _)
          have HB6 := hide (HB5.out.ext HX56.out)
          have HT6 := hide (HT5.out.more HX56.out)
          have hga : ha ≠ w5.heap.size := by have := HB5.out.lt; omega
          have hgc : w1.heap.size ≤ w5.heap.size := by have := HB5.out.lt; omega
          clear hW6 HX56 HT5 HB5
          generalize w5.heap.size = gc at *
          have n0 := HBC.out.cell 0
          simp only [List.getElem?_toArray, List.getElem?_cons_zero] at n0
          go_wp2_with fail
          refine (next_err HT6.out er H9.out H0.out).mono ?_
          rintro e w8 ⟨he, ht8, hk8⟩
          obtain rfl := he
          have HT8 := hide ht8
          have HB8 := hide (hk8.blk HBC.out (other_ne HT6.out HBC.out (by decide)) (.inl rfl))
          clear ht8 hk8 HBC HT6 HB6 n0
          have f0 := HB8.out.frozen 0
          have f1 := HB8.out.frozen 1
          have f2 := HB8.out.frozen 2
          have f3 := HB8.out.frozen 3
          have f4 := HB8.out.frozen 4
          have f5 := HB8.out.frozen 5
          have f6 := HB8.out.frozen 6
          have k0 := HB8.out.cell 0
          have k1 := HB8.out.cell 1
          have k2 := HB8.out.cell 2
          have k3 := HB8.out.cell 3
          have k4 := HB8.out.cell 4
          have k5 := HB8.out.cell 5
          have k6 := HB8.out.cell 6
          simp only [List.getElem?_toArray, List.getElem?_cons_zero, List.getElem?_cons_succ] at k0 k1 k2 k3 k4 k5 k6
          go_upto_region 24 with fail
          generalize hW9 : World.setCell _ _ _ = W9 at *
          have HB9 := hide (show Blk W9 gc 57 #[.int .i64 1, .int .i64 2, .int .i64 0, .int .i64 0, .string ⟨#[]⟩, .string ⟨#[]⟩, .slice none 0 0] from by rw [← hW9]; exact Blk.set7 HB8.out _ _ _ _ _ _ _)
          have HK9 := hide (show KeepX gc true w8 W9 from by rw [← hW9]; exact KeepX.set7 gc w8 _ _ _ _ _ _ _)
          have HT9 := hide (HT8.out.far HK9.out HB8.out call_nob (by decide) hgc)
          clear hW9 HK9 HB8 HT8 f0 f1 f2 f3 f4 f5 f6 k0 k1 k2 k3 k4 k5 k6
          go_wp2_with fail
          refine (next_f3 (u := true) HT9.out 0 0 none 0 0).mono ?_
          rintro e w10 ⟨he, ht10, hk10⟩
          obtain rfl := he
          have HT10 := hide ht10
          have HB10 := hide (hk10.blk HB9.out (other_ne HT9.out HB9.out (by decide)) (.inl rfl))
          clear ht10 hk10 HT9 HB9
          go_upto_region 25 with fail
          generalize hW11 : World.alloc _ _ = W11
          have HX11 := hide (show Ext w10 W11 from by rw [← hW11]; ((repeat (first | with_reducible exact Ext.refl _ | with_reducible assumption | with_reducible refine Ext.alloc ?_ _ | with_reducible refine Ext.drew ?_ | with_reducible refine Ext.drewN ?_ _ | with_reducible refine Ext.setCell ?_ (by first | exact Nat.le_refl _ | assumption | (simp; done) | omega) _ | with_reducible refine Ext.trans ?_ (by with_reducible assumption))); done))
          have HD11 := hide (show Blk W11 w10.heap.size 57 #[.int .i64 1, .int .i64 2, .int .i64 0, .int .i64 0, .string ⟨#[]⟩, .string ⟨#[]⟩, .slice none 0 0] from by rw [← hW11]; exact Blk.new _ _ _)
          have HB11 := hide (HB10.out.ext HX11.out)
          have HE11 := hide (HX1.out.trans (HT10.out.ext.trans HX11.out))
          clear hW11 HX11 HT10 HB10
          generalize w10.heap.size = gd at *
          have p0 := HB11.out.cell 0
          have p1 := HB11.out.cell 1
          have q0 := HD11.out.cell 0
          have q1 := HD11.out.cell 1
          simp only [List.getElem?_toArray, List.getElem?_cons_zero, List.getElem?_cons_succ] at p0 p1 q0 q1
          go_wp2_with fail
          go_ret
          exact ⟨rfl, HE11.out⟩
  · have HST := hide (start_early hm hc (.inr ⟨e1, e2⟩) A n c w1.heap.size w1 (HLL.out.ext HX1.out) HRD.out (Nat.le_refl _) hnc hn2)
    rw [HN.out] at HST
    go_wp2_with fail
    refine HST.out.mono ?_
    rintro e w2 ⟨hp, A', c', Ao, mo, co, rfl, h1⟩
    have HG2 := hide (show w1.heap.size ≤ w2.heap.size from h1.ext.size)
    have HT := hide (show TAt w1 w2 hp nm L 3 false 1 [] [] from ⟨_, _, _, _, _, _, _, _, _, h1⟩)
    have e3 : (N.toList == [102, 97, 108, 115, 101]) = true := by rw [← HN.out]; exact e2
    clear h1 HST hc e1 e2 hm HRD HLL
    go_wp2_with fail
    refine (HR1.out w2).mono ?_
    rintro e w3 ⟨rfl, rfl⟩
    go_upto_region 6 with fail
    generalize hy : 1 + r1 = y
    go_upto_if 32 with fail
    obtain ⟨er, her, h9, h0⟩ : ∃ er : Int, (if y = 9 then 10 else y) = er ∧ er ≠ 9 ∧ er ≠ 0 := ⟨_, rfl, by split <;> omega, by split <;> omega⟩
    go_cut [1] (fun v wx => v = .int .i64 er ∧ w2 = wx)
    case first =>
      by_cases h8 : y = 9
      · rw [if_pos h8] at her
        have her2 := hide her
        clear her h9 h0 hy
        subst h8
        go_wp2_with fail
        go_meet
        exact ⟨by rw [← her2.out], rfl⟩
      · have t1 : (y == 9) = false := beq_eq_false_iff_ne.2 h8
        rw [if_neg h8] at her
        have her2 := hide her
        clear her h9 h0 hy
        go_wp2_with fail
        go_meet
        exact ⟨by rw [← her2.out], rfl⟩
    case rest =>
      obtain ⟨rfl, rfl⟩ := hcut
      have H9 := hide h9
      have H0 := hide h0
      clear her h9 h0 hy
      have HB3 := hide (Blk.new w2 55 #[.int .i64 0, .int .i64 0, .int .i64 0, .slice none 0 0, .slice none 0 0, .int .i64 0, .int .i64 0, .int .i64 0, .int .i64 0, .int .i64 0, .int .i64 0])
      have HT3 := hide (HT.out.more ((Ext.refl w2).alloc (.cells #[.int .i64 0, .int .i64 0, .int .i64 0, .slice none 0 0, .slice none 0 0, .int .i64 0, .int .i64 0, .int .i64 0, .int .i64 0, .int .i64 0, .int .i64 0] 55)))
      clear HT
      go_wp2_with fail
      generalize World.alloc _ _ = W3 at *
      generalize w2.heap.size = ha at *
      refine (HR2.out W3).mono ?_
      rintro e w4 ⟨rfl, rfl⟩
      go_wp2_with fail
      go_loopw [37] (FailF w1 hp ha nm L) (fun v _ => 0)
      case atStart => exact ⟨rfl, HT3.out, HB3.out⟩
      case round =>
        obtain ⟨rfl, ht, hba⟩ := hrel
        have HNX := hide (next_f3 (u := true) ht 0 0 none 0 0)
        have HBA := hide hba
        have hne := other_ne ht hba (by decide)
        have hg1 : w1.heap.size ≤ ha := by have := HG2.out; omega
        clear ht hba
        have a0 := HBA.out.cell 0
        have a1 := HBA.out.cell 1
        have a2 := HBA.out.cell 2
        have a3 := HBA.out.cell 3
        have a4 := HBA.out.cell 4
        have a5 := HBA.out.cell 5
        have a6 := HBA.out.cell 6
        have a7 := HBA.out.cell 7
        have a8 := HBA.out.cell 8
        have a9 := HBA.out.cell 9
        have a10 := HBA.out.cell 10
        simp only [List.getElem?_toArray, List.getElem?_cons_zero, List.getElem?_cons_succ] at a0 a1 a2 a3 a4 a5 a6 a7 a8 a9 a10
        by_cases hlt : 0 < k
        · have hlt' : (0 : Int) < (k : Int) := by omega
          go_wp2_with fail
          refine HNX.out.mono ?_
          rintro e w5 ⟨he, ht5, hk5⟩
          obtain rfl := he
          have HT5 := hide ht5
          have HB5 := hide (hk5.blk HBA.out hne (.inr (by decide)))
          clear ht5 hk5 HBA a0 a1 a2 a3 a4 a5 a6 a7 a8 a9 a10
          go_upto_region 12 with fail
          generalize hW6 : World.alloc _ _ = W6
          have HX56 := hide (show Ext w5 W6 from by rw [← hW6]; ((repeat (first | with_reducible exact Ext.refl _ | with_reducible assumption | with_reducible refine Ext.alloc ?_ _ | with_reducible refine Ext.drew ?_ | with_reducible refine Ext.drewN ?_ _ | with_reducible refine Ext.setCell ?_ (by first | exact Nat.le_refl _ | assumption | (simp; done) | omega) _ | with_reducible refine Ext.trans ?_ (by with_reducible assumption))); done))
          have HBC := hide (show Blk W6 w5.heap.size 57 #[.int .i64 1, .int .i64 1, .int .i64 0, .int .i64 0, .string ⟨#[]⟩, .string ⟨#[]⟩, .slice none 0 0] from by rw [← hW6]; exact Blk.new _ _ _)
          have HB6 := hide (HB5.out.ext HX56.out)
          have HT6 := hide (HT5.out.more HX56.out)
          have hga : ha ≠ w5.heap.size := by have := HB5.out.lt; omega
          clear hW6 HX56 HT5 HB5
          generalize w5.heap.size = gc at *
          have f0 := HB6.out.frozen 0
          have f1 := HB6.out.frozen 1
          have f2 := HB6.out.frozen 2
          have f3 := HB6.out.frozen 3
          have f4 := HB6.out.frozen 4
          have f5 := HB6.out.frozen 5
          have f6 := HB6.out.frozen 6
          have f7 := HB6.out.frozen 7
          have f8 := HB6.out.frozen 8
          have f9 := HB6.out.frozen 9
          have f10 := HB6.out.frozen 10
          have k0 := HB6.out.cell 0
          have k1 := HB6.out.cell 1
          have k2 := HB6.out.cell 2
          have k3 := HB6.out.cell 3
          have k4 := HB6.out.cell 4
          have k5 := HB6.out.cell 5
          have k6 := HB6.out.cell 6
          have k7 := HB6.out.cell 7
          have k8 := HB6.out.cell 8
          have k9 := HB6.out.cell 9
          have k10 := HB6.out.cell 10
          simp only [List.getElem?_toArray, List.getElem?_cons_zero, List.getElem?_cons_succ] at k0 k1 k2 k3 k4 k5 k6 k7 k8 k9 k10
          go_upto_region 13 with fail
          generalize hW7 : World.setCell _ _ _ = W7 at *
          have HK7 := hide (show KeepX ha true W6 W7 from by rw [← hW7]; exact KeepX.set11 ha W6 _ _ _ _ _ _ _ _ _ _ _)
          have HC7 := hide (HK7.out.blk HBC.out (Ne.symm hga) (.inl rfl))
          have HT7 := hide (HT6.out.far HK7.out HB6.out ans_nob (by decide) hg1)
          clear hW7 HK7 HB6 HBC HT6 f0 f1 f2 f3 f4 f5 f6 f7 f8 f9 f10 k0 k1 k2 k3 k4 k5 k6 k7 k8 k9 k10
          have n0 := HC7.out.cell 0
          have n1 := HC7.out.cell 1
          simp only [List.getElem?_toArray, List.getElem?_cons_zero, List.getElem?_cons_succ] at n0 n1
          go_wp2_with fail
          go_ret
          exact ⟨rfl, HX1.out.trans HT7.out.ext⟩
        · obtain rfl : k = 0 := by omega
          go_wp2_with fail
          refine HNX.out.mono ?_
          rintro e w5 ⟨he, ht5, hk5⟩
          obtain rfl := he
          have HT5 := hide ht5
          have HB5 := hide (hk5.blk HBA.out hne (.inr (by decide)))
          clear ht5 hk5 HBA a0 a1 a2 a3 a4 a5 a6 a7 a8 a9 a10
          go_upto_region 21 with fail
          generalize hW6 : World.alloc _ _ = W6
          have HX56 := hide (show Ext w5 W6 from by rw [← hW6]; ((repeat (first | with_reducible exact Ext.refl _ | with_reducible assumption | with_reducible refine Ext.alloc ?_ _ | with_reducible refine Ext.drew ?_ | with_reducible refine Ext.drewN ?_ _ | with_reducible refine Ext.setCell ?_ (by first | exact Nat.le_refl _ | assumption | (simp; done) | omega) _ | with_reducible refine Ext.trans ?_ (by with_reducible assumption))); done))
          have HBC := hide (show Blk W6 w5.heap.size 57 #[.int .i64 1, .int .i64 1, .int .i64 0, .int .i64 0, .string ⟨#[]⟩, .string ⟨#[]⟩, .slice none 0 0] from by rw [← hW6]; exact Blk.new _ _ _)
          have HB6 := hide (HB5.out.ext HX56.out)
          have HT6 := hide (HT5.out.more HX56.out)
          have hga : ha ≠ w5.heap.size := by have := HB5.out.lt; omega
          clear hW6 HX56 HT5 HB5
          generalize w5.heap.size = gc at *
          have n0 := HBC.out.cell 0
          simp only [List.getElem?_toArray, List.getElem?_cons_zero] at n0
          go_wp2_with fail
          go_ret
          exact ⟨rfl, HX1.out.trans HT6.out.ext⟩
end Go.Proofs.YtjmonkacijncbaaGreatDoor
