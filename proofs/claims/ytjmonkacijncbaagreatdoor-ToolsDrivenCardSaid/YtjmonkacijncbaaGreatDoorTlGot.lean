/- (*Tool).got: an answer, taken. Printed by gen_got.py. -/
import Derived.Test.YtjmonkacijncbaaGreatDoorTlStart
namespace Go.Proofs.YtjmonkacijncbaaGreatDoor
open Go.RowKit
set_option linter.unusedVariables false

theorem ToolM.fed {w0 w w7 : World} {hp : Nat} {nm : Bs} {L : List Bs} {q : Bool} {st : Int} {inp out ds : Bs} {A : Option Addr} {n c : Nat} {Ai : Option Addr} {mi ci : Nat} {Ao : Option Addr} {mo co k c7 : Nat} {A7 : Option Addr} (h : ToolM w0 w hp nm L 1 q st inp out A n c Ai mi ci Ao mo co) (hmo : mo = 0)
    (ho : w7.ownsRow w0.heap.size 5 1 (.slice A7 (mi + k) c7) (mi + k) (bytesV inp ++ bytesV ds)) (hg : w.grownBy w7 (Value.ownBlock (.slice Ai mi ci))) :
    ToolM w0 (w7.setCell ⟨hp, 4, none⟩ (.slice A7 (mi + k) c7)) hp nm L 1 q st (inp ++ ds) out A n c A7 (mi + k) c7 Ao mo co ∧ KeepX hp false w (w7.setCell ⟨hp, 4, none⟩ (.slice A7 (mi + k) c7)) := by
  have hk : KeepX hp false w w7 := KeepX.grown h.inn hg
  have hb := h.box.grown hg (own_blk_ne h.inn h.box (by decide)).symm
  have hgx : Ext w0 w7 := h.ext.grown hg fun g e => by
    rcases h.inn.2 with ⟨hv, _⟩ | ⟨g', cap, cur, hv, hb', _⟩
    · rw [hv] at e; simp [Value.ownBlock] at e
    · rw [hv] at e; simp only [Value.ownBlock, Option.some.injEq] at e; omega
  have hs := KeepX.set hp true w7 4 (.slice A7 (mi + k) c7)
  refine ⟨⟨hb.set_ 4 _, h.ge, hs.ext (u := true) hgx h.ge, ?_, ?_, ?_, h.oc⟩, hk.trans hs.weak⟩
  · exact hs.own (hk.own h.args (own_blk_ne h.args h.box (by decide)) (.inr (by decide))) (own_blk_ne (hk.own h.args (own_blk_ne h.args h.box (by decide)) (.inr (by decide))) hb (by decide)) (.inl rfl)
  · rw [bytesV_append]
    exact hs.own ho (own_blk_ne ho hb (by decide)) (.inl rfl)
  · have h1 := h.outr.1
    rw [hmo] at h1 ⊢
    exact ⟨h1, fun h => absurd h (by omega)⟩
set_option maxHeartbeats 8000000 in
set_option maxRecDepth 100000 in
theorem got_wait {w0 w : World} {hp : Nat} {nm : Bs} {L : List Bs} {d : Int} {q : Bool} {st : Int} {inp out : Bs} {A : Option Addr} {n c : Nat} {Ai : Option Addr} {mi ci : Nat} {Ao : Option Addr} {mo co : Nat} (h : ToolM w0 w hp nm L d q st inp out A n c Ai mi ci Ao mo co) (a : Int) (Ad : Option Addr) (nd cd : Nat) :
    Calls Tryz.prog 48 #[.pointer (some ⟨hp, 0, none⟩), .agg #[.int .i64 9, .int .i64 a, .int .i64 0, .slice Ad nd cd, .slice none 0 0, .int .i64 0, .int .i64 0, .int .i64 0, .int .i64 0, .int .i64 0, .int .i64 0]] w fun e w' => e = .returned (.tuple #[]) ∧ ToolM w0 w' hp nm L d q st inp out A n c Ai mi ci Ao mo co ∧ KeepX hp true w w' := by
  have hlt := h.box.lt
  have HB := hide (Blk.new w 55 #[.int .i64 9, .int .i64 a, .int .i64 0, .slice Ad nd cd, .slice none 0 0, .int .i64 0, .int .i64 0, .int .i64 0, .int .i64 0, .int .i64 0, .int .i64 0])
  have HX := hide ((Ext.refl w).alloc (.cells #[.int .i64 9, .int .i64 a, .int .i64 0, .slice Ad nd cd, .slice none 0 0, .int .i64 0, .int .i64 0, .int .i64 0, .int .i64 0, .int .i64 0, .int .i64 0] 55))
  have HT := hide (h.more HX.out)
  have hne : w.heap.size ≠ hp := by omega
  have hw0 := h.ext.size
  clear h
  go_enter Tryz.func48, Tryz.ntmps48
  go_upto_region 1 with fail
  obtain ⟨W, hW⟩ : ∃ W, W = w.alloc (.cells #[.int .i64 9, .int .i64 a, .int .i64 0, .slice Ad nd cd, .slice none 0 0, .int .i64 0, .int .i64 0, .int .i64 0, .int .i64 0, .int .i64 0, .int .i64 0] 55) := ⟨_, rfl⟩
  obtain ⟨hb, hhb⟩ : ∃ hb, hb = w.heap.size := ⟨_, rfl⟩
  rw [← hW] at HB HX HT ⊢
  rw [← hhb] at HB hne ⊢
  have HW0 := hide (show w0.heap.size ≤ W.heap.size from Nat.le_trans hw0 HX.out.size)
  clear hW hhb hlt hw0
  have a0 : W.cell? ⟨hb, 0, none⟩ = some (.int .i64 9) := HB.out.cell 0
  have a1 : W.cell? ⟨hb, 1, none⟩ = some (.int .i64 a) := HB.out.cell 1
  have a3 : W.cell? ⟨hb, 3, none⟩ = some (.slice Ad nd cd) := HB.out.cell 3
  have c2 : W.cell? ⟨hp, 2, none⟩ = some (.int .i64 d) := HT.out.box.cell 2
  have c4 : W.cell? ⟨hp, 4, none⟩ = some (.slice Ai mi ci) := HT.out.box.cell 4
  have c5 : W.cell? ⟨hp, 5, none⟩ = some (.slice Ao mo co) := HT.out.box.cell 5
  have c6 : W.cell? ⟨hp, 6, none⟩ = some (.int .i64 st) := HT.out.box.cell 6
  have f2 := HT.out.box.frozen 2
  have f4 := HT.out.box.frozen 4
  have f5 := HT.out.box.frozen 5
  have f6 := HT.out.box.frozen 6
  go_wp2_with fail
  (first | go_end0 | ((try simp only [Exit.inBlock, Exit.then]); refine bodyPost_ret (results_none rfl _ _ _) rfl ?_))
  exact ⟨rfl, HT.out, .of HX.out hp true⟩
set_option maxHeartbeats 8000000 in
set_option maxRecDepth 100000 in
theorem got_err {w0 w : World} {hp : Nat} {nm : Bs} {L : List Bs} {d : Int} {q : Bool} {st : Int} {inp out : Bs} {A : Option Addr} {n c : Nat} {Ai : Option Addr} {mi ci : Nat} {Ao : Option Addr} {mo co : Nat} (h : ToolM w0 w hp nm L d q st inp out A n c Ai mi ci Ao mo co) (er a : Int) (h9 : er ≠ 9) (h0 : er ≠ 0) (Ad : Option Addr) (nd cd : Nat) :
    Calls Tryz.prog 48 #[.pointer (some ⟨hp, 0, none⟩), .agg #[.int .i64 er, .int .i64 a, .int .i64 0, .slice Ad nd cd, .slice none 0 0, .int .i64 0, .int .i64 0, .int .i64 0, .int .i64 0, .int .i64 0, .int .i64 0]] w fun e w' => e = .returned (.tuple #[]) ∧ ToolM w0 w' hp nm L 3 q 2 inp out A n c Ai mi ci Ao mo co ∧ KeepX hp true w w' := by
  have hlt := h.box.lt
  have HB := hide (Blk.new w 55 #[.int .i64 er, .int .i64 a, .int .i64 0, .slice Ad nd cd, .slice none 0 0, .int .i64 0, .int .i64 0, .int .i64 0, .int .i64 0, .int .i64 0, .int .i64 0])
  have HX := hide ((Ext.refl w).alloc (.cells #[.int .i64 er, .int .i64 a, .int .i64 0, .slice Ad nd cd, .slice none 0 0, .int .i64 0, .int .i64 0, .int .i64 0, .int .i64 0, .int .i64 0, .int .i64 0] 55))
  have HT := hide (h.more HX.out)
  have hne : w.heap.size ≠ hp := by omega
  have hw0 := h.ext.size
  clear h
  go_enter Tryz.func48, Tryz.ntmps48
  go_upto_region 1 with fail
  obtain ⟨W, hW⟩ : ∃ W, W = w.alloc (.cells #[.int .i64 er, .int .i64 a, .int .i64 0, .slice Ad nd cd, .slice none 0 0, .int .i64 0, .int .i64 0, .int .i64 0, .int .i64 0, .int .i64 0, .int .i64 0] 55) := ⟨_, rfl⟩
  obtain ⟨hb, hhb⟩ : ∃ hb, hb = w.heap.size := ⟨_, rfl⟩
  rw [← hW] at HB HX HT ⊢
  rw [← hhb] at HB hne ⊢
  have HW0 := hide (show w0.heap.size ≤ W.heap.size from Nat.le_trans hw0 HX.out.size)
  clear hW hhb hlt hw0
  have a0 : W.cell? ⟨hb, 0, none⟩ = some (.int .i64 er) := HB.out.cell 0
  have a1 : W.cell? ⟨hb, 1, none⟩ = some (.int .i64 a) := HB.out.cell 1
  have a3 : W.cell? ⟨hb, 3, none⟩ = some (.slice Ad nd cd) := HB.out.cell 3
  have c2 : W.cell? ⟨hp, 2, none⟩ = some (.int .i64 d) := HT.out.box.cell 2
  have c4 : W.cell? ⟨hp, 4, none⟩ = some (.slice Ai mi ci) := HT.out.box.cell 4
  have c5 : W.cell? ⟨hp, 5, none⟩ = some (.slice Ao mo co) := HT.out.box.cell 5
  have c6 : W.cell? ⟨hp, 6, none⟩ = some (.int .i64 st) := HT.out.box.cell 6
  have f2 := HT.out.box.frozen 2
  have f4 := HT.out.box.frozen 4
  have f5 := HT.out.box.frozen 5
  have f6 := HT.out.box.frozen 6
  have t1 : (er == 9) = false := beq_eq_false_iff_ne.2 h9
  have t2 : (er != 0) = true := bne_iff_ne.2 h0
  have t3 : (er == 0) = false := beq_eq_false_iff_ne.2 h0
  go_wp2_with fail
  (first | go_end0 | ((try simp only [Exit.inBlock, Exit.then]); refine bodyPost_ret (results_none rfl _ _ _) rfl ?_))
  refine ⟨rfl, ?_, (KeepX.of HX.out hp true).trans ((KeepX.set hp true W 2 _).trans (KeepX.set hp true _ 6 _))⟩
  exact HT.out.next ((KeepX.set hp true W 2 _).trans (KeepX.set hp true _ 6 _)) ((HT.out.box.set_ 2 _).set_ 6 _)
set_option maxHeartbeats 8000000 in
set_option maxRecDepth 100000 in
theorem got_write {w0 w : World} {hp : Nat} {nm : Bs} {L : List Bs} {q : Bool} {st : Int} {inp out : Bs} {A : Option Addr} {n c : Nat} {Ai : Option Addr} {mi ci : Nat} {Ao : Option Addr} {mo co : Nat} (h : ToolM w0 w hp nm L 2 q st inp out A n c Ai mi ci Ao mo co) (k r : Nat) (hr : min k mo = r) :
    Calls Tryz.prog 48 #[.pointer (some ⟨hp, 0, none⟩), .agg #[.int .i64 0, .int .i64 (k : Int), .int .i64 0, .slice none 0 0, .slice none 0 0, .int .i64 0, .int .i64 0, .int .i64 0, .int .i64 0, .int .i64 0, .int .i64 0]] w fun e w' => e = .returned (.tuple #[]) ∧ (∃ Ao' mo' co', ToolM w0 w' hp nm L (doingOf (out.drop r)) q st inp (out.drop r) A n c Ai mi ci Ao' mo' co') ∧ KeepX hp true w w' := by
  have hlt := h.box.lt
  have HB := hide (Blk.new w 55 #[.int .i64 0, .int .i64 (k : Int), .int .i64 0, .slice none 0 0, .slice none 0 0, .int .i64 0, .int .i64 0, .int .i64 0, .int .i64 0, .int .i64 0, .int .i64 0])
  have HX := hide ((Ext.refl w).alloc (.cells #[.int .i64 0, .int .i64 (k : Int), .int .i64 0, .slice none 0 0, .slice none 0 0, .int .i64 0, .int .i64 0, .int .i64 0, .int .i64 0, .int .i64 0, .int .i64 0] 55))
  have HT := hide (h.more HX.out)
  have hne : w.heap.size ≠ hp := by omega
  have hw0 := h.ext.size
  clear h
  go_enter Tryz.func48, Tryz.ntmps48
  go_upto_region 1 with fail
  obtain ⟨W, hW⟩ : ∃ W, W = w.alloc (.cells #[.int .i64 0, .int .i64 (k : Int), .int .i64 0, .slice none 0 0, .slice none 0 0, .int .i64 0, .int .i64 0, .int .i64 0, .int .i64 0, .int .i64 0, .int .i64 0] 55) := ⟨_, rfl⟩
  obtain ⟨hb, hhb⟩ : ∃ hb, hb = w.heap.size := ⟨_, rfl⟩
  rw [← hW] at HB HX HT ⊢
  rw [← hhb] at HB hne ⊢
  have HW0 := hide (show w0.heap.size ≤ W.heap.size from Nat.le_trans hw0 HX.out.size)
  clear hW hhb hlt hw0
  have a0 : W.cell? ⟨hb, 0, none⟩ = some (.int .i64 0) := HB.out.cell 0
  have a1 : W.cell? ⟨hb, 1, none⟩ = some (.int .i64 (k : Int)) := HB.out.cell 1
  have a3 : W.cell? ⟨hb, 3, none⟩ = some (.slice none 0 0) := HB.out.cell 3
  have c2 : W.cell? ⟨hp, 2, none⟩ = some (.int .i64 2) := HT.out.box.cell 2
  have c4 : W.cell? ⟨hp, 4, none⟩ = some (.slice Ai mi ci) := HT.out.box.cell 4
  have c5 : W.cell? ⟨hp, 5, none⟩ = some (.slice Ao mo co) := HT.out.box.cell 5
  have c6 : W.cell? ⟨hp, 6, none⟩ = some (.int .i64 st) := HT.out.box.cell 6
  have f2 := HT.out.box.frozen 2
  have f4 := HT.out.box.frozen 4
  have f5 := HT.out.box.frozen 5
  have f6 := HT.out.box.frozen 6
  have HOL := hide (bytes_len HT.out.outr)
  have hrm : r ≤ mo := by omega
  have m1 : max (k : Int) (0 : Int) = (k : Int) := by omega
  have m2 : min (k : Int) (mo : Int) = (r : Int) := by omega
  clear hr
  obtain ⟨i0, hi0, hz0, hz1, hz2⟩ := info_parts byte_info
  have hoc := HT.out.oc
  obtain ⟨A', hs2, hr2, hn2⟩ := cut_from (P := Tryz.prog) Tryz.underlying22 hi0 hz1 HT.out.outr r co hrm hoc.1 .i64
  rw [bytesV_drop] at hr2
  have HR2 := hide hr2
  have HOC := hide hoc
  clear hr2 hn2 hoc hi0 hz0 hz1 hz2
  go_upto_region 5 with fail
  go_region_held3 (fun w' => w'.cell? ⟨hb, 1, none⟩ = some (.int .i64 (k : Int)) ∧ w'.cell? ⟨hp, 5, none⟩ = some (.slice Ao mo co)) (first | exact ⟨a1, c5⟩ | fail) (fail)
  all_goals
    have HFL := hide (show (out.drop r).length = mo - r by rw [List.length_drop, HOL.out])
    have HRD := hide (show Reads W.drew W.drew.heap.size 1 A' (mo - r) (bytesV (out.drop r)) from HR2.out.drew)
    have HT2 := hide (HT.out.more ((Ext.refl W).drew))
    clear HR2
    have HKX := hide ((KeepX.of HX.out hp true).trans (KeepX.of ((Ext.refl W).drew) hp true))
    generalize W.drew = W2 at *
    clear a0 a1 a3
    have c2 : W2.cell? ⟨hp, 2, none⟩ = some (.int .i64 2) := HT2.out.box.cell 2
    have c5 : W2.cell? ⟨hp, 5, none⟩ = some (.slice Ao mo co) := HT2.out.box.cell 5
    have f2 := HT2.out.box.frozen 2
    have f5 := HT2.out.box.frozen 5
    by_cases h0 : mo - r = 0
    · have HF := hide (show doingOf (out.drop r) = 3 from if_pos (by rw [HFL.out]; exact h0))
      have HOR := hide (show Reads W2 W2.heap.size 1 A' 0 (bytesV (out.drop r)) from by have := HRD.out; rw [h0] at this; exact ⟨this.1, fun h => absurd h (by omega)⟩)
      rw [h0] at hs2
      clear HFL h0
      go_wp2_with fail
      (first | go_end0 | ((try simp only [Exit.inBlock, Exit.then]); refine bodyPost_ret (results_none rfl _ _ _) rfl ?_))
      refine ⟨rfl, ⟨A', 0, co - r, ?_⟩, HKX.out.trans ((KeepX.set hp true W2 5 _).trans (KeepX.set hp true _ 2 _))⟩
      rw [HF.out]
      exact HT2.out.told ((KeepX.set hp true W2 5 _).trans (KeepX.set hp true _ 2 _)) ((HT2.out.box.set_ 5 _).set_ 2 _) HOR.out ⟨Nat.zero_le _, by have := HOC.out; omega⟩
    · have HF := hide (show doingOf (out.drop r) = 2 from if_neg (by rw [HFL.out]; exact h0))
      obtain ⟨p, hp'⟩ : ∃ p, mo - r = p := ⟨_, rfl⟩
      rw [hp'] at h0 hs2 HRD
      have t1 : ((p : Int) == 0) = false := beq_eq_false_iff_ne.2 (by omega)
      clear HFL
      go_wp2_with fail
      (first | go_end0 | ((try simp only [Exit.inBlock, Exit.then]); refine bodyPost_ret (results_none rfl _ _ _) rfl ?_))
      refine ⟨rfl, ⟨A', p, co - r, ?_⟩, HKX.out.trans (KeepX.set hp true W2 5 _)⟩
      rw [HF.out]
      exact HT2.out.told (KeepX.set hp true W2 5 _) (HT2.out.box.set_ 5 _) HRD.out ⟨by have := HOC.out; omega, by have := HOC.out; omega⟩
set_option maxHeartbeats 8000000 in
set_option maxRecDepth 100000 in
theorem got_read {w0 w : World} {hp : Nat} {nm : Bs} {L : List Bs} {q : Bool} {st : Int} {inp out : Bs} {A : Option Addr} {n c : Nat} {Ai : Option Addr} {mi ci : Nat} {Ao : Option Addr} {mo co : Nat} (h : ToolM w0 w hp nm L 1 q st inp out A n c Ai mi ci Ao mo co) (hmo : mo = 0) (Ad : Option Addr) (nd cd : Nat) (ds : Bs) (B : Nat) (hr : Reads w B 1 Ad nd (bytesV ds)) (hB : B ≤ w.heap.size) (hnd : 0 < nd) (hlen : inp.length + nd ≤ 1024) :
    Calls Tryz.prog 48 #[.pointer (some ⟨hp, 0, none⟩), .agg #[.int .i64 0, .int .i64 0, .int .i64 0, .slice Ad nd cd, .slice none 0 0, .int .i64 0, .int .i64 0, .int .i64 0, .int .i64 0, .int .i64 0, .int .i64 0]] w fun e w' => e = .returned (.tuple #[]) ∧ (∃ Ai' ci', ToolM w0 w' hp nm L 1 q st (inp ++ ds) out A n c Ai' (mi + nd) ci' Ao mo co) ∧ KeepX hp false w w' := by
  have hlt := h.box.lt
  have HB := hide (Blk.new w 55 #[.int .i64 0, .int .i64 0, .int .i64 0, .slice Ad nd cd, .slice none 0 0, .int .i64 0, .int .i64 0, .int .i64 0, .int .i64 0, .int .i64 0, .int .i64 0])
  have HX := hide ((Ext.refl w).alloc (.cells #[.int .i64 0, .int .i64 0, .int .i64 0, .slice Ad nd cd, .slice none 0 0, .int .i64 0, .int .i64 0, .int .i64 0, .int .i64 0, .int .i64 0, .int .i64 0] 55))
  have HT := hide (h.more HX.out)
  have hne : w.heap.size ≠ hp := by omega
  have hw0 := h.ext.size
  clear h
  go_enter Tryz.func48, Tryz.ntmps48
  go_upto_region 1 with fail
  obtain ⟨W, hW⟩ : ∃ W, W = w.alloc (.cells #[.int .i64 0, .int .i64 0, .int .i64 0, .slice Ad nd cd, .slice none 0 0, .int .i64 0, .int .i64 0, .int .i64 0, .int .i64 0, .int .i64 0, .int .i64 0] 55) := ⟨_, rfl⟩
  obtain ⟨hb, hhb⟩ : ∃ hb, hb = w.heap.size := ⟨_, rfl⟩
  rw [← hW] at HB HX HT ⊢
  rw [← hhb] at HB hne ⊢
  have HW0 := hide (show w0.heap.size ≤ W.heap.size from Nat.le_trans hw0 HX.out.size)
  clear hW hhb hlt hw0
  have a0 : W.cell? ⟨hb, 0, none⟩ = some (.int .i64 0) := HB.out.cell 0
  have a1 : W.cell? ⟨hb, 1, none⟩ = some (.int .i64 0) := HB.out.cell 1
  have a3 : W.cell? ⟨hb, 3, none⟩ = some (.slice Ad nd cd) := HB.out.cell 3
  have c2 : W.cell? ⟨hp, 2, none⟩ = some (.int .i64 1) := HT.out.box.cell 2
  have c4 : W.cell? ⟨hp, 4, none⟩ = some (.slice Ai mi ci) := HT.out.box.cell 4
  have c5 : W.cell? ⟨hp, 5, none⟩ = some (.slice Ao mo co) := HT.out.box.cell 5
  have c6 : W.cell? ⟨hp, 6, none⟩ = some (.int .i64 st) := HT.out.box.cell 6
  have f2 := HT.out.box.frozen 2
  have f4 := HT.out.box.frozen 4
  have f5 := HT.out.box.frozen 5
  have f6 := HT.out.box.frozen 6
  have HRR := hide (show Reads W.drew W.heap.size 1 Ad nd (bytesV ds) from (HX.out.reads hr hB).drew.more (Nat.le_trans hB HX.out.size))
  have HLEN := hide hlen
  clear hr hB hlen
  have HMI := hide (bytes_len (Reads.of_own HT.out.inn))
  obtain ⟨i0, hi0, hz0, hz1, hz2⟩ := info_parts byte_info
  have HON := hide ((own_blk_ne HT.out.inn HB.out (by decide)).symm)
  have HOP := hide ((own_blk_ne HT.out.inn HT.out.box (by decide)).symm)
  have hle : mi + nd ≤ 1024 := by have h1 := HMI.out; have h2 := HLEN.out; omega
  have HOI := hide (show W.drew.ownsRow w0.heap.size 5 1 (.slice Ai mi ci) mi (bytesV inp) from ((Ext.refl W).drew).own HT.out.inn)
  have HBD := hide ((HB.out.ext ((Ext.refl W).drew)))
  have HPD := hide ((HT.out.box.ext ((Ext.refl W).drew)))
  go_upto_region 10 with fail
  go_region_law (
    (refine step_append_any _ (by rfl) (.tmp 62) (.tmp 64) 22 (by rfl) w0.heap.size 5 i0 _ 1 1 Tryz.underlying22 hi0 hz0 hz1 hz2 rfl (by omega) (.slice Ai mi ci) mi (bytesV inp) (by rfl) HOI.out _ Ad nd cd (bytesV ds) (by rfl) HRR.out (bytesV_one _) (by simp only [maxLen]; omega) (by omega) HW0.out ?_; intro A7 c7 w7 ho7 hg7 ha7; have hb7 := HBD.out.grown hg7 HON.out; have hb8 := HPD.out.grown hg7 HOP.out; have k7 : w7.cell? ⟨hb, 3, none⟩ = some (.slice Ad nd cd) := hb7.cell 3; have k8 : w7.cell? ⟨hp, 4, none⟩ = some (.slice Ai mi ci) := hb8.cell 4; have k9 : w7.frozen? ⟨hp, 4, none⟩ = false := hb8.frozen 4))
  all_goals
    obtain ⟨h8, hk8⟩ := (HT.out.more ((Ext.refl W).drew)).fed hmo ho7 hg7
    have H8 := hide h8
    have HK8 := hide ((KeepX.of (HX.out.trans ((Ext.refl W).drew)) hp false).trans hk8)
    have e3 : (w7.setCell ⟨hp, 4, none⟩ (.slice A7 (mi + nd) c7)).cell? ⟨hb, 3, none⟩ = some (.slice Ad nd cd) := far1 k7 (Ne.symm hne) _
    clear h8 hk8 ho7 hg7 ha7 hb7 hb8 k7 k8 k9 a0 a1 a3 c2 c4 c5 c6 f2 f4 f5 f6 HT HB HX HON HOP HOI HBD HPD HRR hne
    (try simp only [Nat.add_zero] at H8 HK8 e3)
    generalize w7.setCell _ _ = W8 at *
    generalize hpp : mi + nd = p at *
    have HPP := hide hpp
    have e4 : W8.cell? ⟨hp, 4, none⟩ = some (.slice A7 p c7) := H8.out.box.cell 4
    have t1 : ((nd : Int) == 0) = false := beq_eq_false_iff_ne.2 (by omega)
    have t2 : decide ((1024 : Int) < (p : Int)) = false := decide_eq_false (by omega)
    clear hpp hnd
    go_wp2_with fail
    (first | go_end0 | ((try simp only [Exit.inBlock, Exit.then]); refine bodyPost_ret (results_none rfl _ _ _) rfl ?_))
    exact ⟨rfl, ⟨A7, c7, by rw [HPP.out]; exact H8.out⟩, HK8.out⟩
set_option maxHeartbeats 8000000 in
set_option maxRecDepth 100000 in
theorem got_end {w0 w : World} {hp : Nat} {nm : Bs} {L : List Bs} {q : Bool} {st : Int} {inp out : Bs} {A : Option Addr} {n c : Nat} {Ai : Option Addr} {mi ci : Nat} {Ao : Option Addr} {mo co : Nat} (h : ToolM w0 w hp nm L 1 q st inp out A n c Ai mi ci Ao mo co) (hmo : mo = 0) {f : Bs → Bs} {s : Bs → Int} (hm : MeanAt nm L f s) (hL : LibOk w0) (hlen : inp.length ≤ 1024) :
    Calls Tryz.prog 48 #[.pointer (some ⟨hp, 0, none⟩), .agg #[.int .i64 0, .int .i64 0, .int .i64 0, .slice none 0 0, .slice none 0 0, .int .i64 0, .int .i64 0, .int .i64 0, .int .i64 0, .int .i64 0, .int .i64 0]] w fun e w' => e = .returned (.tuple #[]) ∧ (∃ Ao' mo' co' Ai' ci', ToolM w0 w' hp nm L (doingOf (f inp)) q (s inp) inp (f inp) A n c Ai' mi ci' Ao' mo' co') ∧ KeepX hp false w w' := by
  have hlt := h.box.lt
  have HB := hide (Blk.new w 55 #[.int .i64 0, .int .i64 0, .int .i64 0, .slice none 0 0, .slice none 0 0, .int .i64 0, .int .i64 0, .int .i64 0, .int .i64 0, .int .i64 0, .int .i64 0])
  have HX := hide ((Ext.refl w).alloc (.cells #[.int .i64 0, .int .i64 0, .int .i64 0, .slice none 0 0, .slice none 0 0, .int .i64 0, .int .i64 0, .int .i64 0, .int .i64 0, .int .i64 0, .int .i64 0] 55))
  have HT := hide (h.more HX.out)
  have hne : w.heap.size ≠ hp := by omega
  have hw0 := h.ext.size
  clear h
  go_enter Tryz.func48, Tryz.ntmps48
  go_upto_region 1 with fail
  obtain ⟨W, hW⟩ : ∃ W, W = w.alloc (.cells #[.int .i64 0, .int .i64 0, .int .i64 0, .slice none 0 0, .slice none 0 0, .int .i64 0, .int .i64 0, .int .i64 0, .int .i64 0, .int .i64 0, .int .i64 0] 55) := ⟨_, rfl⟩
  obtain ⟨hb, hhb⟩ : ∃ hb, hb = w.heap.size := ⟨_, rfl⟩
  rw [← hW] at HB HX HT ⊢
  rw [← hhb] at HB hne ⊢
  have HW0 := hide (show w0.heap.size ≤ W.heap.size from Nat.le_trans hw0 HX.out.size)
  clear hW hhb hlt hw0
  have a0 : W.cell? ⟨hb, 0, none⟩ = some (.int .i64 0) := HB.out.cell 0
  have a1 : W.cell? ⟨hb, 1, none⟩ = some (.int .i64 0) := HB.out.cell 1
  have a3 : W.cell? ⟨hb, 3, none⟩ = some (.slice none 0 0) := HB.out.cell 3
  have c2 : W.cell? ⟨hp, 2, none⟩ = some (.int .i64 1) := HT.out.box.cell 2
  have c4 : W.cell? ⟨hp, 4, none⟩ = some (.slice Ai mi ci) := HT.out.box.cell 4
  have c5 : W.cell? ⟨hp, 5, none⟩ = some (.slice Ao mo co) := HT.out.box.cell 5
  have c6 : W.cell? ⟨hp, 6, none⟩ = some (.int .i64 st) := HT.out.box.cell 6
  have f2 := HT.out.box.frozen 2
  have f4 := HT.out.box.frozen 4
  have f5 := HT.out.box.frozen 5
  have f6 := HT.out.box.frozen 6
  have HMI := hide (bytes_len (Reads.of_own HT.out.inn))
  obtain ⟨i0, hi0, hz0, hz1, hz2⟩ := info_parts byte_info
  have HRR := hide (show Reads W.drew W.heap.size 1 none 0 (bytesV []) from ⟨rfl, fun h => absurd h (by omega)⟩)
  have HRK := hide (fun W mi Ai' ci' (inp' : Bs) (hi : inp' = inp) (h : ToolM w0 W hp nm L 1 q st inp' out A n c Ai' mi ci' Ao mo co) => reckon_any hm hL h (by rw [hi]; exact hlen))
  have HLEN := hide hlen
  clear hm hL hlen
  have HON := hide ((own_blk_ne HT.out.inn HB.out (by decide)).symm)
  have HOP := hide ((own_blk_ne HT.out.inn HT.out.box (by decide)).symm)
  have hle : mi + 0 ≤ 1024 := by have h1 := HMI.out; have h2 := HLEN.out; omega
  have HOI := hide (show W.drew.ownsRow w0.heap.size 5 1 (.slice Ai mi ci) mi (bytesV inp) from ((Ext.refl W).drew).own HT.out.inn)
  have HBD := hide ((HB.out.ext ((Ext.refl W).drew)))
  have HPD := hide ((HT.out.box.ext ((Ext.refl W).drew)))
  go_upto_region 10 with fail
  go_region_law (
    (refine step_append_any _ (by rfl) (.tmp 62) (.tmp 64) 22 (by rfl) w0.heap.size 5 i0 _ 1 1 Tryz.underlying22 hi0 hz0 hz1 hz2 rfl (by omega) (.slice Ai mi ci) mi (bytesV inp) (by rfl) HOI.out _ none 0 0 (bytesV ([] : Bs)) (by rfl) HRR.out (bytesV_one _) (by simp only [maxLen]; omega) (by omega) HW0.out ?_; intro A7 c7 w7 ho7 hg7 ha7; have hb7 := HBD.out.grown hg7 HON.out; have hb8 := HPD.out.grown hg7 HOP.out; have k7 : w7.cell? ⟨hb, 3, none⟩ = some (.slice none 0 0) := hb7.cell 3; have k8 : w7.cell? ⟨hp, 4, none⟩ = some (.slice Ai mi ci) := hb8.cell 4; have k9 : w7.frozen? ⟨hp, 4, none⟩ = false := hb8.frozen 4))
  all_goals
    obtain ⟨h8, hk8⟩ := (HT.out.more ((Ext.refl W).drew)).fed hmo ho7 hg7
    have H8 := hide h8
    have HK8 := hide ((KeepX.of (HX.out.trans ((Ext.refl W).drew)) hp false).trans hk8)
    have e3 : (w7.setCell ⟨hp, 4, none⟩ (.slice A7 (mi + 0) c7)).cell? ⟨hb, 3, none⟩ = some (.slice none 0 0) := far1 k7 (Ne.symm hne) _
    clear h8 hk8 ho7 hg7 ha7 hb7 hb8 k7 k8 k9 a0 a1 a3 c2 c4 c5 c6 f2 f4 f5 f6 HT HB HX HON HOP HOI HBD HPD HRR hne
    (try simp only [Nat.add_zero] at H8 HK8 e3)
    generalize w7.setCell _ _ = W8 at *
    have e4 : W8.cell? ⟨hp, 4, none⟩ = some (.slice A7 mi c7) := H8.out.box.cell 4
    go_wp2_with fail
    refine (HRK.out W8 mi A7 c7 _ (by simp) H8.out).mono ?_
    rintro e w9 ⟨rfl, ⟨Ao9, mo9, co9, h9⟩, hk9⟩
    have H9 := hide h9
    have HK9 := hide (HK8.out.trans hk9.weak)
    clear h9 hk9
    go_wp2_with fail
    (first | go_end0 | ((try simp only [Exit.inBlock, Exit.then]); refine bodyPost_ret (results_none rfl _ _ _) rfl ?_))
    exact ⟨rfl, ⟨Ao9, mo9, co9, A7, c7, by simpa using H9.out⟩, HK9.out⟩
end Go.Proofs.YtjmonkacijncbaaGreatDoor
