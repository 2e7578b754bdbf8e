/- (*Tool).Next: what a program asks for. Printed by gen_next.py. -/
import Derived.Test.YtjmonkacijncbaaGreatDoorTlGot
namespace Go.Proofs.YtjmonkacijncbaaGreatDoor
open Go.RowKit
set_option linter.unusedVariables false

def TAt (w0 w : World) (hp : Nat) (nm : Bs) (L : List Bs) (d : Int) (q : Bool) (st : Int) (inp out : Bs) : Prop := ∃ A n c Ai mi ci Ao mo co, ToolM w0 w hp nm L d q st inp out A n c Ai mi ci Ao mo co
theorem TAt.more {w0 w w' : World} {hp : Nat} {nm : Bs} {L : List Bs} {d : Int} {q : Bool} {st : Int} {inp out : Bs} (h : TAt w0 w hp nm L d q st inp out) (hx : Ext w w') : TAt w0 w' hp nm L d q st inp out := by
  obtain ⟨A, n, c, Ai, mi, ci, Ao, mo, co, h⟩ := h
  exact ⟨A, n, c, Ai, mi, ci, Ao, mo, co, h.more hx⟩
theorem TAt.lt {w0 w : World} {hp : Nat} {nm : Bs} {L : List Bs} {d : Int} {q : Bool} {st : Int} {inp out : Bs} (h : TAt w0 w hp nm L d q st inp out) : hp < w.heap.size := by
  obtain ⟨A, n, c, Ai, mi, ci, Ao, mo, co, h⟩ := h
  exact h.box.lt
def CallRead (e : Ending) : Prop := e = .returned (.agg #[.int .i64 7, .int .i64 0, .int .i64 0, .int .i64 32, .string ⟨#[]⟩, .string ⟨#[]⟩, .slice none 0 0])
def CallExit (st : Int) (e : Ending) : Prop := e = .returned (.agg #[.int .i64 1, .int .i64 st, .int .i64 0, .int .i64 0, .string ⟨#[]⟩, .string ⟨#[]⟩, .slice none 0 0])
def CallWrite (out : Bs) (e : Ending) (w' : World) : Prop := ∃ (A : Option Addr) (m c : Nat), m = min out.length 32 ∧ m ≤ c ∧ c ≤ maxLen ∧ e = .returned (.agg #[.int .i64 8, .int .i64 1, .int .i64 0, .int .i64 (m : Int), .string ⟨#[]⟩, .string ⟨#[]⟩, .slice A m c]) ∧ Reads w' w'.heap.size 1 A m (bytesV (out.take m))
theorem next_ret {R : Ending → World → Prop} {a : Act} {W : World} {hc : Nat} {v0 v1 v2 v3 v4 v5 v6 : Value} (hd : a.defers = []) (h4 : a.tmps.getD 4 undef = .pointer (some ⟨hc, 0, none⟩)) (hb : Blk W hc 57 #[v0, v1, v2, v3, v4, v5, v6]) (hR : R (.returned (.agg #[v0, v1, v2, v3, v4, v5, v6])) W) : bodyPost Tryz.prog Tryz.f23 R .ret a W := by
  have z0 : W.cell? ⟨hc, 0, none⟩ = some v0 := hb.cell 0
  have z1 : W.cell? ⟨hc, 1, none⟩ = some v1 := hb.cell 1
  have z2 : W.cell? ⟨hc, 2, none⟩ = some v2 := hb.cell 2
  have z3 : W.cell? ⟨hc, 3, none⟩ = some v3 := hb.cell 3
  have z4 : W.cell? ⟨hc, 4, none⟩ = some v4 := hb.cell 4
  have z5 : W.cell? ⟨hc, 5, none⟩ = some v5 := hb.cell 5
  have z6 : W.cell? ⟨hc, 6, none⟩ = some v6 := hb.cell 6
  have h4' : a.tmps[4]?.getD undef = .pointer (some ⟨hc, 0, none⟩) := by simpa using h4
  exact bodyPost_ret (v := .agg #[v0, v1, v2, v3, v4, v5, v6]) (by simp [results, Tryz.results23, go_sem, h4', z0, z1, z2, z3, z4, z5, z6]) hd hR
theorem KeepX.new {hp g : Nat} {u : Bool} {w W : World} (h : KeepX hp u w W) (hg : w.heap.size ≤ g) (i : Nat) (v : Value) : KeepX hp u w (W.setCell ⟨g, i, none⟩ v) :=
  ⟨h.os, h.tape, h.output, by simpa using h.size, fun k hk hne hu => (Below.heap_setCell W ⟨g, i, none⟩ v k (by dsimp only; omega)).trans (h.block k hk hne hu)⟩
theorem call_nob {z0 z1 z2 z3 : Int} {s4 s5 : ByteArray} {A : Option Addr} {n c : Nat} : ∀ (i : Nat) (x : Int), (#[.int .i64 z0, .int .i64 z1, .int .i64 z2, .int .i64 z3, .string s4, .string s5, .slice A n c] : Array Value)[i]? ≠ some (.int .u8 x) := by
  intro i x h
  match i, h with
  | 0, h => simp at h
  | 1, h => simp at h
  | 2, h => simp at h
  | 3, h => simp at h
  | 4, h => simp at h
  | 5, h => simp at h
  | 6, h => simp at h
  | i + 7, h => simp at h
theorem ToolM.other {w0 w w' : World} {hp g : Nat} {nm : Bs} {L : List Bs} {d : Int} {q : Bool} {st : Int} {inp out : Bs} {A : Option Addr} {n c : Nat} {Ai : Option Addr} {mi ci : Nat} {Ao : Option Addr} {mo co : Nat} {cs : Array Value}
    (h : ToolM w0 w hp nm L d q st inp out A n c Ai mi ci Ao mo co) (hk : KeepX g true w w') (hb : Blk w g 57 cs) (hc : ∀ (i : Nat) (x : Int), cs[i]? ≠ some (.int .u8 x)) (hg : w0.heap.size ≤ g) (hne : hp ≠ g) : TAt w0 w' hp nm L d q st inp out :=
  ⟨A, n, c, Ai, mi, ci, Ao, mo, co, hk.blk h.box hne (.inl rfl), h.ge, hk.ext (u := true) h.ext hg, hk.own h.args (own_blk_ne h.args hb (by decide)) (.inl rfl), hk.own h.inn (own_blk_ne h.inn hb (by decide)) (.inl rfl), hk.bytes h.outr hb hc, h.oc⟩
set_option maxHeartbeats 8000000 in
set_option maxRecDepth 100000 in
theorem next_f1 {w0 w : World} {hp : Nat} {nm : Bs} {L : List Bs} {st : Int} {inp out : Bs} {u : Bool} (h : TAt w0 w hp nm L 1 false st inp out) (er a : Int) (Ad : Option Addr) (nd cd : Nat) :
    Calls Tryz.prog 23 #[.pointer (some ⟨hp, 0, none⟩), .agg #[.int .i64 er, .int .i64 a, .int .i64 0, .slice Ad nd cd, .slice none 0 0, .int .i64 0, .int .i64 0, .int .i64 0, .int .i64 0, .int .i64 0, .int .i64 0]] w fun e w' => CallRead e ∧ TAt w0 w' hp nm L 1 true st inp out ∧ KeepX hp u w w' := by
  have hlt := h.lt
  have HBA := hide ((Blk.new w 55 #[.int .i64 er, .int .i64 a, .int .i64 0, .slice Ad nd cd, .slice none 0 0, .int .i64 0, .int .i64 0, .int .i64 0, .int .i64 0, .int .i64 0, .int .i64 0]).alloc (.cells #[.int .i64 0, .int .i64 0, .int .i64 0, .int .i64 0, .string ⟨#[]⟩, .string ⟨#[]⟩, .slice none 0 0] 57))
  have HBC := hide (Blk.new (w.alloc (.cells #[.int .i64 er, .int .i64 a, .int .i64 0, .slice Ad nd cd, .slice none 0 0, .int .i64 0, .int .i64 0, .int .i64 0, .int .i64 0, .int .i64 0, .int .i64 0] 55)) 57 #[.int .i64 0, .int .i64 0, .int .i64 0, .int .i64 0, .string ⟨#[]⟩, .string ⟨#[]⟩, .slice none 0 0])
  have HX := hide (((Ext.refl w).alloc (.cells #[.int .i64 er, .int .i64 a, .int .i64 0, .slice Ad nd cd, .slice none 0 0, .int .i64 0, .int .i64 0, .int .i64 0, .int .i64 0, .int .i64 0, .int .i64 0] 55)).alloc (.cells #[.int .i64 0, .int .i64 0, .int .i64 0, .int .i64 0, .string ⟨#[]⟩, .string ⟨#[]⟩, .slice none 0 0] 57))
  have hz : (w.alloc (.cells #[.int .i64 er, .int .i64 a, .int .i64 0, .slice Ad nd cd, .slice none 0 0, .int .i64 0, .int .i64 0, .int .i64 0, .int .i64 0, .int .i64 0, .int .i64 0] 55)).heap.size = w.heap.size + 1 := by simp
  rw [hz] at HBC
  have HT := hide (h.more HX.out)
  have hne : w.heap.size + 1 ≠ hp := by omega
  have hge : w.heap.size ≤ w.heap.size + 1 := by omega
  have hg0 : w0.heap.size ≤ w.heap.size + 1 := by
    obtain ⟨_, _, _, _, _, _, _, _, _, h⟩ := h
    have := h.ext.size
    omega
  clear h hz
  go_enter Tryz.func23, Tryz.ntmps23
  go_upto_region 1 with fail
  obtain ⟨W, hW⟩ : ∃ W, W = (w.alloc (.cells #[.int .i64 er, .int .i64 a, .int .i64 0, .slice Ad nd cd, .slice none 0 0, .int .i64 0, .int .i64 0, .int .i64 0, .int .i64 0, .int .i64 0, .int .i64 0] 55)).alloc (.cells #[.int .i64 0, .int .i64 0, .int .i64 0, .int .i64 0, .string ⟨#[]⟩, .string ⟨#[]⟩, .slice none 0 0] 57) := ⟨_, rfl⟩
  obtain ⟨hb, hhb⟩ : ∃ hb, hb = w.heap.size := ⟨_, rfl⟩
  rw [← hW] at HBA HBC HX HT ⊢
  have hg1 : w.heap.size ≤ hb + 1 := by omega
  rw [← hhb] at HBA HBC hne hg0 ⊢
  clear hW hge hhb hlt
  have HK1 := hide (KeepX.of HX.out hp u)
  have HBC1 := HBC
  obtain ⟨A1, n1, c1, Ai1, mi1, ci1, Ao1, mo1, co1, h1⟩ := HT.out
  have H1 := hide h1
  clear h1
  generalize W = w1 at *
  have c2 : w1.cell? ⟨hp, 2, none⟩ = some (.int .i64 1) := H1.out.box.cell 2
  have c3 : w1.cell? ⟨hp, 3, none⟩ = some (.bool false) := H1.out.box.cell 3
  have f3 := H1.out.box.frozen 3
  go_upto_region 4 with fail
  have H2 := hide (H1.out.next (KeepX.set hp true w1 3 (.bool true)) (H1.out.box.set_ 3 _))
  have HK2 := hide (HK1.out.trans (KeepX.set hp u w1 3 (.bool true)))
  have HBC2 := hide ((KeepX.set hp true w1 3 (.bool true)).blk HBC1.out hne (.inl rfl))
  clear c2 c3 f3 H1 HK1 HBC1
  generalize w1.setCell _ _ = W2 at *
  have c2 : W2.cell? ⟨hp, 2, none⟩ = some (.int .i64 1) := H2.out.box.cell 2
  have g0 := HBC2.out.frozen 0
  have g1 := HBC2.out.frozen 1
  have g2 := HBC2.out.frozen 2
  have g3 := HBC2.out.frozen 3
  have g4 := HBC2.out.frozen 4
  have g5 := HBC2.out.frozen 5
  have g6 := HBC2.out.frozen 6
  have k0 := HBC2.out.cell 0
  have k1 := HBC2.out.cell 1
  have k2 := HBC2.out.cell 2
  have k3 := HBC2.out.cell 3
  have k4 := HBC2.out.cell 4
  have k5 := HBC2.out.cell 5
  have k6 := HBC2.out.cell 6
  simp only [List.getElem?_toArray, List.getElem?_cons_zero, List.getElem?_cons_succ] at k0 k1 k2 k3 k4 k5 k6
  go_wp2_with fail
  refine next_ret rfl rfl (((((((HBC2.out.set_ 0 _).set_ 1 _).set_ 2 _).set_ 3 _).set_ 4 _).set_ 5 _).set_ 6 _) ⟨rfl, ?_, (((((((HK2.out.new hg1 0 _).new hg1 1 _).new hg1 2 _).new hg1 3 _).new hg1 4 _).new hg1 5 _).new hg1 6 _)⟩
  exact H2.out.other (((((((KeepX.set (hb + 1) true W2 0 _).trans (KeepX.set (hb + 1) true _ 1 _)).trans (KeepX.set (hb + 1) true _ 2 _)).trans (KeepX.set (hb + 1) true _ 3 _)).trans (KeepX.set (hb + 1) true _ 4 _)).trans (KeepX.set (hb + 1) true _ 5 _)).trans (KeepX.set (hb + 1) true _ 6 _)) HBC2.out call_nob hg0 (Ne.symm hne)
set_option maxHeartbeats 8000000 in
set_option maxRecDepth 100000 in
theorem next_f2 {w0 w : World} {hp : Nat} {nm : Bs} {L : List Bs} {st : Int} {inp out : Bs} {u : Bool} (h : TAt w0 w hp nm L 2 false st inp out) (er a : Int) (Ad : Option Addr) (nd cd : Nat) :
    Calls Tryz.prog 23 #[.pointer (some ⟨hp, 0, none⟩), .agg #[.int .i64 er, .int .i64 a, .int .i64 0, .slice Ad nd cd, .slice none 0 0, .int .i64 0, .int .i64 0, .int .i64 0, .int .i64 0, .int .i64 0, .int .i64 0]] w fun e w' => CallWrite out e w' ∧ TAt w0 w' hp nm L 2 true st inp out ∧ KeepX hp u w w' := by
  have hlt := h.lt
  have HBA := hide ((Blk.new w 55 #[.int .i64 er, .int .i64 a, .int .i64 0, .slice Ad nd cd, .slice none 0 0, .int .i64 0, .int .i64 0, .int .i64 0, .int .i64 0, .int .i64 0, .int .i64 0]).alloc (.cells #[.int .i64 0, .int .i64 0, .int .i64 0, .int .i64 0, .string ⟨#[]⟩, .string ⟨#[]⟩, .slice none 0 0] 57))
  have HBC := hide (Blk.new (w.alloc (.cells #[.int .i64 er, .int .i64 a, .int .i64 0, .slice Ad nd cd, .slice none 0 0, .int .i64 0, .int .i64 0, .int .i64 0, .int .i64 0, .int .i64 0, .int .i64 0] 55)) 57 #[.int .i64 0, .int .i64 0, .int .i64 0, .int .i64 0, .string ⟨#[]⟩, .string ⟨#[]⟩, .slice none 0 0])
  have HX := hide (((Ext.refl w).alloc (.cells #[.int .i64 er, .int .i64 a, .int .i64 0, .slice Ad nd cd, .slice none 0 0, .int .i64 0, .int .i64 0, .int .i64 0, .int .i64 0, .int .i64 0, .int .i64 0] 55)).alloc (.cells #[.int .i64 0, .int .i64 0, .int .i64 0, .int .i64 0, .string ⟨#[]⟩, .string ⟨#[]⟩, .slice none 0 0] 57))
  have hz : (w.alloc (.cells #[.int .i64 er, .int .i64 a, .int .i64 0, .slice Ad nd cd, .slice none 0 0, .int .i64 0, .int .i64 0, .int .i64 0, .int .i64 0, .int .i64 0, .int .i64 0] 55)).heap.size = w.heap.size + 1 := by simp
  rw [hz] at HBC
  have HT := hide (h.more HX.out)
  have hne : w.heap.size + 1 ≠ hp := by omega
  have hge : w.heap.size ≤ w.heap.size + 1 := by omega
  have hg0 : w0.heap.size ≤ w.heap.size + 1 := by
    obtain ⟨_, _, _, _, _, _, _, _, _, h⟩ := h
    have := h.ext.size
    omega
  clear h hz
  go_enter Tryz.func23, Tryz.ntmps23
  go_upto_region 1 with fail
  obtain ⟨W, hW⟩ : ∃ W, W = (w.alloc (.cells #[.int .i64 er, .int .i64 a, .int .i64 0, .slice Ad nd cd, .slice none 0 0, .int .i64 0, .int .i64 0, .int .i64 0, .int .i64 0, .int .i64 0, .int .i64 0] 55)).alloc (.cells #[.int .i64 0, .int .i64 0, .int .i64 0, .int .i64 0, .string ⟨#[]⟩, .string ⟨#[]⟩, .slice none 0 0] 57) := ⟨_, rfl⟩
  obtain ⟨hb, hhb⟩ : ∃ hb, hb = w.heap.size := ⟨_, rfl⟩
  rw [← hW] at HBA HBC HX HT ⊢
  have hg1 : w.heap.size ≤ hb + 1 := by omega
  rw [← hhb] at HBA HBC hne hg0 ⊢
  clear hW hge hhb hlt
  have HK1 := hide (KeepX.of HX.out hp u)
  have HBC1 := HBC
  obtain ⟨A1, n1, c1, Ai1, mi1, ci1, Ao1, mo1, co1, h1⟩ := HT.out
  have H1 := hide h1
  clear h1
  generalize W = w1 at *
  have c2 : w1.cell? ⟨hp, 2, none⟩ = some (.int .i64 2) := H1.out.box.cell 2
  have c3 : w1.cell? ⟨hp, 3, none⟩ = some (.bool false) := H1.out.box.cell 3
  have f3 := H1.out.box.frozen 3
  go_upto_region 4 with fail
  have H2 := hide (H1.out.next (KeepX.set hp true w1 3 (.bool true)) (H1.out.box.set_ 3 _))
  have HK2 := hide (HK1.out.trans (KeepX.set hp u w1 3 (.bool true)))
  have HBC2 := hide ((KeepX.set hp true w1 3 (.bool true)).blk HBC1.out hne (.inl rfl))
  clear c2 c3 f3 H1 HK1 HBC1
  generalize w1.setCell _ _ = W2 at *
  have c2 : W2.cell? ⟨hp, 2, none⟩ = some (.int .i64 2) := H2.out.box.cell 2
  have c5 : W2.cell? ⟨hp, 5, none⟩ = some (.slice Ao1 mo1 co1) := H2.out.box.cell 5
  have HOL := hide (bytes_len H2.out.outr)
  have HOC := hide H2.out.oc
  obtain ⟨m, hm⟩ : ∃ m, min mo1 32 = m := ⟨_, rfl⟩
  have hmm : m ≤ mo1 := by omega
  have hmc : (m : Int) ≤ (co1 : Int) := by have := HOC.out.1; omega
  have hm0 : (0 : Int) ≤ (m : Int) := by omega
  have m2 : min (mo1 : Int) (32 : Int) = (m : Int) := by omega
  have HCL := hide (byclone_any Ao1 m co1 W2.heap.size (bytesV (out.take m)) W2.drew (by have h1 := (H2.out.outr.take hmm); rw [bytesV_take] at h1; exact h1.drew) (bytesV_one _) (Nat.le_refl _) (by omega) (by have h1 := (H2.out.outr.take hmm); exact some_of h1))
  have HMM := hide (show m = min out.length 32 from by rw [HOL.out]; exact hm.symm)
  clear hm hmm
  have c5d : W2.drew.cell? ⟨hp, 5, none⟩ = some (.slice Ao1 mo1 co1) := c5
  go_upto_region 8 with fail
  go_region_held3 (fun w' => w'.cell? ⟨hp, 5, none⟩ = some (.slice Ao1 mo1 co1)) (first | with_reducible exact c5d | with_reducible exact k50 | ((repeat (with_reducible refine far1 ?_ hne _)); with_reducible exact k50) | fail)
    (first | (go_at_call 37; (with_reducible refine HCL.out.mono ?_); rintro e w3 ⟨A3, cc3, rfl, ho3, hx3⟩; have k50 : w3.cell? ⟨hp, 5, none⟩ = some (.slice Ao1 mo1 co1) := Ext.cell (w := W2.drew) hx3 c5; have HBC3 := hide (HBC2.out.ext ((Ext.refl W2).drew.trans hx3)); have g0 := HBC3.out.frozen 0; have g1 := HBC3.out.frozen 1; have g2 := HBC3.out.frozen 2; have g3 := HBC3.out.frozen 3; have g4 := HBC3.out.frozen 4; have g5 := HBC3.out.frozen 5; have g6 := HBC3.out.frozen 6; have k0 : w3.cell? ⟨hb + 1, 0, none⟩ = some (.int .i64 0) := HBC3.out.cell 0; have k1 : w3.cell? ⟨hb + 1, 1, none⟩ = some (.int .i64 0) := HBC3.out.cell 1; have k2 : w3.cell? ⟨hb + 1, 2, none⟩ = some (.int .i64 0) := HBC3.out.cell 2; have k3 : w3.cell? ⟨hb + 1, 3, none⟩ = some (.int .i64 0) := HBC3.out.cell 3; have k4 : w3.cell? ⟨hb + 1, 4, none⟩ = some (.string ⟨#[]⟩) := HBC3.out.cell 4; have k5 : w3.cell? ⟨hb + 1, 5, none⟩ = some (.string ⟨#[]⟩) := HBC3.out.cell 5; have k6 : w3.cell? ⟨hb + 1, 6, none⟩ = some (.slice none 0 0) := HBC3.out.cell 6) | fail)
  all_goals
    have HX3 := hide ((Ext.refl W2).drew.trans hx3)
    have H3 := hide (H2.out.more HX3.out)
    have HK3 := hide (HK2.out.trans (KeepX.of HX3.out hp u))
    have HO3 := hide (Reads.of_own ho3)
    have HL3 := hide (own_le ho3)
    clear ho3 hx3 k0 k1 k2 k3 k4 k5 k6 g0 g1 g2 g3 g4 g5 g6 c5 c5d k50
    go_wp2_with fail
    refine next_ret rfl rfl (((((((HBC3.out.set_ 0 _).set_ 1 _).set_ 2 _).set_ 3 _).set_ 4 _).set_ 5 _).set_ 6 _) ⟨⟨A3, m, cc3, HMM.out, HL3.out.1, HL3.out.2, rfl, ?_⟩, ?_, (((((((HK3.out.new hg1 0 _).new hg1 1 _).new hg1 2 _).new hg1 3 _).new hg1 4 _).new hg1 5 _).new hg1 6 _)⟩
    · exact KeepX.bytes (((((((KeepX.set (hb + 1) true w3 0 _).trans (KeepX.set (hb + 1) true _ 1 _)).trans (KeepX.set (hb + 1) true _ 2 _)).trans (KeepX.set (hb + 1) true _ 3 _)).trans (KeepX.set (hb + 1) true _ 4 _)).trans (KeepX.set (hb + 1) true _ 5 _)).trans (KeepX.set (hb + 1) true _ 6 _)) HO3.out HBC3.out call_nob
    · exact H3.out.other (((((((KeepX.set (hb + 1) true w3 0 _).trans (KeepX.set (hb + 1) true _ 1 _)).trans (KeepX.set (hb + 1) true _ 2 _)).trans (KeepX.set (hb + 1) true _ 3 _)).trans (KeepX.set (hb + 1) true _ 4 _)).trans (KeepX.set (hb + 1) true _ 5 _)).trans (KeepX.set (hb + 1) true _ 6 _)) HBC3.out call_nob hg0 (Ne.symm hne)
set_option maxHeartbeats 8000000 in
set_option maxRecDepth 100000 in
theorem next_f3 {w0 w : World} {hp : Nat} {nm : Bs} {L : List Bs} {st : Int} {inp out : Bs} {u : Bool} (h : TAt w0 w hp nm L 3 false st inp out) (er a : Int) (Ad : Option Addr) (nd cd : Nat) :
    Calls Tryz.prog 23 #[.pointer (some ⟨hp, 0, none⟩), .agg #[.int .i64 er, .int .i64 a, .int .i64 0, .slice Ad nd cd, .slice none 0 0, .int .i64 0, .int .i64 0, .int .i64 0, .int .i64 0, .int .i64 0, .int .i64 0]] w fun e w' => CallExit st e ∧ TAt w0 w' hp nm L 3 false st inp out ∧ KeepX hp u w w' := by
  have hlt := h.lt
  have HBA := hide ((Blk.new w 55 #[.int .i64 er, .int .i64 a, .int .i64 0, .slice Ad nd cd, .slice none 0 0, .int .i64 0, .int .i64 0, .int .i64 0, .int .i64 0, .int .i64 0, .int .i64 0]).alloc (.cells #[.int .i64 0, .int .i64 0, .int .i64 0, .int .i64 0, .string ⟨#[]⟩, .string ⟨#[]⟩, .slice none 0 0] 57))
  have HBC := hide (Blk.new (w.alloc (.cells #[.int .i64 er, .int .i64 a, .int .i64 0, .slice Ad nd cd, .slice none 0 0, .int .i64 0, .int .i64 0, .int .i64 0, .int .i64 0, .int .i64 0, .int .i64 0] 55)) 57 #[.int .i64 0, .int .i64 0, .int .i64 0, .int .i64 0, .string ⟨#[]⟩, .string ⟨#[]⟩, .slice none 0 0])
  have HX := hide (((Ext.refl w).alloc (.cells #[.int .i64 er, .int .i64 a, .int .i64 0, .slice Ad nd cd, .slice none 0 0, .int .i64 0, .int .i64 0, .int .i64 0, .int .i64 0, .int .i64 0, .int .i64 0] 55)).alloc (.cells #[.int .i64 0, .int .i64 0, .int .i64 0, .int .i64 0, .string ⟨#[]⟩, .string ⟨#[]⟩, .slice none 0 0] 57))
  have hz : (w.alloc (.cells #[.int .i64 er, .int .i64 a, .int .i64 0, .slice Ad nd cd, .slice none 0 0, .int .i64 0, .int .i64 0, .int .i64 0, .int .i64 0, .int .i64 0, .int .i64 0] 55)).heap.size = w.heap.size + 1 := by simp
  rw [hz] at HBC
  have HT := hide (h.more HX.out)
  have hne : w.heap.size + 1 ≠ hp := by omega
  have hge : w.heap.size ≤ w.heap.size + 1 := by omega
  have hg0 : w0.heap.size ≤ w.heap.size + 1 := by
    obtain ⟨_, _, _, _, _, _, _, _, _, h⟩ := h
    have := h.ext.size
    omega
  clear h hz
  go_enter Tryz.func23, Tryz.ntmps23
  go_upto_region 1 with fail
  obtain ⟨W, hW⟩ : ∃ W, W = (w.alloc (.cells #[.int .i64 er, .int .i64 a, .int .i64 0, .slice Ad nd cd, .slice none 0 0, .int .i64 0, .int .i64 0, .int .i64 0, .int .i64 0, .int .i64 0, .int .i64 0] 55)).alloc (.cells #[.int .i64 0, .int .i64 0, .int .i64 0, .int .i64 0, .string ⟨#[]⟩, .string ⟨#[]⟩, .slice none 0 0] 57) := ⟨_, rfl⟩
  obtain ⟨hb, hhb⟩ : ∃ hb, hb = w.heap.size := ⟨_, rfl⟩
  rw [← hW] at HBA HBC HX HT ⊢
  have hg1 : w.heap.size ≤ hb + 1 := by omega
  rw [← hhb] at HBA HBC hne hg0 ⊢
  clear hW hge hhb hlt
  have HK1 := hide (KeepX.of HX.out hp u)
  have HBC1 := HBC
  obtain ⟨A1, n1, c1, Ai1, mi1, ci1, Ao1, mo1, co1, h1⟩ := HT.out
  have H1 := hide h1
  clear h1
  generalize W = w1 at *
  have c2 : w1.cell? ⟨hp, 2, none⟩ = some (.int .i64 3) := H1.out.box.cell 2
  have c3 : w1.cell? ⟨hp, 3, none⟩ = some (.bool false) := H1.out.box.cell 3
  have f3 := H1.out.box.frozen 3
  go_upto_region 4 with fail
  have H2 := hide (H1.out.next (KeepX.set hp true w1 3 (.bool false)) (H1.out.box.set_ 3 _))
  have HK2 := hide (HK1.out.trans (KeepX.set hp u w1 3 (.bool false)))
  have HBC2 := hide ((KeepX.set hp true w1 3 (.bool false)).blk HBC1.out hne (.inl rfl))
  clear c2 c3 f3 H1 HK1 HBC1
  generalize w1.setCell _ _ = W2 at *
  have c2 : W2.cell? ⟨hp, 2, none⟩ = some (.int .i64 3) := H2.out.box.cell 2
  have g0 := HBC2.out.frozen 0
  have g1 := HBC2.out.frozen 1
  have g2 := HBC2.out.frozen 2
  have g3 := HBC2.out.frozen 3
  have g4 := HBC2.out.frozen 4
  have g5 := HBC2.out.frozen 5
  have g6 := HBC2.out.frozen 6
  have k0 := HBC2.out.cell 0
  have k1 := HBC2.out.cell 1
  have k2 := HBC2.out.cell 2
  have k3 := HBC2.out.cell 3
  have k4 := HBC2.out.cell 4
  have k5 := HBC2.out.cell 5
  have k6 := HBC2.out.cell 6
  simp only [List.getElem?_toArray, List.getElem?_cons_zero, List.getElem?_cons_succ] at k0 k1 k2 k3 k4 k5 k6
  have c6 : W2.cell? ⟨hp, 6, none⟩ = some (.int .i64 st) := H2.out.box.cell 6
  go_wp2_with fail
  refine next_ret rfl rfl (((((((HBC2.out.set_ 0 _).set_ 1 _).set_ 2 _).set_ 3 _).set_ 4 _).set_ 5 _).set_ 6 _) ⟨rfl, ?_, (((((((HK2.out.new hg1 0 _).new hg1 1 _).new hg1 2 _).new hg1 3 _).new hg1 4 _).new hg1 5 _).new hg1 6 _)⟩
  exact H2.out.other (((((((KeepX.set (hb + 1) true W2 0 _).trans (KeepX.set (hb + 1) true _ 1 _)).trans (KeepX.set (hb + 1) true _ 2 _)).trans (KeepX.set (hb + 1) true _ 3 _)).trans (KeepX.set (hb + 1) true _ 4 _)).trans (KeepX.set (hb + 1) true _ 5 _)).trans (KeepX.set (hb + 1) true _ 6 _)) HBC2.out call_nob hg0 (Ne.symm hne)
set_option maxHeartbeats 8000000 in
set_option maxRecDepth 100000 in
theorem next_t1 {w0 w : World} {hp : Nat} {nm : Bs} {L : List Bs} {d : Int} {st st' : Int} {inp inp' out out' : Bs} {u : Bool} (h : TAt w0 w hp nm L d true st inp out) (er a : Int) (Ad : Option Addr) (nd cd : Nat)
    (G : ∀ W, Ext w W → TAt w0 W hp nm L d true st inp out → Calls Tryz.prog 48 #[.pointer (some ⟨hp, 0, none⟩), .agg #[.int .i64 er, .int .i64 a, .int .i64 0, .slice Ad nd cd, .slice none 0 0, .int .i64 0, .int .i64 0, .int .i64 0, .int .i64 0, .int .i64 0, .int .i64 0]] W fun e w' => e = .returned (.tuple #[]) ∧ TAt w0 w' hp nm L 1 true st' inp' out' ∧ KeepX hp u W w') :
    Calls Tryz.prog 23 #[.pointer (some ⟨hp, 0, none⟩), .agg #[.int .i64 er, .int .i64 a, .int .i64 0, .slice Ad nd cd, .slice none 0 0, .int .i64 0, .int .i64 0, .int .i64 0, .int .i64 0, .int .i64 0, .int .i64 0]] w fun e w' => CallRead e ∧ TAt w0 w' hp nm L 1 true st' inp' out' ∧ KeepX hp u w w' := by
  have hlt := h.lt
  have HBA := hide ((Blk.new w 55 #[.int .i64 er, .int .i64 a, .int .i64 0, .slice Ad nd cd, .slice none 0 0, .int .i64 0, .int .i64 0, .int .i64 0, .int .i64 0, .int .i64 0, .int .i64 0]).alloc (.cells #[.int .i64 0, .int .i64 0, .int .i64 0, .int .i64 0, .string ⟨#[]⟩, .string ⟨#[]⟩, .slice none 0 0] 57))
  have HBC := hide (Blk.new (w.alloc (.cells #[.int .i64 er, .int .i64 a, .int .i64 0, .slice Ad nd cd, .slice none 0 0, .int .i64 0, .int .i64 0, .int .i64 0, .int .i64 0, .int .i64 0, .int .i64 0] 55)) 57 #[.int .i64 0, .int .i64 0, .int .i64 0, .int .i64 0, .string ⟨#[]⟩, .string ⟨#[]⟩, .slice none 0 0])
  have HX := hide (((Ext.refl w).alloc (.cells #[.int .i64 er, .int .i64 a, .int .i64 0, .slice Ad nd cd, .slice none 0 0, .int .i64 0, .int .i64 0, .int .i64 0, .int .i64 0, .int .i64 0, .int .i64 0] 55)).alloc (.cells #[.int .i64 0, .int .i64 0, .int .i64 0, .int .i64 0, .string ⟨#[]⟩, .string ⟨#[]⟩, .slice none 0 0] 57))
  have hz : (w.alloc (.cells #[.int .i64 er, .int .i64 a, .int .i64 0, .slice Ad nd cd, .slice none 0 0, .int .i64 0, .int .i64 0, .int .i64 0, .int .i64 0, .int .i64 0, .int .i64 0] 55)).heap.size = w.heap.size + 1 := by simp
  rw [hz] at HBC
  have HT := hide (h.more HX.out)
  have hne : w.heap.size + 1 ≠ hp := by omega
  have hge : w.heap.size ≤ w.heap.size + 1 := by omega
  have hg0 : w0.heap.size ≤ w.heap.size + 1 := by
    obtain ⟨_, _, _, _, _, _, _, _, _, h⟩ := h
    have := h.ext.size
    omega
  clear h hz
  have HG := hide G
  clear G
  go_enter Tryz.func23, Tryz.ntmps23
  go_upto_region 1 with fail
  obtain ⟨W, hW⟩ : ∃ W, W = (w.alloc (.cells #[.int .i64 er, .int .i64 a, .int .i64 0, .slice Ad nd cd, .slice none 0 0, .int .i64 0, .int .i64 0, .int .i64 0, .int .i64 0, .int .i64 0, .int .i64 0] 55)).alloc (.cells #[.int .i64 0, .int .i64 0, .int .i64 0, .int .i64 0, .string ⟨#[]⟩, .string ⟨#[]⟩, .slice none 0 0] 57) := ⟨_, rfl⟩
  obtain ⟨hb, hhb⟩ : ∃ hb, hb = w.heap.size := ⟨_, rfl⟩
  rw [← hW] at HBA HBC HX HT ⊢
  have hg1 : w.heap.size ≤ hb + 1 := by omega
  rw [← hhb] at HBA HBC hne hg0 ⊢
  clear hW hge hhb hlt
  have HG1 := hide (HG.out W HX.out HT.out)
  obtain ⟨A, n, c, Ai, mi, ci, Ao, mo, co, ht⟩ := HT.out
  have c3 : W.cell? ⟨hp, 3, none⟩ = some (.bool true) := ht.box.cell 3
  have a0 := HBA.out.cell 0
  have a1 := HBA.out.cell 1
  have a2 := HBA.out.cell 2
  have a3 := HBA.out.cell 3
  have a4 := HBA.out.cell 4
  have a5 := HBA.out.cell 5
  have a6 := HBA.out.cell 6
  have a7 := HBA.out.cell 7
  have a8 := HBA.out.cell 8
  have a9 := HBA.out.cell 9
  have a10 := HBA.out.cell 10
  simp only [List.getElem?_toArray, List.getElem?_cons_zero, List.getElem?_cons_succ] at a0 a1 a2 a3 a4 a5 a6 a7 a8 a9 a10
  clear ht HT HG
  go_wp2_with fail
  refine HG1.out.mono ?_
  rintro e w1 ⟨rfl, h1, hk1⟩
  have HK1 := hide ((KeepX.of HX.out hp u).trans hk1)
  have HBC1 := hide (hk1.blk HBC.out hne (.inr (by decide)))
  obtain ⟨A1, n1, c1, Ai1, mi1, ci1, Ao1, mo1, co1, h1⟩ := h1
  have H1 := hide h1
  clear h1 hk1 c3 a0 a1 a2 a3 a4 a5 a6 a7 a8 a9 a10
  have c2 : w1.cell? ⟨hp, 2, none⟩ = some (.int .i64 1) := H1.out.box.cell 2
  have c3 : w1.cell? ⟨hp, 3, none⟩ = some (.bool true) := H1.out.box.cell 3
  have f3 := H1.out.box.frozen 3
  go_upto_region 4 with fail
  have H2 := hide (H1.out.next (KeepX.set hp true w1 3 (.bool true)) (H1.out.box.set_ 3 _))
  have HK2 := hide (HK1.out.trans (KeepX.set hp u w1 3 (.bool true)))
  have HBC2 := hide ((KeepX.set hp true w1 3 (.bool true)).blk HBC1.out hne (.inl rfl))
  clear c2 c3 f3 H1 HK1 HBC1
  generalize w1.setCell _ _ = W2 at *
  have c2 : W2.cell? ⟨hp, 2, none⟩ = some (.int .i64 1) := H2.out.box.cell 2
  have g0 := HBC2.out.frozen 0
  have g1 := HBC2.out.frozen 1
  have g2 := HBC2.out.frozen 2
  have g3 := HBC2.out.frozen 3
  have g4 := HBC2.out.frozen 4
  have g5 := HBC2.out.frozen 5
  have g6 := HBC2.out.frozen 6
  have k0 := HBC2.out.cell 0
  have k1 := HBC2.out.cell 1
  have k2 := HBC2.out.cell 2
  have k3 := HBC2.out.cell 3
  have k4 := HBC2.out.cell 4
  have k5 := HBC2.out.cell 5
  have k6 := HBC2.out.cell 6
  simp only [List.getElem?_toArray, List.getElem?_cons_zero, List.getElem?_cons_succ] at k0 k1 k2 k3 k4 k5 k6
  go_wp2_with fail
  refine next_ret rfl rfl (((((((HBC2.out.set_ 0 _).set_ 1 _).set_ 2 _).set_ 3 _).set_ 4 _).set_ 5 _).set_ 6 _) ⟨rfl, ?_, (((((((HK2.out.new hg1 0 _).new hg1 1 _).new hg1 2 _).new hg1 3 _).new hg1 4 _).new hg1 5 _).new hg1 6 _)⟩
  exact H2.out.other (((((((KeepX.set (hb + 1) true W2 0 _).trans (KeepX.set (hb + 1) true _ 1 _)).trans (KeepX.set (hb + 1) true _ 2 _)).trans (KeepX.set (hb + 1) true _ 3 _)).trans (KeepX.set (hb + 1) true _ 4 _)).trans (KeepX.set (hb + 1) true _ 5 _)).trans (KeepX.set (hb + 1) true _ 6 _)) HBC2.out call_nob hg0 (Ne.symm hne)
set_option maxHeartbeats 8000000 in
set_option maxRecDepth 100000 in
theorem next_t2 {w0 w : World} {hp : Nat} {nm : Bs} {L : List Bs} {d : Int} {st st' : Int} {inp inp' out out' : Bs} {u : Bool} (h : TAt w0 w hp nm L d true st inp out) (er a : Int) (Ad : Option Addr) (nd cd : Nat)
    (G : ∀ W, Ext w W → TAt w0 W hp nm L d true st inp out → Calls Tryz.prog 48 #[.pointer (some ⟨hp, 0, none⟩), .agg #[.int .i64 er, .int .i64 a, .int .i64 0, .slice Ad nd cd, .slice none 0 0, .int .i64 0, .int .i64 0, .int .i64 0, .int .i64 0, .int .i64 0, .int .i64 0]] W fun e w' => e = .returned (.tuple #[]) ∧ TAt w0 w' hp nm L 2 true st' inp' out' ∧ KeepX hp u W w') :
    Calls Tryz.prog 23 #[.pointer (some ⟨hp, 0, none⟩), .agg #[.int .i64 er, .int .i64 a, .int .i64 0, .slice Ad nd cd, .slice none 0 0, .int .i64 0, .int .i64 0, .int .i64 0, .int .i64 0, .int .i64 0, .int .i64 0]] w fun e w' => CallWrite out' e w' ∧ TAt w0 w' hp nm L 2 true st' inp' out' ∧ KeepX hp u w w' := by
  have hlt := h.lt
  have HBA := hide ((Blk.new w 55 #[.int .i64 er, .int .i64 a, .int .i64 0, .slice Ad nd cd, .slice none 0 0, .int .i64 0, .int .i64 0, .int .i64 0, .int .i64 0, .int .i64 0, .int .i64 0]).alloc (.cells #[.int .i64 0, .int .i64 0, .int .i64 0, .int .i64 0, .string ⟨#[]⟩, .string ⟨#[]⟩, .slice none 0 0] 57))
  have HBC := hide (Blk.new (w.alloc (.cells #[.int .i64 er, .int .i64 a, .int .i64 0, .slice Ad nd cd, .slice none 0 0, .int .i64 0, .int .i64 0, .int .i64 0, .int .i64 0, .int .i64 0, .int .i64 0] 55)) 57 #[.int .i64 0, .int .i64 0, .int .i64 0, .int .i64 0, .string ⟨#[]⟩, .string ⟨#[]⟩, .slice none 0 0])
  have HX := hide (((Ext.refl w).alloc (.cells #[.int .i64 er, .int .i64 a, .int .i64 0, .slice Ad nd cd, .slice none 0 0, .int .i64 0, .int .i64 0, .int .i64 0, .int .i64 0, .int .i64 0, .int .i64 0] 55)).alloc (.cells #[.int .i64 0, .int .i64 0, .int .i64 0, .int .i64 0, .string ⟨#[]⟩, .string ⟨#[]⟩, .slice none 0 0] 57))
  have hz : (w.alloc (.cells #[.int .i64 er, .int .i64 a, .int .i64 0, .slice Ad nd cd, .slice none 0 0, .int .i64 0, .int .i64 0, .int .i64 0, .int .i64 0, .int .i64 0, .int .i64 0] 55)).heap.size = w.heap.size + 1 := by simp
  rw [hz] at HBC
  have HT := hide (h.more HX.out)
  have hne : w.heap.size + 1 ≠ hp := by omega
  have hge : w.heap.size ≤ w.heap.size + 1 := by omega
  have hg0 : w0.heap.size ≤ w.heap.size + 1 := by
    obtain ⟨_, _, _, _, _, _, _, _, _, h⟩ := h
    have := h.ext.size
    omega
  clear h hz
  have HG := hide G
  clear G
  go_enter Tryz.func23, Tryz.ntmps23
  go_upto_region 1 with fail
  obtain ⟨W, hW⟩ : ∃ W, W = (w.alloc (.cells #[.int .i64 er, .int .i64 a, .int .i64 0, .slice Ad nd cd, .slice none 0 0, .int .i64 0, .int .i64 0, .int .i64 0, .int .i64 0, .int .i64 0, .int .i64 0] 55)).alloc (.cells #[.int .i64 0, .int .i64 0, .int .i64 0, .int .i64 0, .string ⟨#[]⟩, .string ⟨#[]⟩, .slice none 0 0] 57) := ⟨_, rfl⟩
  obtain ⟨hb, hhb⟩ : ∃ hb, hb = w.heap.size := ⟨_, rfl⟩
  rw [← hW] at HBA HBC HX HT ⊢
  have hg1 : w.heap.size ≤ hb + 1 := by omega
  rw [← hhb] at HBA HBC hne hg0 ⊢
  clear hW hge hhb hlt
  have HG1 := hide (HG.out W HX.out HT.out)
  obtain ⟨A, n, c, Ai, mi, ci, Ao, mo, co, ht⟩ := HT.out
  have c3 : W.cell? ⟨hp, 3, none⟩ = some (.bool true) := ht.box.cell 3
  have a0 := HBA.out.cell 0
  have a1 := HBA.out.cell 1
  have a2 := HBA.out.cell 2
  have a3 := HBA.out.cell 3
  have a4 := HBA.out.cell 4
  have a5 := HBA.out.cell 5
  have a6 := HBA.out.cell 6
  have a7 := HBA.out.cell 7
  have a8 := HBA.out.cell 8
  have a9 := HBA.out.cell 9
  have a10 := HBA.out.cell 10
  simp only [List.getElem?_toArray, List.getElem?_cons_zero, List.getElem?_cons_succ] at a0 a1 a2 a3 a4 a5 a6 a7 a8 a9 a10
  clear ht HT HG
  go_wp2_with fail
  refine HG1.out.mono ?_
  rintro e w1 ⟨rfl, h1, hk1⟩
  have HK1 := hide ((KeepX.of HX.out hp u).trans hk1)
  have HBC1 := hide (hk1.blk HBC.out hne (.inr (by decide)))
  obtain ⟨A1, n1, c1, Ai1, mi1, ci1, Ao1, mo1, co1, h1⟩ := h1
  have H1 := hide h1
  clear h1 hk1 c3 a0 a1 a2 a3 a4 a5 a6 a7 a8 a9 a10
  have c2 : w1.cell? ⟨hp, 2, none⟩ = some (.int .i64 2) := H1.out.box.cell 2
  have c3 : w1.cell? ⟨hp, 3, none⟩ = some (.bool true) := H1.out.box.cell 3
  have f3 := H1.out.box.frozen 3
  go_upto_region 4 with fail
  have H2 := hide (H1.out.next (KeepX.set hp true w1 3 (.bool true)) (H1.out.box.set_ 3 _))
  have HK2 := hide (HK1.out.trans (KeepX.set hp u w1 3 (.bool true)))
  have HBC2 := hide ((KeepX.set hp true w1 3 (.bool true)).blk HBC1.out hne (.inl rfl))
  clear c2 c3 f3 H1 HK1 HBC1
  generalize w1.setCell _ _ = W2 at *
  have c2 : W2.cell? ⟨hp, 2, none⟩ = some (.int .i64 2) := H2.out.box.cell 2
  have c5 : W2.cell? ⟨hp, 5, none⟩ = some (.slice Ao1 mo1 co1) := H2.out.box.cell 5
  have HOL := hide (bytes_len H2.out.outr)
  have HOC := hide H2.out.oc
  obtain ⟨m, hm⟩ : ∃ m, min mo1 32 = m := ⟨_, rfl⟩
  have hmm : m ≤ mo1 := by omega
  have hmc : (m : Int) ≤ (co1 : Int) := by have := HOC.out.1; omega
  have hm0 : (0 : Int) ≤ (m : Int) := by omega
  have m2 : min (mo1 : Int) (32 : Int) = (m : Int) := by omega
  have HCL := hide (byclone_any Ao1 m co1 W2.heap.size (bytesV (out'.take m)) W2.drew (by have h1 := (H2.out.outr.take hmm); rw [bytesV_take] at h1; exact h1.drew) (bytesV_one _) (Nat.le_refl _) (by omega) (by have h1 := (H2.out.outr.take hmm); exact some_of h1))
  have HMM := hide (show m = min out'.length 32 from by rw [HOL.out]; exact hm.symm)
  clear hm hmm
  have c5d : W2.drew.cell? ⟨hp, 5, none⟩ = some (.slice Ao1 mo1 co1) := c5
  go_upto_region 8 with fail
  go_region_held3 (fun w' => w'.cell? ⟨hp, 5, none⟩ = some (.slice Ao1 mo1 co1)) (first | with_reducible exact c5d | with_reducible exact k50 | ((repeat (with_reducible refine far1 ?_ hne _)); with_reducible exact k50) | fail)
    (first | (go_at_call 37; (with_reducible refine HCL.out.mono ?_); rintro e w3 ⟨A3, cc3, rfl, ho3, hx3⟩; have k50 : w3.cell? ⟨hp, 5, none⟩ = some (.slice Ao1 mo1 co1) := Ext.cell (w := W2.drew) hx3 c5; have HBC3 := hide (HBC2.out.ext ((Ext.refl W2).drew.trans hx3)); have g0 := HBC3.out.frozen 0; have g1 := HBC3.out.frozen 1; have g2 := HBC3.out.frozen 2; have g3 := HBC3.out.frozen 3; have g4 := HBC3.out.frozen 4; have g5 := HBC3.out.frozen 5; have g6 := HBC3.out.frozen 6; have k0 : w3.cell? ⟨hb + 1, 0, none⟩ = some (.int .i64 0) := HBC3.out.cell 0; have k1 : w3.cell? ⟨hb + 1, 1, none⟩ = some (.int .i64 0) := HBC3.out.cell 1; have k2 : w3.cell? ⟨hb + 1, 2, none⟩ = some (.int .i64 0) := HBC3.out.cell 2; have k3 : w3.cell? ⟨hb + 1, 3, none⟩ = some (.int .i64 0) := HBC3.out.cell 3; have k4 : w3.cell? ⟨hb + 1, 4, none⟩ = some (.string ⟨#[]⟩) := HBC3.out.cell 4; have k5 : w3.cell? ⟨hb + 1, 5, none⟩ = some (.string ⟨#[]⟩) := HBC3.out.cell 5; have k6 : w3.cell? ⟨hb + 1, 6, none⟩ = some (.slice none 0 0) := HBC3.out.cell 6) | fail)
  all_goals
    have HX3 := hide ((Ext.refl W2).drew.trans hx3)
    have H3 := hide (H2.out.more HX3.out)
    have HK3 := hide (HK2.out.trans (KeepX.of HX3.out hp u))
    have HO3 := hide (Reads.of_own ho3)
    have HL3 := hide (own_le ho3)
    clear ho3 hx3 k0 k1 k2 k3 k4 k5 k6 g0 g1 g2 g3 g4 g5 g6 c5 c5d k50
    go_wp2_with fail
    refine next_ret rfl rfl (((((((HBC3.out.set_ 0 _).set_ 1 _).set_ 2 _).set_ 3 _).set_ 4 _).set_ 5 _).set_ 6 _) ⟨⟨A3, m, cc3, HMM.out, HL3.out.1, HL3.out.2, rfl, ?_⟩, ?_, (((((((HK3.out.new hg1 0 _).new hg1 1 _).new hg1 2 _).new hg1 3 _).new hg1 4 _).new hg1 5 _).new hg1 6 _)⟩
    · exact KeepX.bytes (((((((KeepX.set (hb + 1) true w3 0 _).trans (KeepX.set (hb + 1) true _ 1 _)).trans (KeepX.set (hb + 1) true _ 2 _)).trans (KeepX.set (hb + 1) true _ 3 _)).trans (KeepX.set (hb + 1) true _ 4 _)).trans (KeepX.set (hb + 1) true _ 5 _)).trans (KeepX.set (hb + 1) true _ 6 _)) HO3.out HBC3.out call_nob
    · exact H3.out.other (((((((KeepX.set (hb + 1) true w3 0 _).trans (KeepX.set (hb + 1) true _ 1 _)).trans (KeepX.set (hb + 1) true _ 2 _)).trans (KeepX.set (hb + 1) true _ 3 _)).trans (KeepX.set (hb + 1) true _ 4 _)).trans (KeepX.set (hb + 1) true _ 5 _)).trans (KeepX.set (hb + 1) true _ 6 _)) HBC3.out call_nob hg0 (Ne.symm hne)
set_option maxHeartbeats 8000000 in
set_option maxRecDepth 100000 in
theorem next_t3 {w0 w : World} {hp : Nat} {nm : Bs} {L : List Bs} {d : Int} {st st' : Int} {inp inp' out out' : Bs} {u : Bool} (h : TAt w0 w hp nm L d true st inp out) (er a : Int) (Ad : Option Addr) (nd cd : Nat)
    (G : ∀ W, Ext w W → TAt w0 W hp nm L d true st inp out → Calls Tryz.prog 48 #[.pointer (some ⟨hp, 0, none⟩), .agg #[.int .i64 er, .int .i64 a, .int .i64 0, .slice Ad nd cd, .slice none 0 0, .int .i64 0, .int .i64 0, .int .i64 0, .int .i64 0, .int .i64 0, .int .i64 0]] W fun e w' => e = .returned (.tuple #[]) ∧ TAt w0 w' hp nm L 3 true st' inp' out' ∧ KeepX hp u W w') :
    Calls Tryz.prog 23 #[.pointer (some ⟨hp, 0, none⟩), .agg #[.int .i64 er, .int .i64 a, .int .i64 0, .slice Ad nd cd, .slice none 0 0, .int .i64 0, .int .i64 0, .int .i64 0, .int .i64 0, .int .i64 0, .int .i64 0]] w fun e w' => CallExit st' e ∧ TAt w0 w' hp nm L 3 false st' inp' out' ∧ KeepX hp u w w' := by
  have hlt := h.lt
  have HBA := hide ((Blk.new w 55 #[.int .i64 er, .int .i64 a, .int .i64 0, .slice Ad nd cd, .slice none 0 0, .int .i64 0, .int .i64 0, .int .i64 0, .int .i64 0, .int .i64 0, .int .i64 0]).alloc (.cells #[.int .i64 0, .int .i64 0, .int .i64 0, .int .i64 0, .string ⟨#[]⟩, .string ⟨#[]⟩, .slice none 0 0] 57))
  have HBC := hide (Blk.new (w.alloc (.cells #[.int .i64 er, .int .i64 a, .int .i64 0, .slice Ad nd cd, .slice none 0 0, .int .i64 0, .int .i64 0, .int .i64 0, .int .i64 0, .int .i64 0, .int .i64 0] 55)) 57 #[.int .i64 0, .int .i64 0, .int .i64 0, .int .i64 0, .string ⟨#[]⟩, .string ⟨#[]⟩, .slice none 0 0])
  have HX := hide (((Ext.refl w).alloc (.cells #[.int .i64 er, .int .i64 a, .int .i64 0, .slice Ad nd cd, .slice none 0 0, .int .i64 0, .int .i64 0, .int .i64 0, .int .i64 0, .int .i64 0, .int .i64 0] 55)).alloc (.cells #[.int .i64 0, .int .i64 0, .int .i64 0, .int .i64 0, .string ⟨#[]⟩, .string ⟨#[]⟩, .slice none 0 0] 57))
  have hz : (w.alloc (.cells #[.int .i64 er, .int .i64 a, .int .i64 0, .slice Ad nd cd, .slice none 0 0, .int .i64 0, .int .i64 0, .int .i64 0, .int .i64 0, .int .i64 0, .int .i64 0] 55)).heap.size = w.heap.size + 1 := by simp
  rw [hz] at HBC
  have HT := hide (h.more HX.out)
  have hne : w.heap.size + 1 ≠ hp := by omega
  have hge : w.heap.size ≤ w.heap.size + 1 := by omega
  have hg0 : w0.heap.size ≤ w.heap.size + 1 := by
    obtain ⟨_, _, _, _, _, _, _, _, _, h⟩ := h
    have := h.ext.size
    omega
  clear h hz
  have HG := hide G
  clear G
  go_enter Tryz.func23, Tryz.ntmps23
  go_upto_region 1 with fail
  obtain ⟨W, hW⟩ : ∃ W, W = (w.alloc (.cells #[.int .i64 er, .int .i64 a, .int .i64 0, .slice Ad nd cd, .slice none 0 0, .int .i64 0, .int .i64 0, .int .i64 0, .int .i64 0, .int .i64 0, .int .i64 0] 55)).alloc (.cells #[.int .i64 0, .int .i64 0, .int .i64 0, .int .i64 0, .string ⟨#[]⟩, .string ⟨#[]⟩, .slice none 0 0] 57) := ⟨_, rfl⟩
  obtain ⟨hb, hhb⟩ : ∃ hb, hb = w.heap.size := ⟨_, rfl⟩
  rw [← hW] at HBA HBC HX HT ⊢
  have hg1 : w.heap.size ≤ hb + 1 := by omega
  rw [← hhb] at HBA HBC hne hg0 ⊢
  clear hW hge hhb hlt
  have HG1 := hide (HG.out W HX.out HT.out)
  obtain ⟨A, n, c, Ai, mi, ci, Ao, mo, co, ht⟩ := HT.out
  have c3 : W.cell? ⟨hp, 3, none⟩ = some (.bool true) := ht.box.cell 3
  have a0 := HBA.out.cell 0
  have a1 := HBA.out.cell 1
  have a2 := HBA.out.cell 2
  have a3 := HBA.out.cell 3
  have a4 := HBA.out.cell 4
  have a5 := HBA.out.cell 5
  have a6 := HBA.out.cell 6
  have a7 := HBA.out.cell 7
  have a8 := HBA.out.cell 8
  have a9 := HBA.out.cell 9
  have a10 := HBA.out.cell 10
  simp only [List.getElem?_toArray, List.getElem?_cons_zero, List.getElem?_cons_succ] at a0 a1 a2 a3 a4 a5 a6 a7 a8 a9 a10
  clear ht HT HG
  go_wp2_with fail
  refine HG1.out.mono ?_
  rintro e w1 ⟨rfl, h1, hk1⟩
  have HK1 := hide ((KeepX.of HX.out hp u).trans hk1)
  have HBC1 := hide (hk1.blk HBC.out hne (.inr (by decide)))
  obtain ⟨A1, n1, c1, Ai1, mi1, ci1, Ao1, mo1, co1, h1⟩ := h1
  have H1 := hide h1
  clear h1 hk1 c3 a0 a1 a2 a3 a4 a5 a6 a7 a8 a9 a10
  have c2 : w1.cell? ⟨hp, 2, none⟩ = some (.int .i64 3) := H1.out.box.cell 2
  have c3 : w1.cell? ⟨hp, 3, none⟩ = some (.bool true) := H1.out.box.cell 3
  have f3 := H1.out.box.frozen 3
  go_upto_region 4 with fail
  have H2 := hide (H1.out.next (KeepX.set hp true w1 3 (.bool false)) (H1.out.box.set_ 3 _))
  have HK2 := hide (HK1.out.trans (KeepX.set hp u w1 3 (.bool false)))
  have HBC2 := hide ((KeepX.set hp true w1 3 (.bool false)).blk HBC1.out hne (.inl rfl))
  clear c2 c3 f3 H1 HK1 HBC1
  generalize w1.setCell _ _ = W2 at *
  have c2 : W2.cell? ⟨hp, 2, none⟩ = some (.int .i64 3) := H2.out.box.cell 2
  have g0 := HBC2.out.frozen 0
  have g1 := HBC2.out.frozen 1
  have g2 := HBC2.out.frozen 2
  have g3 := HBC2.out.frozen 3
  have g4 := HBC2.out.frozen 4
  have g5 := HBC2.out.frozen 5
  have g6 := HBC2.out.frozen 6
  have k0 := HBC2.out.cell 0
  have k1 := HBC2.out.cell 1
  have k2 := HBC2.out.cell 2
  have k3 := HBC2.out.cell 3
  have k4 := HBC2.out.cell 4
  have k5 := HBC2.out.cell 5
  have k6 := HBC2.out.cell 6
  simp only [List.getElem?_toArray, List.getElem?_cons_zero, List.getElem?_cons_succ] at k0 k1 k2 k3 k4 k5 k6
  have c6 : W2.cell? ⟨hp, 6, none⟩ = some (.int .i64 st') := H2.out.box.cell 6
  go_wp2_with fail
  refine next_ret rfl rfl (((((((HBC2.out.set_ 0 _).set_ 1 _).set_ 2 _).set_ 3 _).set_ 4 _).set_ 5 _).set_ 6 _) ⟨rfl, ?_, (((((((HK2.out.new hg1 0 _).new hg1 1 _).new hg1 2 _).new hg1 3 _).new hg1 4 _).new hg1 5 _).new hg1 6 _)⟩
  exact H2.out.other (((((((KeepX.set (hb + 1) true W2 0 _).trans (KeepX.set (hb + 1) true _ 1 _)).trans (KeepX.set (hb + 1) true _ 2 _)).trans (KeepX.set (hb + 1) true _ 3 _)).trans (KeepX.set (hb + 1) true _ 4 _)).trans (KeepX.set (hb + 1) true _ 5 _)).trans (KeepX.set (hb + 1) true _ 6 _)) HBC2.out call_nob hg0 (Ne.symm hne)
end Go.Proofs.YtjmonkacijncbaaGreatDoor
