/- slices.Equal on parts and slices.EqualFunc on tokens, where they are the same. -/
import Derived.Test.YtapjfiifpfoppaaDoorWPrint
namespace Go.Proofs.YtapjfiifpfoppaaDoor
open Go.RowKit
set_option linter.unusedVariables false

def EqPRel (w : World) (n : Nat) (i : Value) (wr : World) : Prop := ∃ k : Nat, k ≤ n ∧ i = .int .i64 k ∧ Ext w wr
set_option maxHeartbeats 2000000 in
set_option maxRecDepth 100000 in
theorem parts_equal (ps : List PartD) (A A' : Option Addr) (c c' B : Nat) (w : World) (hr : Reads w B 3 A ps.length (ps.flatMap partC)) (hr' : Reads w B 3 A' ps.length (ps.flatMap partC)) (hB : B ≤ w.heap.size) (hm : ps.length ≤ 1000000) :
    Calls Tryd.prog 18 #[.slice A ps.length c, .slice A' ps.length c'] w fun e w' => e = .returned (.bool true) ∧ Ext w w' := by
  have HR := hide hr
  have HR' := hide hr'
  clear hr hr'
  go_enter Tryd.func18, Tryd.ntmps18
  go_wp2
  go_loopw [13] (EqPRel w ps.length) (fun i _ => ps.length - (intOf i).toNat)
  case atStart => exact ⟨0, Nat.zero_le _, rfl, Ext.refl _⟩
  case round =>
    obtain ⟨k, hk, rfl, hx⟩ := hrel
    have HX := hide hx
    have hrk := hx.reads HR.out hB
    have hrk' := hx.reads HR'.out hB
    clear hx
    by_cases hlt : k < ps.length
    · obtain ⟨b, off, rfl, -⟩ := hrk.addr (by omega) (by omega)
      obtain ⟨b', off', rfl, -⟩ := hrk'.addr (by omega) (by omega)
      have q0 := Reads.elem partC_len hrk k hlt (by omega) 0 (by omega) (u := .string (str ps[k].text)) rfl
      have q1 := Reads.elem partC_len hrk k hlt (by omega) 1 (by omega) (u := .bool ps[k].var) rfl
      have q2 := Reads.elem partC_len hrk k hlt (by omega) 2 (by omega) (u := .bool ps[k].quoted) rfl
      have r0 := Reads.elem partC_len hrk' k hlt (by omega) 0 (by omega) (u := .string (str ps[k].text)) rfl
      have r1 := Reads.elem partC_len hrk' k hlt (by omega) 1 (by omega) (u := .bool ps[k].var) rfl
      have r2 := Reads.elem partC_len hrk' k hlt (by omega) 2 (by omega) (u := .bool ps[k].quoted) rfl
      rw [Nat.add_zero] at q0 r0
      generalize str ps[k].text = X at *
      generalize ps[k].var = v at *
      generalize ps[k].quoted = u at *
      clear hrk hrk'
      go_wp2_with fail
      go_quiet (fail)
      have HX2 := hide (HX.out.drewN nq)
      go_wp2_with fail
      go_roundw
      case rel => exact ⟨k + 1, by omega, by go_num, HX2.out⟩
      case measure => simp [intOf]; omega
    · go_wp2
      go_ret
      exact ⟨rfl, HX.out⟩
set_option maxHeartbeats 2000000 in
set_option maxRecDepth 100000 in
theorem tok_equal (op : List UInt8) (ps : List PartD) (A A' : Option Addr) (c c' B : Nat) (a a' : Int) (w : World) (hr : Reads w B 3 A ps.length (ps.flatMap partC)) (hr' : Reads w B 3 A' ps.length (ps.flatMap partC)) (hB : B ≤ w.heap.size) (hm : ps.length ≤ 1000000) :
    Calls Tryd.prog 17 #[.agg #[.string (str op), .slice A ps.length c, .int .i64 a], .agg #[.string (str op), .slice A' ps.length c', .int .i64 a']] w fun e w' => e = .returned (.bool true) ∧ Ext w w' := by
  have HEQ := hide (fun (W : World) (hx : Ext w W) => parts_equal ps A A' c c' B W (hx.reads hr hB) (hx.reads hr' hB) (Nat.le_trans hB hx.size) hm)
  have HX1 := hide (((Ext.refl w).alloc (.cells #[.string (str op), .slice A ps.length c, .int .i64 a] 36)).alloc (.cells #[.string (str op), .slice A' ps.length c', .int .i64 a'] 36))
  clear hr hr'
  generalize str op = X at *
  go_enter Tryd.func17, Tryd.ntmps17
  go_wp2_with fail
  refine (HEQ.out _ HX1.out).mono ?_
  rintro e w2 ⟨rfl, hx2⟩
  have HX2 := hide (HX1.out.trans hx2)
  clear hx2 HEQ HX1
  go_wp2_with fail
  go_ret
  exact ⟨rfl, HX2.out⟩
theorem tok_part (ls : List (TokD × Value)) (k : Nat) (h : k < ls.length) : (tokC ls[k])[0]? = some (.string (str ls[k].1.op)) ∧ (tokC ls[k])[1]? = some ls[k].2 ∧ (tokC ls[k])[2]? = some (.int .i64 (ls[k].1.at_ : Int)) := ⟨rfl, rfl, rfl⟩
set_option maxHeartbeats 4000000 in
set_option maxRecDepth 100000 in
theorem toks_equal (B : Nat) (A A' : Option Addr) (c c' : Nat) (ls ms : List (TokD × Value)) (w : World) (h : ToksAt w B A c ls) (h' : ToksAt w B A' c' ms) (he : ls.map (fun x => (x.1.op, x.1.parts)) = ms.map (fun x => (x.1.op, x.1.parts))) (hm : ls.length ≤ 1000000) (hps : ∀ x ∈ ls, x.1.parts.length ≤ 1000000) :
    Calls Tryd.prog 16 #[.slice A ls.length c, .slice A' ms.length c', .func (.func 17) #[] #[]] w fun e w' => e = .returned (.bool true) ∧ Ext w w' := by
  have hlen : ms.length = ls.length := by have := congrArg List.length he; simpa using this.symm
  rw [hlen]
  have HT := hide h
  have HT' := hide h'
  have HE := hide he
  have HL := hide hlen
  have HPS := hide hps
  clear h h' he hlen hps
  go_enter Tryd.func16, Tryd.ntmps16
  go_wp2_with fail
  go_loopw [17] (EqPRel w ls.length) (fun i _ => ls.length - (intOf i).toNat)
  case atStart => exact ⟨0, Nat.zero_le _, rfl, Ext.refl _⟩
  case round =>
    obtain ⟨k, hk, rfl, hx⟩ := hrel
    have HX := hide hx
    have hrk := hx.reads (Reads.of_own HT.out.own) (Nat.le_refl _)
    have hrk' := hx.reads (Reads.of_own HT'.out.own) (Nat.le_refl _)
    clear hx
    by_cases hlt : k < ls.length
    · have hlt' : k < ms.length := by rw [HL.out]; exact hlt
      have hsame : ls[k].1.op = ms[k].1.op ∧ ls[k].1.parts = ms[k].1.parts := by
        have := congrArg (fun l => l[k]?) HE.out
        simp only [List.getElem?_map, List.getElem?_eq_getElem hlt, List.getElem?_eq_getElem hlt', Option.map_some, Option.some.injEq, Prod.mk.injEq] at this
        exact this
      obtain ⟨b, off, rfl, -⟩ := hrk.addr (by omega) (by omega)
      obtain ⟨b', off', rfl, -⟩ := hrk'.addr (by omega) (by omega)
      obtain ⟨Ap, cp, ep, op⟩ := HT.out.parts _ (List.getElem_mem hlt)
      obtain ⟨Aq, cq, eq, oq⟩ := HT'.out.parts _ (List.getElem_mem hlt')
      have q0 := Reads.elem tokC_len hrk k hlt (by omega) 0 (by omega) (u := .string (str ls[k].1.op)) rfl
      have q1 := Reads.elem tokC_len hrk k hlt (by omega) 1 (by omega) (u := ls[k].2) rfl
      have q2 := Reads.elem tokC_len hrk k hlt (by omega) 2 (by omega) (u := .int .i64 (ls[k].1.at_ : Int)) rfl
      have r0 := Reads.elem tokC_len hrk' k hlt' (by omega) 0 (by omega) (u := .string (str ms[k].1.op)) rfl
      have r1 := Reads.elem tokC_len hrk' k hlt' (by omega) 1 (by omega) (u := ms[k].2) rfl
      have r2 := Reads.elem tokC_len hrk' k hlt' (by omega) 2 (by omega) (u := .int .i64 (ms[k].1.at_ : Int)) rfl
      rw [Nat.add_zero] at q0 r0
      rw [ep] at q1
      rw [eq] at r1
      rw [← hsame.1] at r0
      rw [← hsame.2] at r1 oq
      have hpl := HPS.out _ (List.getElem_mem hlt)
      have HOP := hide (Reads.of_own op)
      have HOQ := hide (Reads.of_own oq)
      generalize ls[k].1.parts = ps at *
      generalize ls[k].1.op = o at *
      generalize ls[k].1.at_ = a at *
      generalize ms[k].1.at_ = a' at *
      have HEQ := hide (fun (W : World) (hx : Ext w W) => tok_equal o ps Ap Aq cp cq w.heap.size a a' W (hx.reads HOP.out (Nat.le_refl _)) (hx.reads HOQ.out (Nat.le_refl _)) hx.size hpl)
      generalize str o = X at *
      have HXA := hide ((HX.out.alloc (.cells #[.string X, .slice Ap ps.length cp, .int .i64 (a : Int)] 36)).alloc (.cells #[.string X, .slice Aq ps.length cq, .int .i64 (a' : Int)] 36))
      have hxw := (Ext.refl wr).alloc (.cells #[.string X, .slice Ap ps.length cp, .int .i64 (a : Int)] 36)
      have v0 := hxw.cell r0
      have v1 := hxw.cell r1
      have v2 := hxw.cell r2
      clear hrk hrk' hsame ep eq op oq r0 r1 r2 hxw
      go_wp2_with fail
      refine (HEQ.out _ HXA.out).mono ?_
      rintro e w2 ⟨rfl, hx2⟩
      have HX2 := hide (HXA.out.trans hx2)
      clear hx2 HEQ HXA q0 q1 q2 v0 v1 v2
      go_wp2_with fail
      go_roundw
      case rel => exact ⟨k + 1, by omega, by go_num, HX2.out⟩
      case measure => simp [intOf]; omega
    · go_wp2_with fail
      go_ret
      exact ⟨rfl, HX.out⟩
end Go.Proofs.YtapjfiifpfoppaaDoor
