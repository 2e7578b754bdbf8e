/- The contracts of the parser's smallest steps: is, word, take. -/
import Derived.Test.YtjbgkcljjgofnaaDoorShLaw
import Derived.Test.YtjbgkcljjgofnaaDoorWSplit
namespace Go.Proofs.YtjbgkcljjgofnaaDoor
open Go.RowKit
set_option linter.unusedVariables false

abbrev Tk := TokD × Value
def oT (x : Tk) : List UInt8 := x.1.op
abbrev parT : TypeId := 74
/-- The parser at gp stands at token k of ls. -/
structure ParAt (w : World) (gp : Nat) (A : Option Addr) (n c : Nat) (ls : List Tk) (k : Nat) : Prop where
  blk : Blk w gp parT #[.slice A n c, .int .i64 (k : Int)]
  toks : Reads w gp 3 A n (ls.flatMap tokC)
  len : ls.length = n
  le : k ≤ n
  vals : ∀ x ∈ ls, ∃ A' n' c', x.2 = .slice A' n' c'
theorem str_same (a b : List UInt8) : ((str a).toList == (str b).toList) = decide (a = b) := by
  rw [Lib.toList_data, Lib.toList_data, str_toList, str_toList]
  by_cases h : a = b
  · simp [h]
  · simp [h]
theorem str_empty (a : List UInt8) : (str a).toList.isEmpty = decide (a = []) := by
  rw [Lib.toList_data, str_toList]
  cases a <;> simp
theorem isT_at (x : List UInt8) (ls : List Tk) (k : Nat) (h : k < ls.length) : isT oT x (ls.drop k) = decide (ls[k].1.op = x) := by
  rw [List.drop_eq_getElem_cons h]
  rfl
theorem isT_end (x : List UInt8) (ls : List Tk) (k : Nat) (h : ls.length ≤ k) : isT oT x (ls.drop k) = false := by
  rw [List.drop_of_length_le h]
  rfl
set_option maxHeartbeats 4000000 in
set_option maxRecDepth 100000 in
theorem is_any (x : List UInt8) (gp : Nat) (A : Option Addr) (n c : Nat) (ls : List Tk) (k : Nat) (w : World) (hn : n ≤ 1000) (h : ParAt w gp A n c ls k) :
    Calls Tryd.prog 24 #[.pointer (some ⟨gp, 0, none⟩), .string (str x)] w fun e w' => e = .returned (.bool (isT oT x (ls.drop k))) ∧ ∃ d, w' = w.drewN d := by
  have b0 := h.blk.cell 0
  have b1 := h.blk.cell 1
  simp at b0 b1
  by_cases hlt : k < n
  · have hkl : k < ls.length := by rw [h.len]; exact hlt
    have HI := hide (isT_at x ls k hkl)
    obtain ⟨b, off, rfl, -⟩ := h.toks.addr (by omega) (by omega)
    have q0 := Reads.elem tokC_len h.toks k hkl (by omega) 0 (by omega) (u := .string (str ls[k].1.op)) rfl
    rw [Nat.add_zero] at q0
    have hs := str_same ls[k].1.op x
    clear h
    generalize ls[k].1.op = y at *
    generalize isT oT x (ls.drop k) = z at *
    clear hkl
    by_cases hy : y = x
    · rw [decide_eq_true hy] at hs HI
      clear hy
      generalize str y = Y at *
      generalize str x = X at *
      go_enter Tryd.func24, Tryd.ntmps24
      go_wp2_with fail
      go_quiet (fail)
      go_wp2_with fail
      go_ret
      exact ⟨by rw [HI.out]; rfl, _, rfl⟩
    · rw [decide_eq_false hy] at hs HI
      clear hy
      generalize str y = Y at *
      generalize str x = X at *
      go_enter Tryd.func24, Tryd.ntmps24
      go_wp2_with fail
      go_quiet (fail)
      go_wp2_with fail
      go_ret
      exact ⟨by rw [HI.out]; rfl, _, rfl⟩
  · obtain rfl : k = n := by have := h.le; omega
    have HI := hide (isT_end x ls k (by rw [h.len]; exact Nat.le_refl _))
    clear h
    generalize isT oT x (ls.drop k) = z at *
    go_enter Tryd.func24, Tryd.ntmps24
    go_wp2_with fail
    go_quiet (fail)
    go_wp2_with fail
    go_ret
    exact ⟨by rw [HI.out]; rfl, _, rfl⟩
set_option maxHeartbeats 4000000 in
set_option maxRecDepth 100000 in
theorem isword_any (gp : Nat) (A : Option Addr) (n c : Nat) (ls : List Tk) (k : Nat) (w : World) (hn : n ≤ 1000) (h : ParAt w gp A n c ls k) :
    Calls Tryd.prog 49 #[.pointer (some ⟨gp, 0, none⟩)] w fun e w' => e = .returned (.bool (isT oT [] (ls.drop k))) ∧ ∃ d, w' = w.drewN d := by
  have b0 := h.blk.cell 0
  have b1 := h.blk.cell 1
  simp at b0 b1
  by_cases hlt : k < n
  · have hkl : k < ls.length := by rw [h.len]; exact hlt
    have HI := hide (isT_at [] ls k hkl)
    obtain ⟨b, off, rfl, -⟩ := h.toks.addr (by omega) (by omega)
    have q0 := Reads.elem tokC_len h.toks k hkl (by omega) 0 (by omega) (u := .string (str ls[k].1.op)) rfl
    rw [Nat.add_zero] at q0
    have hs := str_empty ls[k].1.op
    clear h
    generalize ls[k].1.op = y at *
    generalize isT oT [] (ls.drop k) = z at *
    clear hkl
    by_cases hy : y = []
    · rw [decide_eq_true hy] at hs HI
      clear hy
      generalize str y = Y at *
      go_enter Tryd.func49, Tryd.ntmps49
      go_wp2_with fail
      go_quiet (fail)
      go_wp2_with fail
      go_ret
      exact ⟨by rw [HI.out]; rfl, _, rfl⟩
    · rw [decide_eq_false hy] at hs HI
      clear hy
      generalize str y = Y at *
      go_enter Tryd.func49, Tryd.ntmps49
      go_wp2_with fail
      go_quiet (fail)
      go_wp2_with fail
      go_ret
      exact ⟨by rw [HI.out]; rfl, _, rfl⟩
  · obtain rfl : k = n := by have := h.le; omega
    have HI := hide (isT_end [] ls k (by rw [h.len]; exact Nat.le_refl _))
    clear h
    generalize isT oT [] (ls.drop k) = z at *
    go_enter Tryd.func49, Tryd.ntmps49
    go_wp2_with fail
    go_quiet (fail)
    go_wp2_with fail
    go_ret
    exact ⟨by rw [HI.out]; rfl, _, rfl⟩
theorem ParAt.grown {w w' : World} {gp : Nat} {A : Option Addr} {n c : Nat} {ls : List Tk} {k : Nat} {row : Option Nat} (h : ParAt w gp A n c ls k) (hg : w.grownBy w' row) (hr : ∀ j, row = some j → gp < j) : ParAt w' gp A n c ls k where
  blk := h.blk.grown hg (fun e => by have := hr gp e.symm; omega)
  toks := h.toks.below ⟨hg.os, hg.tape, hg.output, by have := h.blk.lt; have := hg.size; omega, fun j hj => hg.block j (by have := h.blk.lt; omega) (fun e => by have := hr j e.symm; omega)⟩
  len := h.len
  le := h.le
  vals := h.vals
set_option maxHeartbeats 4000000 in
set_option maxRecDepth 100000 in
theorem take_any (gp : Nat) (A : Option Addr) (n c : Nat) (ls : List Tk) (k : Nat) (w : World) (hn : n ≤ 1000) (hk : k < ls.length) (h : ParAt w gp A n c ls k) :
    Calls Tryd.prog 25 #[.pointer (some ⟨gp, 0, none⟩)] w fun e w' => e = .returned (.agg #[.string (str ls[k].1.op), ls[k].2, .int .i64 (ls[k].1.at_ : Int)]) ∧ ParAt w' gp A n c ls (k + 1) ∧ w.grownBy w' (some gp) := by
  have hlt : k < n := by rw [← h.len]; exact hk
  obtain ⟨b, off, rfl, hb⟩ := h.toks.addr (by omega) (by omega)
  obtain ⟨A', n', c', hv⟩ := h.vals ls[k] (List.getElem_mem hk)
  have q0 := Reads.elem tokC_len h.toks k hk (by omega) 0 (by omega) (u := .string (str ls[k].1.op)) rfl
  have q1 := Reads.elem tokC_len h.toks k hk (by omega) 1 (by omega) (u := ls[k].2) rfl
  have q2 := Reads.elem tokC_len h.toks k hk (by omega) 2 (by omega) (u := .int .i64 (ls[k].1.at_ : Int)) rfl
  rw [Nat.add_zero] at q0
  rw [hv] at q1 ⊢
  have HP := hide h
  have HB := hide h.blk
  have hgl := h.blk.lt
  obtain ⟨w1, hw1⟩ : ∃ w1, w1 = w.alloc (.cells #[.string ⟨#[]⟩, .slice none 0 0, .int .i64 0] 47) := ⟨_, rfl⟩
  have hx1 : Ext w w1 := by rw [hw1]; exact (Ext.refl w).alloc _
  have hb1 : Blk w1 w.heap.size 47 #[.string ⟨#[]⟩, .slice none 0 0, .int .i64 0] := by rw [hw1]; exact Blk.new _ _ _
  have hs1 : w1.heap.size = w.heap.size + 1 := by rw [hw1]; simp
  obtain ⟨w2, hw2⟩ : ∃ w2, w2 = (w.setCell ⟨gp, 1, none⟩ (.int .i64 ((k : Int) + 1))).alloc (.cells #[.string ⟨#[]⟩, .slice none 0 0, .int .i64 0] 47) := ⟨_, rfl⟩
  have hb2 : Blk w2 gp parT #[.slice (some ⟨b, off, none⟩) n c, .int .i64 ((k : Int) + 1)] := by
    rw [hw2]
    exact (h.blk.set_ 1 _).alloc _
  have hbb : Blk w2 w.heap.size 47 #[.string ⟨#[]⟩, .slice none 0 0, .int .i64 0] := by rw [hw2]; exact Blk.new' _ _ _ (by simp)
  have hgr : w.grownBy w2 (some gp) := by rw [hw2]; exact grown_trans' (grown_set (grown_of_ext (Ext.refl w) _) (.inl rfl) _) (World.grownBy_alloc _ _ _)
  have hf : ∀ (j : Nat) (u : Value), w.cell? ⟨b, j, none⟩ = some u → w2.cell? ⟨b, j, none⟩ = some u := fun j u hu => hgr.cell hu (fun e => by injection e with e; simp at e; omega)
  have c0 := hf _ _ q0
  have c1 := hf _ _ q1
  have c2 := hf _ _ q2
  have d0 : w2.cell? ⟨gp, 0, none⟩ = some (.slice (some ⟨b, off, none⟩) n c) := hb2.cell 0
  have d1 : w2.cell? ⟨gp, 1, none⟩ = some (.int .i64 ((k : Int) + 1)) := hb2.cell 1
  have b0 : w1.cell? ⟨gp, 0, none⟩ = some (.slice (some ⟨b, off, none⟩) n c) := (h.blk.ext hx1).cell 0
  have b1 : w1.cell? ⟨gp, 1, none⟩ = some (.int .i64 (k : Int)) := (h.blk.ext hx1).cell 1
  have f1 : w1.frozen? ⟨gp, 1, none⟩ = false := (h.blk.ext hx1).frozen 1
  generalize ls[k].1.op = y at *
  generalize ls[k].1.at_ = z at *
  clear h q0 q1 q2 hf hb1 hs1
  subst hw1
  go_enter Tryd.func25, Tryd.ntmps25
  go_upto_region 2 with fail
  rw [← hw2]
  have HB2 := hide (show Blk ({ heap := w2.heap, tape := w2.tape, drawn := w2.drawn + 1, os := w2.os, output := w2.output } : World) gp parT #[.slice (some ⟨b, off, none⟩) n c, .int .i64 ((k : Int) + 1)] from hb2)
  have HBB := hide (show Blk ({ heap := w2.heap, tape := w2.tape, drawn := w2.drawn + 1, os := w2.os, output := w2.output } : World) w.heap.size 47 #[.string ⟨#[]⟩, .slice none 0 0, .int .i64 0] from hbb)
  have HGR := hide (show w.grownBy ({ heap := w2.heap, tape := w2.tape, drawn := w2.drawn + 1, os := w2.os, output := w2.output } : World) (some gp) from ⟨hgr.os, hgr.tape, hgr.output, hgr.size, hgr.block⟩)
  have c0 : ({ heap := w2.heap, tape := w2.tape, drawn := w2.drawn + 1, os := w2.os, output := w2.output } : World).cell? ⟨b, off + k * 3, none⟩ = some (.string (str y)) := c0
  have c1 : ({ heap := w2.heap, tape := w2.tape, drawn := w2.drawn + 1, os := w2.os, output := w2.output } : World).cell? ⟨b, off + k * 3 + 1, none⟩ = some (.slice A' n' c') := c1
  have c2 : ({ heap := w2.heap, tape := w2.tape, drawn := w2.drawn + 1, os := w2.os, output := w2.output } : World).cell? ⟨b, off + k * 3 + 2, none⟩ = some (.int .i64 (z : Int)) := c2
  have d0 : ({ heap := w2.heap, tape := w2.tape, drawn := w2.drawn + 1, os := w2.os, output := w2.output } : World).cell? ⟨gp, 0, none⟩ = some (.slice (some ⟨b, off, none⟩) n c) := d0
  have d1 : ({ heap := w2.heap, tape := w2.tape, drawn := w2.drawn + 1, os := w2.os, output := w2.output } : World).cell? ⟨gp, 1, none⟩ = some (.int .i64 ((k : Int) + 1)) := d1
  have e0 : ({ heap := w2.heap, tape := w2.tape, drawn := w2.drawn + 1, os := w2.os, output := w2.output } : World).frozen? ⟨w.heap.size, 0, none⟩ = false := hbb.frozen 0
  have e1 : ({ heap := w2.heap, tape := w2.tape, drawn := w2.drawn + 1, os := w2.os, output := w2.output } : World).frozen? ⟨w.heap.size, 1, none⟩ = false := hbb.frozen 1
  have e2 : ({ heap := w2.heap, tape := w2.tape, drawn := w2.drawn + 1, os := w2.os, output := w2.output } : World).frozen? ⟨w.heap.size, 2, none⟩ = false := hbb.frozen 2
  have g0 : ({ heap := w2.heap, tape := w2.tape, drawn := w2.drawn + 1, os := w2.os, output := w2.output } : World).cell? ⟨w.heap.size, 0, none⟩ = some (.string ⟨#[]⟩) := hbb.cell 0
  have g1 : ({ heap := w2.heap, tape := w2.tape, drawn := w2.drawn + 1, os := w2.os, output := w2.output } : World).cell? ⟨w.heap.size, 1, none⟩ = some (.slice none 0 0) := hbb.cell 1
  have g2 : ({ heap := w2.heap, tape := w2.tape, drawn := w2.drawn + 1, os := w2.os, output := w2.output } : World).cell? ⟨w.heap.size, 2, none⟩ = some (.int .i64 0) := hbb.cell 2
  clear hb2 hbb hgr hw2 b0 b1 f1 hx1
  obtain ⟨gt, hgt⟩ : ∃ gt, w.heap.size = gt := ⟨_, rfl⟩
  have HGT := hide hgt
  rw [hgt] at e0 e1 e2 g0 g1 g2 HBB hgl ⊢
  clear hgt
  have hwk : IntKind.i64.wrap (k : Int) = (k : Int) := by rw [IntKind.wrap_i64]; omega
  have hk0 : (0 : Int) ≤ (k : Int) := by omega
  have hk1 : (k : Int) < (n : Int) := by omega
  go_still_tail 11, (by kernel_rfl)
  have E0 : w2.drew.frozen? ⟨gt, 0, none⟩ = false := e0
  have E1 : w2.drew.frozen? ⟨gt, 1, none⟩ = false := e1
  have E2 : w2.drew.frozen? ⟨gt, 2, none⟩ = false := e2
  have G0 : w2.drew.cell? ⟨gt, 0, none⟩ = some (.string ⟨#[]⟩) := g0
  have G1 : w2.drew.cell? ⟨gt, 1, none⟩ = some (.slice none 0 0) := g1
  have G2 : w2.drew.cell? ⟨gt, 2, none⟩ = some (.int .i64 0) := g2
  have HB2 := hide (show Blk w2.drew gp parT #[.slice (some ⟨b, off, none⟩) n c, .int .i64 ((k : Int) + 1)] from HB2.out)
  have HBB := hide (show Blk w2.drew gt 47 #[.string ⟨#[]⟩, .slice none 0 0, .int .i64 0] from HBB.out)
  have HGR := hide (show w.grownBy w2.drew (some gp) from ⟨HGR.out.os, HGR.out.tape, HGR.out.output, HGR.out.size, HGR.out.block⟩)
  clear e0 e1 e2 g0 g1 g2 c0 c1 c2 d0 d1
  show wpList _ _ _ _ _ w2.drew
  generalize w2.drew = w3 at *
  go_wp2_with fail
  have hb4 := ((HBB.out.set_ 0 (.string (str y))).set_ 1 (.slice A' n' c')).set_ 2 (.int .i64 (z : Int))
  have hp4 := ((HB2.out.far (p := ⟨gt, 0, none⟩) (by show gp ≠ gt; omega) (.string (str y))).far (p := ⟨gt, 1, none⟩) (by show gp ≠ gt; omega) (.slice A' n' c')).far (p := ⟨gt, 2, none⟩) (by show gp ≠ gt; omega) (.int .i64 (z : Int))
  have hgw : w.heap.size ≤ gt := by rw [HGT.out]; exact Nat.le_refl _
  have hr4 := grown_set (grown_set (grown_set HGR.out (p := ⟨gt, 0, none⟩) (.inr hgw) (.string (str y))) (p := ⟨gt, 1, none⟩) (.inr hgw) (.slice A' n' c')) (p := ⟨gt, 2, none⟩) (.inr hgw) (.int .i64 (z : Int))
  generalize ((w3.setCell ⟨gt, 0, none⟩ (.string (str y))).setCell ⟨gt, 1, none⟩ (.slice A' n' c')).setCell ⟨gt, 2, none⟩ (.int .i64 (z : Int)) = w4 at *
  have z0 : w4.cell? ⟨gt, 0, none⟩ = some (.string (str y)) := hb4.cell 0
  have z1 : w4.cell? ⟨gt, 1, none⟩ = some (.slice A' n' c') := hb4.cell 1
  have z2 : w4.cell? ⟨gt, 2, none⟩ = some (.int .i64 (z : Int)) := hb4.cell 2
  have hpo := HP.out
  refine bodyPost_ret (v := .agg #[.string (str y), .slice A' n' c', .int .i64 (z : Int)]) (by simp [results, Tryd.results25, go_sem, z0, z1, z2]) rfl ⟨rfl, ⟨?_, ?_, hpo.len, by omega, hpo.vals⟩, hr4⟩
  · have e : ((k + 1 : Nat) : Int) = (k : Int) + 1 := by omega
    rw [e]
    exact hp4
  · exact hpo.toks.below ⟨hr4.os, hr4.tape, hr4.output, by have := hr4.size; have := HP.out.blk.lt; omega, fun j hj => hr4.block j (by have := HP.out.blk.lt; omega) (fun e => by injection e with e; omega)⟩
end Go.Proofs.YtjbgkcljjgofnaaDoor
