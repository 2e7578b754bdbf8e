/- The walk of PipeApart. -/
import Derived.Test.YtoicpnpahjmegaaPipeTwo
import Derived.Test.YtoicpnpahjmegaaRest
import Derived.Test.YtoicpnpahjmegaaCut
namespace Go.Proofs.Ytoicpnpahjmegaa
open Go.RowKit
set_option linter.unusedVariables false

/-- A slice's cells, and that they lie in blocks from lo on. -/
def Lies (w : World) (lo : Nat) (A : Option Addr) (n : Nat) (xs : List Value) : Prop :=
  xs.length = n ∧ (0 < n → ∃ ad, A = some ad ∧ lo ≤ ad.block ∧ ad.block < w.heap.size ∧ ∀ j u, xs[j]? = some u → w.cell? (ad.add j) = some u)
theorem Lies.reads {w : World} {lo n : Nat} {A : Option Addr} {xs : List Value} (h : Lies w lo A n xs) : Reads w w.heap.size 1 A n xs :=
  ⟨by have := h.1; omega, fun hn => by obtain ⟨ad, e, _, h2, h3⟩ := h.2 hn; exact ⟨ad, e, h2, h3⟩⟩
theorem Lies.kept {w w' : World} {lo n : Nat} {A : Option Addr} {xs : List Value} (h : Lies w lo A n xs) {g : Nat} {v : Value} (hk : Kept g v w w') (hg : g < lo) (hv : ∀ k, v.ownBlock = some k → ∀ ad, A = some ad → ad.block ≠ k) : Lies w' lo A n xs :=
  ⟨h.1, fun hn => by
    obtain ⟨ad, e, h1, h2, h3⟩ := h.2 hn
    exact ⟨ad, e, h1, Nat.lt_of_lt_of_le h2 hk.size, fun j u hu => (World.cell?_of_block (by rw [add_block]; exact hk.block _ h2 (by omega) (fun e' => hv _ e'.symm ad e rfl))).trans (h3 j u hu)⟩⟩
theorem Lies.far {w : World} {lo n : Nat} {A : Option Addr} {xs : List Value} (h : Lies w lo A n xs) (hn : 0 < n) {v : Value} (hv : ∀ k, v.ownBlock = some k → w.heap.size ≤ k) : ∀ k, v.ownBlock = some k → ∀ ad, A = some ad → ad.block ≠ k := by
  intro k hk ad hA e
  obtain ⟨ad', e', _, h2, _⟩ := h.2 hn
  rw [hA] at e'
  injection e' with e'
  subst e'
  have := hv k hk
  omega
theorem lies_own {w : World} {base lo n c : Nat} {A : Option Addr} {xs : List Value} (h : w.ownsRow base 5 1 (.slice A n c) n xs) (hlo : lo ≤ base) : Lies w lo A n xs := by
  have hr := Reads.of_own h
  refine ⟨by have := hr.1; omega, fun hn => ?_⟩
  obtain ⟨ad, e, h2, h3⟩ := hr.2 hn
  subst e
  have := (h.lt ad.block rfl).1
  exact ⟨ad, rfl, by omega, h2, h3⟩

section
variable {P : Program} (w : World)
theorem wpList_append_lies {ops : Array Oper} {rest : List Oper} {o : Oper} {a : Act} {Q : Exit → Act → World → Prop} (hgd : o.guard = none) (s x : Operand) (t : TypeId)
    (ho : o.op = .call { callee := .builtin .append, args := #[s, x], argTypes := #[t, t] })
    (i : TypeInfo) (z : Value) (ht : P.underlying t = some (.slice 5)) (hi : P.info? 5 = some i) (hz : i.zero = some z)
    (hsize : i.size = 1) (hby : i.bytes = 1) (hzs : z.cells.size = 1)
    (lo : Nat) (ao : Addr) (n : Nat) (olds : List Value) (hs : a.eval s = .slice (some ao) n n) (hro : Lies w lo (some ao) n olds) (hlo : lo ≤ w.heap.size) (hn : 0 < n)
    (B : Nat) (A : Option Addr) (m c : Nat) (news : List Value) (hx : a.eval x = .slice A m c) (hr : Reads w B 1 A m news) (h1 : ∀ u ∈ news, u.oneCell' = true)
    (h63 : n + m ≤ maxLen) (hbytes : (n + m) * 1 ≤ 140737488355328)
    (h : ∀ A' c' w', Lies w' lo A' (n + m) (olds ++ news) → n + m ≤ c' → Ext w w' → wpList P ops Q rest (a.put o.dst (.slice A' (n + m) c')) w') : wpList P ops Q (o :: rest) a w := by
  refine wpList_plain hgd fun _ hK => ?_
  rcases Nat.eq_zero_or_pos m with h0 | h0
  · subst h0
    have hnil : news = [] := List.eq_nil_of_length_eq_zero (by simpa using hr.1)
    subst hnil
    have hrun : (Builtin.append_ #[t, t] o.type #[.slice (some ao) n n, .slice A 0 c]).run P w = .ok (.slice (some ao) n n) w := by
      cases A <;> simp [Builtin.append_, run_underlying ht, sizeOf, typeInfo, hi, Builtin.lenOf, Builtin.firstCells, storeCells, loadCells, loadCellsFrom]
    unfold Oper.wp execOp
    simp only [ho, resolve, invoke, builtin, Sem.run_bind, Sem.run_pure, Result.andThen_ok, List.map_toArray, List.map_cons, List.map_nil, hs, hx, hrun]
    have := h (some ao) n w (by simpa using hro) (by omega) (Ext.refl w)
    rw [Nat.add_zero] at this
    exact hK _ _ this
  · exact wp_append_new w s x t ho 5 i z 1 1 ht hi hz hsize hby hzs (by omega) w.heap.size (some ao) n n olds hs (fun e => by cases e) hro.reads B A m c news hx hr h1 (by omega) h0 h63 hbytes fun A' c' w' h2 h3 => hK _ _ (h A' c' w' (lies_own h2 hlo) (own_le h2).1 h3)
end

theorem Kept.refl (g : Nat) (v : Value) (w : World) : Kept g v w w := ⟨rfl, rfl, rfl, Nat.le_refl _, fun _ _ _ _ => rfl⟩
theorem read_kept {w0 : World} {gp : Nat} {all : Array Value} {i g : Nat} {r s : Int} {v : Value} {bs : List UInt8} (n : Nat) (w : World)
    (h : St w0 gp all i g r s v bs w) (hr : r ≠ 0) (hn : n ≤ 256) :
    Calls Try.prog 13 #[.pointer (some ⟨gp, 0, none⟩), .int .i64 ((i : Int) + 1), .int .i64 n] w fun e w' =>
      ∃ A2 k c2, ∃ q : Nat, e = .returned (.tuple #[.slice A2 k c2, .int .i64 (q : Int)]) ∧ ∃ v' bs', St w0 gp all i g r s v' bs' w' ∧ Kept g v w w' ∧ (v'.ownBlock = v.ownBlock ∨ ∀ k, v'.ownBlock = some k → w.heap.size ≤ k) := by
  by_cases hf : n = 0 ∨ 0 < bs.length ∨ s ≤ 0
  · refine (read_st n _ w h hr hn rfl hf).mono ?_
    rintro e w' ⟨A2, c2, rfl, h2, v', h', h3, h4⟩
    exact ⟨A2, _, c2, 0, rfl, v', _, h', h3, h4⟩
  · have h0 : bs.length = 0 := by omega
    have hn0 : 0 < n := by omega
    have hs : 0 < s := by omega
    obtain ⟨A, c, rfl, _⟩ := own_form h.own
    have ho := h.one
    rw [h0] at ho
    refine (read_wait gp i g all r s A c n w h.blk h.hi h.hp ho hr hs hn hn0).mono ?_
    rintro e w' ⟨rfl, rfl⟩
    exact ⟨none, 0, 0, 9, rfl, _, _, h, Kept.refl _ _ _, .inl rfl⟩

set_option maxHeartbeats 4000000 in
set_option maxRecDepth 100000 in
theorem apart_walk (A : Option Addr) (n c : Nat) (xs : List UInt8) (A' : Option Addr) (n' c' : Nat) (ys : List UInt8) (z : Int) (w : World) (hx : Reads w w.heap.size 1 A n (bytesV xs)) (hy : Reads w w.heap.size 1 A' n' (bytesV ys))
    (hn : n ≤ c) (hc : c ≤ maxLen) (hn' : n' ≤ c') (hc' : c' ≤ maxLen) (z1 : -9223372036854775808 ≤ z) (z2 : z ≤ 9223372036854775807) :
    Calls Try.prog 6 #[.slice A n c, .slice A' n' c', .int .i64 z] w fun e w' => e = .returned (.bool true) ∧ Ext w w' := by
  obtain ⟨i0, hi0, hz0, hz1, hz2⟩ := info_parts u8_info
  have HX := hide hx
  have HY := hide hy
  clear hx hy
  go_enter Try.func6, Try.ntmps6
  go_wp2_with fail
  refine (new_st w).mono ?_
  rintro e w1 ⟨rfl, hb1, hx1⟩
  have hlt := hb1.lt
  go_wp2_with fail
  refine (make_st (w0 := w) w.heap.size 0 nones w1 hb1 hx1 (Nat.le_refl _) (by omega) rfl rfl (fun j hj => by omega)).mono ?_
  rintro e w2 ⟨rfl, h2, _⟩
  go_wp2_with fail
  refine (make_st (w0 := w) w.heap.size 1 _ w2 h2.blk h2.ext (Nat.le_refl _) (by omega) rfl rfl (fun j hj => by obtain rfl : j = 0 := (by omega); exact ⟨_, rfl⟩)).mono ?_
  rintro e w3 ⟨rfl, h3, k3⟩
  have T3 := hide (two_made (Nat.le_refl _) hlt h2 h3 k3)
  generalize ((nones.setIfInBounds 0 (.pointer (some ⟨w1.heap.size, 0, none⟩))).setIfInBounds 1 (.pointer (some ⟨w2.heap.size, 0, none⟩))) = all at T3
  generalize w1.heap.size = g1 at T3
  generalize w2.heap.size = g2 at T3
  clear h2 h3 k3 hb1 hx1
  have hcv := Lib.run_convert_bytes_const (P := Try.prog) w3 22 5 #[.int .u8 120] 1 1 Try.underlying22 Try.underlying5
  have hx4 : Ext w3 (w3.alloc (.cells #[.int .u8 120] 5 (1, 2))) := by ((repeat (first | with_reducible exact Ext.refl _ | with_reducible assumption | with_reducible refine Ext.alloc ?_ _ | with_reducible refine Ext.drew ?_ | with_reducible refine Ext.drewN ?_ _ | with_reducible refine Ext.setCell ?_ (by first | exact Nat.le_refl _ | assumption | (simp; done) | omega) _ | with_reducible refine Ext.trans ?_ (by with_reducible assumption))); done)
  have T4 := hide (T3.out.keep hx4)
  have hlit : Lies (w3.alloc (.cells #[.int .u8 120] 5 (1, 2))) w3.heap.size (some ⟨w3.heap.size, 0, none⟩) 1 (bytesV [120]) := by
    have hh := reads_lit w3 [120] 5 (1, 2)
    refine ⟨rfl, fun _ => ?_⟩
    obtain ⟨ad, e, q1, q2⟩ := hh.2 (by decide)
    injection e with e
    subst e
    exact ⟨_, rfl, Nat.le_refl _, by simp, q2⟩
  have hg1 := T3.out.a.one.lt
  have hg2 := T3.out.b.one.lt
  have hgp := T3.out.a.blk.lt
  go_wp2_with fail
  generalize w3.alloc (.cells #[.int .u8 120] 5 (1, 2)) = w4 at T4 hlit hx4 ⊢
  have HLIT := hide hlit
  have hlo := hx4.size
  clear T3 hcv hlit hx4
  refine (cut_any A n c 50 w4 hn hc (by omega)).mono ?_
  rintro e w' ⟨rfl, rfl⟩
  obtain ⟨m, hm⟩ : ∃ m, m = min n 50 := ⟨_, rfl⟩
  rw [← hm]
  have hr1 : Reads w w.heap.size 1 A m (bytesV (xs.take m)) := by rw [← bytesV_take]; exact HX.out.take (by omega)
  have hl1 : (xs.take m).length = m := by have := hr1.1; rw [bytesV_length] at this; omega
  generalize xs.take m = X at *
  have hm1 : m ≤ 50 := by omega
  have HRX := hide (T4.out.a.ext.reads hr1 (Nat.le_refl _))
  have L1 := hide hl1
  clear hr1 hl1 hm HX
  go_wp2_with (at_builtin; refine wpList_append_lies _ rfl (.tmp 30) (.tmp 32) _ rfl i0 _ Try.underlying22 hi0 hz0 hz1 hz2 rfl w3.heap.size ⟨w3.heap.size, 0, none⟩ 1 (bytesV [120]) rfl HLIT.out hlo (by omega) w.heap.size A m c (bytesV X) rfl HRX.out (bytesV_one _) (by simp only [maxLen]; omega) (by omega) ?_; intro A5 c5 w5 r5 hc5 x5)
  have hl5 : (120 :: X).length = 1 + m := by rw [List.length_cons, L1.out]; omega
  have D5 := hide (show Lies w5 w3.heap.size A5 (1 + m) (bytesV (120 :: X)) from r5)
  have T5 := hide (T4.out.keep x5)
  have HL5 := hide hl5
  clear T4 x5 r5 HLIT HRX hlo L1 hl5
  refine (cut_any A' n' c' 60 _ hn' hc' (by omega)).mono ?_
  rintro e w' ⟨rfl, rfl⟩
  obtain ⟨m', hm'⟩ : ∃ m, m = min n' 60 := ⟨_, rfl⟩
  rw [← hm']
  have hr2 : Reads w w.heap.size 1 A' m' (bytesV (ys.take m')) := by rw [← bytesV_take]; exact HY.out.take (by omega)
  have hl2 : (ys.take m').length = m' := by have := hr2.1; rw [bytesV_length] at this; omega
  generalize ys.take m' = Y at *
  have hm2 : m' ≤ 60 := by omega
  have hmc' : m' ≤ c' := by omega
  have R2 := hide hr2
  have L2 := hide hl2
  clear hr2 hl2 hm' HY
  go_wp2_with fail
  refine (rest_any z 70 _ z1 z2 (by omega) (by omega)).mono ?_
  rintro e w' ⟨rfl, rfl⟩
  obtain ⟨k, hk, hk2⟩ : ∃ k : Nat, restZ z 70 = (k : Int) ∧ k < 70 := rest_nat z 70 (by omega)
  rw [hk]
  clear hk z1 z2
  go_wp2_with fail
  refine (write_st A5 (1 + m) c5 w5.heap.size (120 :: X) w5 T5.out.a (by decide) (by decide) D5.out.reads HL5.out (by omega) hc5 (by simp)).mono ?_
  rintro e w6 ⟨rfl, v6, h6, k6, e6⟩
  have hmin : min (1 + m) (64 - ([] : List UInt8).length) = 1 + m := by simp; omega
  rw [hmin] at h6 ⊢
  rw [List.nil_append, List.take_of_length_le (by rw [HL5.out]; omega)] at h6
  have T6 := hide (T5.out.onA h6 k6 e6)
  have D6 := hide (D5.out.kept k6 hg1 (fun k hk => by simp [Value.ownBlock] at hk))
  have e6' : ∀ k, v6.ownBlock = some k → w5.heap.size ≤ k := fun k hk => by
    rcases e6 with e | e
    · rw [e] at hk; simp [Value.ownBlock] at hk
    · exact e k hk
  have F6 := hide (D5.out.far (by omega) e6')
  clear T5 D5 h6 e6 e6' hmin
  go_wp2_with fail
  refine (write_st A' m' c' w.heap.size Y w6 T6.out.b (by decide) (by decide) (T6.out.a.ext.reads R2.out (Nat.le_refl _)) L2.out (by omega) hmc' (by simp)).mono ?_
  rintro e w7 ⟨rfl, v7, h7, k7, e7⟩
  have T7 := hide (T6.out.onB h7 k7 e7)
  have D7 := hide (D6.out.kept k7 hg2 (fun k hk => by simp [Value.ownBlock] at hk))
  have e7' : ∀ k, v7.ownBlock = some k → w6.heap.size ≤ k := fun k hk => by
    rcases e7 with e | e
    · rw [e] at hk; simp [Value.ownBlock] at hk
    · exact e k hk
  have F7 := hide (D6.out.far (by omega) e7')
  clear T6 D6 h7 e7 e7' k6 k7 R2 L2
  generalize [] ++ Y.take (min m' (64 - ([] : List UInt8).length)) = Z at T7
  go_wp2_with fail
  refine (read_kept k w7 T7.out.b (by decide) (by omega)).mono ?_
  rintro e w8 ⟨A8, j8, c8, q8, rfl, v8, bs8, h8, k8, e8⟩
  have T8 := hide (T7.out.onB h8 k8 e8)
  have D8 := hide (D7.out.kept k8 hg2 F7.out)
  clear T7 D7 h8 k8 e8 F7
  go_wp2_with fail
  refine (less_w _ 1 _ _ _ _ _ w8 T8.out.b.blk (by omega) T8.out.b.hp T8.out.b.one (by omega) (by omega) (by omega)).mono ?_
  rintro e w9 ⟨rfl, o9, k9⟩
  have T9 := hide (T8.out.onB (T8.out.b.less o9 k9) (k9.any _) (.inl rfl))
  have D9 := hide (D8.out.kept k9 hg2 (fun k hk => by simp [Value.ownBlock] at hk))
  clear T8 D8 o9 k9
  go_wp2_with fail
  refine (less_r_last _ 1 _ _ _ _ _ w9 T9.out.b.blk (by omega) T9.out.b.hp T9.out.b.one (by omega) (by omega) rfl (by omega)).mono ?_
  rintro e w10 ⟨rfl, b10, f10, os10, tp10, out10, sz10⟩
  have A10 := hide (show St w w.heap.size (all.setIfInBounds 1 (.pointer none)) 0 g1 1 1 v6 (120 :: X) w10 by
    have h := T9.out.a
    have hne1 : g1 ≠ g2 := T9.out.ne
    have hne2 : g1 ≠ w.heap.size := fun e => h.ne e.symm
    have ho1 : ∀ k, v6.ownBlock = some k → k ≠ g2 ∧ k ≠ w.heap.size := fun k hk => ⟨fun e => own_blk_ne h.own T9.out.b.one (by decide) (e ▸ hk), fun e => own_blk_ne h.own h.blk (by decide) (e ▸ hk)⟩
    refine ⟨b10, by omega, by have := h.hp; simpa using this, Nat.le_refl _, h.gb, h.ext.trans' ⟨os10, tp10, out10, sz10, fun k hk => f10 k (Nat.lt_of_lt_of_le hk h.ext.size) (by have := T9.out.b.gb; omega) (by omega)⟩, (f10 g1 h.one.lt hne1 hne2).trans h.one, own_of_keep h.own (fun k hk => f10 k (h.own.lt k hk).2 (ho1 k hk).1 (ho1 k hk).2), h.len⟩)
  have D10 := hide (show Lies w10 w3.heap.size A5 (1 + m) (bytesV (120 :: X)) by
    refine ⟨D9.out.1, fun hn => ?_⟩
    obtain ⟨ad, e, h1, h2, h3⟩ := D9.out.2 hn
    exact ⟨ad, e, h1, Nat.lt_of_lt_of_le h2 sz10, fun j u hu => (World.cell?_of_block (by rw [add_block]; exact f10 _ h2 (by omega) (by omega))).trans (h3 j u hu)⟩)
  clear T9 D9 b10 f10 os10 tp10 out10 sz10
  go_wp2_with fail
  refine (read_st 64 (1 + m) w10 A10.out (by decide) (by omega) (by rw [HL5.out]; omega) (by rw [HL5.out]; omega)).mono ?_
  rintro e w11 ⟨A11, c11, rfl, o11, v11, h11, k11, _⟩
  rw [List.take_of_length_le (by rw [HL5.out]; omega)] at o11
  have D11 := D10.out.kept k11 hg1 F6.out
  have hs1 := conv_str (P := Try.prog) Try.underlying22 Try.underlying5 Try.underlying9 (Reads.of_own o11) c11
  have hs2 := conv_str (P := Try.prog) Try.underlying22 Try.underlying5 Try.underlying9 D11.reads c5
  have HX11 := hide h11.ext
  clear o11 h11 k11 D11 D10 A10 F6
  go_wp2_with fail
  go_ret
  exact ⟨by simp, HX11.out⟩
end Go.Proofs.Ytoicpnpahjmegaa
