/- The contracts of Decode's second and third closures: one name more, one need more. -/
import Derived.Test.YtekijkdgmfdnbaaDoorObDe1
namespace Go.Proofs.YtekijkdgmfdnbaaDoor
open Go.RowKit
set_option linter.unusedVariables false

theorem DecSt.other {w0 w w' : World} {g2 gr gv go : Nat} {s : Option Bs} {o : ObD} {v : ObV} (h : DecSt w0 g2 gr gv go s o v w) {g : Nat} {t : TypeId} {cs : Array Value} (hb : Blk w g t cs) (ht : t ≠ rdT) (hg : w.grownBy w' (some gr)) : Blk w' g t cs := by
  obtain ⟨rcs, hr⟩ := h.rd.blk
  exact hb.grown hg (fun e => Blk.ne_ hb hr ht (by injection e))
/-- A store into a box of another kind. -/
theorem DecSt.set_ {w0 w : World} {g2 gr gv go : Nat} {s : Option Bs} {o : ObD} {v : ObV} (h : DecSt w0 g2 gr gv go s o v w) {g : Nat} {t : TypeId} {cs : Array Value} (hb : Blk w g t cs) (h1 : obT ≠ t) (h2 : rvT ≠ t) (h3 : rdT ≠ t) (h4 : 47 ≠ t) (h5 : 5 ≠ t)
    (n3 : Value.ownBlock (.slice v.A3 v.n3 v.c3) ≠ some g) (n4 : Value.ownBlock (.slice v.A4 v.n4 v.c4) ≠ some g) (hlo : w0.heap.size ≤ g) (i : Nat) (u : Value) : DecSt w0 g2 gr gv go s o v (w.setCell ⟨g, i, none⟩ u) := by
  obtain ⟨rcs, hr⟩ := h.rd.blk
  exact ⟨h.res.far (p := ⟨g, i, none⟩) (Blk.ne_ h.res hb h1) _, h.rv.far (p := ⟨g, i, none⟩) (Blk.ne_ h.rv hb h2) _, h.rd.far (p := ⟨g, i, none⟩) (Blk.ne_ hr hb h3) hlo _, h.box.far (p := ⟨g, i, none⟩) (Blk.ne_ h.box hb h1) _,
    own_far h.code (own_blk_ne h.code hb h4) _, own_far h.data (own_blk_ne h.data hb h5) _, own_far h.names n3 _, own_far h.needs n4 _, h.ext.setCell (p := ⟨g, i, none⟩) hlo _, h.l2, h.lr, h.lv, h.lo, h.ne⟩
theorem DecSt.fresh {w0 w : World} {g2 gr gv go : Nat} {s : Option Bs} {o : ObD} {v : ObV} (h : DecSt w0 g2 gr gv go s o v w) : Value.ownBlock (.slice v.A3 v.n3 v.c3) ≠ some w.heap.size ∧ Value.ownBlock (.slice v.A4 v.n4 v.c4) ≠ some w.heap.size ∧ w0.heap.size ≤ w.heap.size :=
  ⟨fun e => Nat.lt_irrefl _ (h.names.lt _ e).2, fun e => Nat.lt_irrefl _ (h.needs.lt _ e).2, h.ext.size⟩
theorem nmi2 : (Tryd.prog.info? 50).map (fun i => (i.zero, i.size, i.bytes)) = some (some (.agg #[.string ⟨#[]⟩, .int .i64 0, .int .i64 0, .bool false]), 4, 40) := by kernel_rfl
theorem nei2 : (Tryd.prog.info? 53).map (fun i => (i.zero, i.size, i.bytes)) = some (some (.agg #[.int .i64 0, .string ⟨#[]⟩, .int .i64 0]), 3, 32) := by kernel_rfl
theorem and3 (n : Int) (h : 0 ≤ n) (h' : n ≤ 65535) : bits .and .i64 n 3 = n % 4 :=
  bits_mask .i64 63 (by decide) (fun n h₀ h₁ => by rw [IntKind.wrap_i64]; omega) 2 (by decide) n h (by omega)
set_option maxHeartbeats 8000000 in
set_option maxRecDepth 100000 in
theorem each2_any (g2 gr gv go : Nat) (s : Option Bs) (o : ObD) (v : ObV) (w0 w : World) (h : DecSt w0 g2 gr gv go s o v w) (hl : o.names.length ≤ 100000) :
    Calls Tryd.prog 24 #[.pointer (some ⟨gv, 0, none⟩), .pointer (some ⟨go, 0, none⟩)] w fun e w' => e = .returned (.tuple #[]) ∧ ∃ v', DecSt w0 g2 gr gv go (nmM s).2 { o with names := o.names ++ [(nmM s).1] } v' w' := by
  have l3 := h.own.rd.l3
  obtain ⟨i0, hi0, hz0, hz1, hz2⟩ := info_parts nmi2
  have HH := hide h
  have z0 := h.rv0
  clear h
  go_enter Tryd.func24, Tryd.ntmps24
  go_wp2_with fail
  refine (text_ds HH.out).mono ?_
  rintro e w1 ⟨rfl, -, hst1⟩
  have HW := hide (show ∀ v' w', DecSt w0 g2 gr gv go (hs_ (hs_ (ts_ s))) { o with names := o.names ++ [⟨tv s, ((hv (ts_ s) % 4 : Nat) : Int), (hv (hs_ (ts_ s)) : Int), decide (4 ≤ hv (ts_ s))⟩] } v' w' → DecSt w0 g2 gr gv go (nmM s).2 { o with names := o.names ++ [(nmM s).1] } v' w' from fun _ _ h => h)
  have hx := hv_lt (ts_ s)
  have hy := hv_lt (hs_ (ts_ s))
  generalize ts_ s = s1 at *
  generalize tv s = tx at *
  have HN := hide (Blk.new w1 nmT #[.string (str tx), .int .i64 0, .int .i64 0, .bool false])
  have HNE := hide hst1.fresh
  have HST1 := hide (hst1.to ((Ext.refl w1).alloc (.cells #[.string (str tx), .int .i64 0, .int .i64 0, .bool false] nmT)))
  clear hst1 HH z0
  go_upto_region 1 with fail
  obtain ⟨gn, hgn⟩ : ∃ gn, w1.heap.size = gn := ⟨_, rfl⟩
  rw [hgn] at HN HNE ⊢
  generalize w1.alloc (.cells #[.string (str tx), .int .i64 0, .int .i64 0, .bool false] nmT) = W1 at *
  have z0 := HST1.out.rv0
  clear hgn
  go_wp2_with fail
  refine (half_ds HST1.out).mono ?_
  rintro e w2 ⟨rfl, hg2, hst2⟩
  have HN2 := hide (HST1.out.other HN.out (by decide) hg2)
  have HST2 := hide hst2
  generalize hs_ s1 = s2 at *
  generalize hv s1 = x at *
  clear hst2 hg2 HST1 HN z0
  have z0 := HST2.out.rv0
  have hm := and3 (x : Int) (by omega) (by omega)
  have hd : decide ((x : Int) ≥ 4) = decide (4 ≤ x) := by by_cases h : 4 ≤ x <;> simp [h] <;> omega
  go_upto_region 2 with fail
  go_wp2_with fail
  refine (half_ds HST2.out).mono ?_
  rintro e w3 ⟨rfl, hg3, hst3⟩
  have HN3 := hide (HST2.out.other HN2.out (by decide) hg3)
  have HST3 := hide hst3
  generalize hs_ s2 = s3 at *
  generalize hv s2 = y at *
  clear hst3 hg3 HST2 HN2 z0
  have f1 := HN3.out.frozen 1
  have f2 := HN3.out.frozen 2
  have f3 := HN3.out.frozen 3
  have b1 : w3.cell? ⟨gn, 1, none⟩ = some (.int .i64 0) := HN3.out.cell 1
  have b2 : w3.cell? ⟨gn, 2, none⟩ = some (.int .i64 0) := HN3.out.cell 2
  have b3 : w3.cell? ⟨gn, 3, none⟩ = some (.bool false) := HN3.out.cell 3
  go_upto_region 3 with fail
  clear b1 b2 b3 f1 f2 f3 hm hd
  have hn1 := HN3.out.set_ 1 (.int .i64 ((x : Int) % 4))
  have hn2 := hn1.set_ 3 (.bool (decide (4 ≤ x)))
  have hn3 := hn2.set_ 2 (.int .i64 (y : Int))
  have hs1 := HST3.out.set_ HN3.out (by decide) (by decide) (by decide) (by decide) (by decide) HNE.out.1 HNE.out.2.1 HNE.out.2.2 1 (.int .i64 ((x : Int) % 4))
  have hs2 := hs1.set_ hn1 (by decide) (by decide) (by decide) (by decide) (by decide) HNE.out.1 HNE.out.2.1 HNE.out.2.2 3 (.bool (decide (4 ≤ x)))
  have hs3 := hs2.set_ hn2 (by decide) (by decide) (by decide) (by decide) (by decide) HNE.out.1 HNE.out.2.1 HNE.out.2.2 2 (.int .i64 (y : Int))
  generalize ((w3.setCell ⟨gn, 1, none⟩ (.int .i64 ((x : Int) % 4))).setCell ⟨gn, 3, none⟩ (.bool (decide (4 ≤ x)))).setCell ⟨gn, 2, none⟩ (.int .i64 (y : Int)) = W3 at *
  have HN4 := hide (show Blk W3 gn nmT #[.string (str tx), .int .i64 ((x : Int) % 4), .int .i64 (y : Int), .bool (decide (4 ≤ x))] from hn3)
  have HST4 := hide hs3
  clear hn1 hn2 hn3 hs1 hs2 hs3 HST3 HN3
  obtain ⟨A1, n1, c1, A2, n2, c2, A3, n3, c3, A4, n4, c4⟩ := v
  dsimp only at l3
  have c0 : W3.cell? ⟨go, 2, none⟩ = some (.slice A3 n3 c3) := HST4.out.box.cell 2
  have y0 : W3.cell? ⟨gn, 0, none⟩ = some (.string (str tx)) := HN4.out.cell 0
  have y1 : W3.cell? ⟨gn, 1, none⟩ = some (.int .i64 ((x : Int) % 4)) := HN4.out.cell 1
  have y2 : W3.cell? ⟨gn, 2, none⟩ = some (.int .i64 (y : Int)) := HN4.out.cell 2
  have y3 : W3.cell? ⟨gn, 3, none⟩ = some (.bool (decide (4 ≤ x))) := HN4.out.cell 3
  have HL1 := hide (show n3 + 1 ≤ maxLen by simp only [maxLen]; omega)
  have HL2 := hide (show (n3 + 1) * 40 ≤ 140737488355328 by omega)
  have HSU := hide (HST4.out.to ((Ext.refl W3).alloc (.cells #[.string (str tx), .int .i64 ((x : Int) % 4), .int .i64 (y : Int), .bool (decide (4 ≤ x))] nmT)))
  have HRW := hide ((Blk.new W3 nmT #[.string (str tx), .int .i64 ((x : Int) % 4), .int .i64 (y : Int), .bool (decide (4 ≤ x))]).rowsF 1 4 rfl)
  have HON := hide (show ∀ u ∈ [Value.string (str tx), .int .i64 ((x : Int) % 4), .int .i64 (y : Int), .bool (decide (4 ≤ x))], u.oneCell' = true by simp [Value.oneCell'])
  clear l3 hx hy
  go_wp2_with (at_builtin; refine wpList_append_any _ rfl (.tmp 19) (.tmp 21) 30 rfl w0.heap.size nmT i0 _ 4 40 Tryd.underlying30 hi0 hz0 hz1 hz2 rfl (by decide) (.slice A3 n3 c3) n3 (o.names.flatMap nmC) rfl HSU.out.names _ _ 1 1 [.string (str tx), .int .i64 ((x : Int) % 4), .int .i64 (y : Int), .bool (decide (4 ≤ x))] rfl HRW.out HON.out HL1.out HL2.out HSU.out.ext.size ?_; intro A8 c8 w8 ho8 hg8 ha8; have k8 := (Blk.grown HSU.out.box hg8 (own_blk_ne HSU.out.names HSU.out.box (by decide)).symm).frozen 2; have k9 : w8.cell? ⟨go, 2, none⟩ = some (.slice A3 n3 c3) := (Blk.grown HSU.out.box hg8 (own_blk_ne HSU.out.names HSU.out.box (by decide)).symm).cell 2)
  have HFIN := hide (DecSt.names_ HSU.out (x := ⟨tx, ((x % 4 : Nat) : Int), (y : Int), decide (4 ≤ x)⟩) ho8 hg8)
  first | ((first | go_end0 | ((try simp only [Exit.inBlock, Exit.then]); refine bodyPost_ret (results_none rfl _ _ _) rfl ?_))) | skip
  exact ⟨rfl, _, HW.out _ _ HFIN.out⟩
end Go.Proofs.YtekijkdgmfdnbaaDoor
