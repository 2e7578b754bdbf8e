/- The contract of Decode's third closure: one need more. -/
import Derived.Test.YtekijkdgmfdnbaaDoorObDe2
namespace Go.Proofs.YtekijkdgmfdnbaaDoor
open Go.RowKit
set_option linter.unusedVariables false

set_option maxHeartbeats 8000000 in
set_option maxRecDepth 100000 in
theorem each3_any (g2 gr gv go : Nat) (s : Option Bs) (o : ObD) (v : ObV) (w0 w : World) (h : DecSt w0 g2 gr gv go s o v w) (hl : o.needs.length ≤ 100000) :
    Calls Tryd.prog 26 #[.pointer (some ⟨gv, 0, none⟩), .pointer (some ⟨go, 0, none⟩)] w fun e w' => e = .returned (.tuple #[]) ∧ ∃ v', DecSt w0 g2 gr gv go (neM s).2 { o with needs := o.needs ++ [(neM s).1] } v' w' := by
  have l3 := h.own.rd.l4
  obtain ⟨i0, hi0, hz0, hz1, hz2⟩ := info_parts nei2
  have HH := hide h
  have z0 := h.rv0
  clear h
  go_enter Tryd.func26, Tryd.ntmps26
  go_wp2_with fail
  refine (text_ds HH.out).mono ?_
  rintro e w1 ⟨rfl, -, hst1⟩
  have HW := hide (show ∀ v' w', DecSt w0 g2 gr gv go (hs_ (hs_ (ts_ s))) { o with needs := o.needs ++ [⟨(hv (hs_ (ts_ s)) : Int), tv s, (hv (ts_ s) : Int)⟩] } v' w' → DecSt w0 g2 gr gv go (neM s).2 { o with needs := o.needs ++ [(neM s).1] } v' w' from fun _ _ h => h)
  have hx := hv_lt (ts_ s)
  have hy := hv_lt (hs_ (ts_ s))
  generalize ts_ s = s1 at *
  generalize tv s = tx at *
  have HN := hide (Blk.new w1 neT #[.int .i64 0, .string (str tx), .int .i64 0])
  have HNE := hide hst1.fresh
  have HST1 := hide (hst1.to ((Ext.refl w1).alloc (.cells #[.int .i64 0, .string (str tx), .int .i64 0] neT)))
  clear hst1 HH z0
  go_upto_region 1 with fail
  obtain ⟨gn, hgn⟩ : ∃ gn, w1.heap.size = gn := ⟨_, rfl⟩
  rw [hgn] at HN HNE ⊢
  generalize w1.alloc (.cells #[.int .i64 0, .string (str tx), .int .i64 0] neT) = W1 at *
  have z0 := HST1.out.rv0
  clear hgn
  go_wp2_with fail
  refine (half_ds HST1.out).mono ?_
  rintro e w2 ⟨rfl, hg2, hst2⟩
  have HN2 := hide (HST1.out.other HN.out (by decide) hg2)
  have HST2 := hide hst2
  generalize hs_ s1 = s2 at *
  generalize hv s1 = x at *
  clear hst2 hg2 HST1 HN z0
  have f2 := HN2.out.frozen 2
  have b2 : w2.cell? ⟨gn, 2, none⟩ = some (.int .i64 0) := HN2.out.cell 2
  go_upto_region 2 with fail
  clear f2 b2
  have hn1 := HN2.out.set_ 2 (.int .i64 (x : Int))
  have hs1 := HST2.out.set_ HN2.out (by decide) (by decide) (by decide) (by decide) (by decide) HNE.out.1 HNE.out.2.1 HNE.out.2.2 2 (.int .i64 (x : Int))
  generalize w2.setCell ⟨gn, 2, none⟩ (.int .i64 (x : Int)) = W2 at *
  have HN3 := hide (show Blk W2 gn neT #[.int .i64 0, .string (str tx), .int .i64 (x : Int)] from hn1)
  have HST3 := hide hs1
  clear hn1 hs1 HST2 HN2
  have z0 := HST3.out.rv0
  go_wp2_with fail
  refine (half_ds HST3.out).mono ?_
  rintro e w3 ⟨rfl, hg3, hst3⟩
  have HN4 := hide (HST3.out.other HN3.out (by decide) hg3)
  have HST4 := hide hst3
  generalize hs_ s2 = s3 at *
  generalize hv s2 = y at *
  clear hst3 hg3 HST3 HN3 z0
  have f0 := HN4.out.frozen 0
  have b0 : w3.cell? ⟨gn, 0, none⟩ = some (.int .i64 0) := HN4.out.cell 0
  go_upto_region 3 with fail
  clear f0 b0
  have hn1 := HN4.out.set_ 0 (.int .i64 (y : Int))
  have hs1 := HST4.out.set_ HN4.out (by decide) (by decide) (by decide) (by decide) (by decide) HNE.out.1 HNE.out.2.1 HNE.out.2.2 0 (.int .i64 (y : Int))
  generalize w3.setCell ⟨gn, 0, none⟩ (.int .i64 (y : Int)) = W3 at *
  have HN5 := hide (show Blk W3 gn neT #[.int .i64 (y : Int), .string (str tx), .int .i64 (x : Int)] from hn1)
  have HST5 := hide hs1
  clear hn1 hs1 HST4 HN4
  obtain ⟨A1, n1, c1, A2, n2, c2, A3, n3, c3, A4, n4, c4⟩ := v
  dsimp only at l3
  have c0 : W3.cell? ⟨go, 3, none⟩ = some (.slice A4 n4 c4) := HST5.out.box.cell 3
  have y0 : W3.cell? ⟨gn, 0, none⟩ = some (.int .i64 (y : Int)) := HN5.out.cell 0
  have y1 : W3.cell? ⟨gn, 1, none⟩ = some (.string (str tx)) := HN5.out.cell 1
  have y2 : W3.cell? ⟨gn, 2, none⟩ = some (.int .i64 (x : Int)) := HN5.out.cell 2
  have HL1 := hide (show n4 + 1 ≤ maxLen by simp only [maxLen]; omega)
  have HL2 := hide (show (n4 + 1) * 32 ≤ 140737488355328 by omega)
  have HSU := hide (HST5.out.to ((Ext.refl W3).alloc (.cells #[.int .i64 (y : Int), .string (str tx), .int .i64 (x : Int)] neT)))
  have HRW := hide ((Blk.new W3 neT #[.int .i64 (y : Int), .string (str tx), .int .i64 (x : Int)]).rowsF 1 3 rfl)
  have HON := hide (show ∀ u ∈ [Value.int .i64 (y : Int), .string (str tx), .int .i64 (x : Int)], u.oneCell' = true by simp [Value.oneCell'])
  clear l3 hx hy
  go_wp2_with (at_builtin; refine wpList_append_any _ rfl (.tmp 13) (.tmp 15) 31 rfl w0.heap.size neT i0 _ 3 32 Tryd.underlying31 hi0 hz0 hz1 hz2 rfl (by decide) (.slice A4 n4 c4) n4 (o.needs.flatMap neC) rfl HSU.out.needs _ _ 1 1 [.int .i64 (y : Int), .string (str tx), .int .i64 (x : Int)] rfl HRW.out HON.out HL1.out HL2.out HSU.out.ext.size ?_; intro A8 c8 w8 ho8 hg8 ha8; have k8 := (Blk.grown HSU.out.box hg8 (own_blk_ne HSU.out.needs HSU.out.box (by decide)).symm).frozen 3; have k9 : w8.cell? ⟨go, 3, none⟩ = some (.slice A4 n4 c4) := (Blk.grown HSU.out.box hg8 (own_blk_ne HSU.out.needs HSU.out.box (by decide)).symm).cell 3)
  have HFIN := hide (DecSt.needs_ HSU.out (x := ⟨(y : Int), tx, (x : Int)⟩) ho8 hg8)
  first | ((first | go_end0 | ((try simp only [Exit.inBlock, Exit.then]); refine bodyPost_ret (results_none rfl _ _ _) rfl ?_))) | skip
  exact ⟨rfl, _, HW.out _ _ HFIN.out⟩
end Go.Proofs.YtekijkdgmfdnbaaDoor
