/- The contract of tools.Start. -/
import Derived.Test.YtjmonkacijncbaaGreatDoorTlRun
namespace Go.Proofs.YtjmonkacijncbaaGreatDoor
open Go.RowKit
set_option linter.unusedVariables false

set_option maxHeartbeats 8000000 in
set_option maxRecDepth 100000 in
theorem start_plain {nm : Bs} {L : List Bs} (hc : CheckAt nm L) (e1 : ((str nm).toList == [101, 99, 104, 111]) = false) (e2 : ((str nm).toList == [102, 97, 108, 115, 101]) = false)
    (A : Option Addr) (n c B : Nat) (w : World) (hL : LibOk w) (hr : Reads w B 1 A n (strsV L)) (hB : B ≤ w.heap.size) (hnc : n ≤ c) (hn : n ≤ 1000000) :
    Calls Tryz.prog 21 #[.string (str nm), .slice A n c] w fun e w' => ∃ hp A' c', e = .returned (.tuple #[.pointer (some ⟨hp, 0, none⟩), .int .i64 0]) ∧ ToolM w w' hp nm L 1 false 0 [] [] A' n c' none 0 0 none 0 0 := by
  have HCK := hide (hc w A n c B hL hr hB hnc)
  have HCL := hide (fun W (hx : Ext w W) => sclone_any A n c B (strsV L) W (hx.reads hr hB) (strsV_one L) (Nat.le_trans hB hx.size) hn (some_of hr))
  clear hL hr hB hnc hc
  generalize hN : str nm = N at *
  have HN := hide hN
  clear hN
  go_enter Tryz.func21, Tryz.ntmps21
  go_wp2_with fail
  refine HCK.out.mono ?_
  rintro e w1 ⟨rfl, hx1⟩
  have HX1 := hide hx1
  clear hx1
  go_wp2_with fail
  refine (HCL.out w1 HX1.out).mono ?_
  rintro e w2 ⟨A2, c2, rfl, ho2, hx2⟩
  have HO2 := hide ho2
  have HX2 := hide (HX1.out.trans hx2)
  clear hx2 ho2
  go_wp2_with fail
  go_ret2
  have hs1 := HX1.out.size
  have hs2 := HX2.out.size
  refine ⟨_, A2, c2, rfl, ?_⟩
  exact ⟨by rw [HN.out]; exact Blk.new _ _ _, HX2.out.size, HX2.out.alloc _, (own_mono HO2.out hs1).alloc _, World.ownsRow_nil _ _ _ _, ⟨rfl, fun h => absurd h (by omega)⟩, ⟨Nat.le_refl _, Nat.zero_le _⟩⟩
set_option maxHeartbeats 8000000 in
set_option maxRecDepth 100000 in
theorem start_early {nm : Bs} {L : List Bs} {f : Bs → Bs} {s : Bs → Int} (hm : MeanAt nm L f s) (hc : CheckAt nm L) (e1 : ((str nm).toList == [101, 99, 104, 111]) = true ∨ ((str nm).toList == [101, 99, 104, 111]) = false ∧ ((str nm).toList == [102, 97, 108, 115, 101]) = true)
    (A : Option Addr) (n c B : Nat) (w : World) (hL : LibOk w) (hr : Reads w B 1 A n (strsV L)) (hB : B ≤ w.heap.size) (hnc : n ≤ c) (hn : n ≤ 1000000) :
    Calls Tryz.prog 21 #[.string (str nm), .slice A n c] w fun e w' => ∃ hp A' c' Ao mo co, e = .returned (.tuple #[.pointer (some ⟨hp, 0, none⟩), .int .i64 0]) ∧ ToolM w w' hp nm L (doingOf (f [])) false (s []) [] (f []) A' n c' none 0 0 Ao mo co := by
  have HCK := hide (hc w A n c B hL hr hB hnc)
  have HCL := hide (fun W (hx : Ext w W) => sclone_any A n c B (strsV L) W (hx.reads hr hB) (strsV_one L) (Nat.le_trans hB hx.size) hn (some_of hr))
  have HRK := hide (fun W hp A' c' (h : ToolM w W hp nm L 1 false 0 [] [] A' n c' none 0 0 none 0 0) => reckon_any hm hL h (by simp))
  clear hL hr hB hnc hc hm
  generalize hN : str nm = N at *
  have HN := hide hN
  clear hN
  go_enter Tryz.func21, Tryz.ntmps21
  go_wp2_with fail
  refine HCK.out.mono ?_
  rintro e w1 ⟨rfl, hx1⟩
  have HX1 := hide hx1
  clear hx1
  go_wp2_with fail
  refine (HCL.out w1 HX1.out).mono ?_
  rintro e w2 ⟨A2, c2, rfl, ho2, hx2⟩
  have HO2 := hide ho2
  have HX2 := hide (HX1.out.trans hx2)
  clear hx2 ho2
  have hs1 := HX1.out.size
  have hs2 := HX2.out.size
  have HT := hide (show ToolM w (w2.alloc (.cells #[.string N, .slice A2 n c2, .int .i64 1, .bool false, .slice none 0 0, .slice none 0 0, .int .i64 0] 80)) w2.heap.size nm L 1 false 0 [] [] A2 n c2 none 0 0 none 0 0 from ⟨by rw [HN.out]; exact Blk.new _ _ _, HX2.out.size, HX2.out.alloc _, (own_mono HO2.out hs1).alloc _, World.ownsRow_nil _ _ _ _, ⟨rfl, fun h => absurd h (by omega)⟩, ⟨Nat.le_refl _, Nat.zero_le _⟩⟩)
  rcases e1 with e1 | ⟨e0, e1⟩
  all_goals
    go_wp2_with fail
    refine (HRK.out _ _ _ _ HT.out).mono ?_
    rintro e w3 ⟨rfl, ⟨Ao, mo, co, h3⟩, -⟩
    have H3 := hide h3
    clear h3
    go_wp2_with fail
    go_ret2
    exact ⟨_, A2, c2, Ao, mo, co, rfl, H3.out⟩
end Go.Proofs.YtjmonkacijncbaaGreatDoor
