/- What SockNames leans on. -/
import Derived.Test.YtnniicmpbcfinaaPartsW
import Derived.Test.YtnniicmpbcfinaaInts
namespace Go.Proofs.Ytnniicmpbcfinaa
open Go.RowKit
set_option linter.unusedVariables false

theorem name_there {w0 : World} {gs : Nat} {S : Nat → Option SkD} {M : Nat → MemS} (i m : Nat) (d dm : SkD) (port : Int) (w : World) (h : SkAt w0 gs S M w) (hi : i < 16) (hS : S i = some d) (hk : d.kind = 0) (hp : 1 ≤ port ∧ port ≤ 99) (hm : m < 16) (hSm : S m = some dm) (hpm : Has port dm) (hno : ∀ j e, j < m → S j = some e → ¬ Has port e) :
    Calls Try.prog 14 #[.pointer (some ⟨gs, 0, none⟩), .int .i64 ((i : Int) + 1), .int .i64 port] w fun e w' => e = .returned (.int .i64 5) ∧ w = w' := by
  have HF := hide (find_at i w h hi)
  have HN := hide (named_at m port w h (by omega) hno (.inr ⟨dm, hSm, hpm⟩))
  rw [namedV_at M m (by omega)] at HN
  have hb := h.box i d hS
  have c0 : w.cell? ⟨(M i).b, 0, none⟩ = some (.int .i64 d.kind) := hb.cell 0
  rw [hk] at c0
  simp only [ptrS, hS, Option.isSome_some, if_true] at HF
  obtain ⟨p1, p2⟩ := hp
  clear h hS hk hno hb hSm hpm
  generalize (M i).b = bi at *
  generalize (M m).b = bm at *
  go_enter Try.func14, Try.ntmps14
  go_wp2_with fail
  refine HF.out.mono ?_
  rintro e w' ⟨rfl, rfl⟩
  go_wp2_with fail
  refine HN.out.mono ?_
  rintro e w' ⟨rfl, rfl⟩
  go_wp2_with fail
  go_ret
  exact ⟨rfl, rfl⟩
theorem reach_pipe {w0 : World} {gs : Nat} {S : Nat → Option SkD} {M : Nat → MemS} (i m : Nat) (d dm : SkD) (port : Int) (w : World) (h : SkAt w0 gs S M w) (hi : i < 16) (hS : S i = some d) (hk : d.kind = 0) (hp : 1 ≤ port ∧ port ≤ 99) (hm : m < 16) (hSm : S m = some dm) (hpm : dm.port = port) (hkm : dm.kind = 1) (hno : ∀ j e, j < m → S j = some e → ¬ Has port e) :
    Calls Try.prog 16 #[.pointer (some ⟨gs, 0, none⟩), .int .i64 ((i : Int) + 1), .int .i64 port] w fun e w' => e = .returned (.int .i64 10) ∧ w = w' := by
  have HF := hide (find_at i w h hi)
  have HN := hide (named_at m port w h (by omega) hno (.inr ⟨dm, hSm, hpm, by omega⟩))
  rw [namedV_at M m (by omega)] at HN
  have hb := h.box i d hS
  have c0 : w.cell? ⟨(M i).b, 0, none⟩ = some (.int .i64 d.kind) := hb.cell 0
  have m0 : w.cell? ⟨(M m).b, 0, none⟩ = some (.int .i64 dm.kind) := (h.box m dm hSm).cell 0
  rw [hk] at c0
  rw [hkm] at m0
  simp only [ptrS, hS, Option.isSome_some, if_true] at HF
  obtain ⟨p1, p2⟩ := hp
  clear h hS hk hno hb hSm hpm hkm
  generalize (M i).b = bi at *
  generalize (M m).b = bm at *
  go_enter Try.func16, Try.ntmps16
  go_wp2_with fail
  refine HF.out.mono ?_
  rintro e w' ⟨rfl, rfl⟩
  go_wp2_with fail
  refine HN.out.mono ?_
  rintro e w' ⟨rfl, rfl⟩
  go_wp2_with fail
  go_ret
  exact ⟨rfl, rfl⟩
theorem reads_one (w : World) (t : TypeId) (v : Value) : Reads (w.alloc (.cells #[v] t)) (w.heap.size + 1) 1 (some ⟨w.heap.size, 0, none⟩) 1 [v] := by
  have := (Blk.new w t #[v]).reads
  simpa using this
def listS (S : Nat → Option SkD) : Nat → List Int
  | 0 => []
  | k + 1 => if (S k).isSome then listS S k ++ [(k : Int) + 1] else listS S k
theorem listS_le (S : Nat → Option SkD) (k : Nat) : (listS S k).length ≤ k := by
  induction k with
  | zero => simp [listS]
  | succ k ih =>
    unfold listS
    split
    · rw [List.length_append]; simp; exact ih
    · omega
def ListRel (w : World) (S : Nat → Option SkD) (o i : Value) (w' : World) : Prop := ∃ k m A c, k ≤ 16 ∧ i = .int .i64 (k : Nat) ∧ o = .slice A m c ∧ m = (listS S k).length ∧ w'.ownsRow w.heap.size 3 1 (.slice A m c) m (intsV (listS S k)) ∧ Ext w w'
def ListPost (w : World) (xs : List Int) (e : Ending) (w' : World) : Prop := ∃ A n c, e = .returned (.slice A n c) ∧ w'.ownsRow w.heap.size 3 1 (.slice A n c) n (intsV xs) ∧ Ext w w'
set_option maxHeartbeats 4000000 in
set_option maxRecDepth 100000 in
theorem list_at {w0 : World} {gs : Nat} {S : Nat → Option SkD} {M : Nat → MemS} (w : World) (h : SkAt w0 gs S M w) :
    Calls Try.prog 20 #[.pointer (some ⟨gs, 0, none⟩)] w (ListPost w (listS S 16)) := by
  obtain ⟨i0, hi0, hz0, hz1, hz2⟩ := info_parts int_info
  obtain ⟨ip, hip, -, hip1, -⟩ := info_parts ptr_info
  obtain ⟨cs, hcs, hlen, hld⟩ := h.tab.whole
  have HCS := hide hcs
  have HLD := hide hld
  have HSZ := hide (show (Try.prog.info? 51).map (·.size) = some cs.length by rw [hlen]; kernel_rfl)
  clear hcs hlen hld h
  go_enter Try.func20, Try.ntmps20
  go_wp2_with ((with_reducible refine wpList_load_mid rfl 51 (.tmp 8) rfl gs 0 rfl cs _ HLD.out Try.underlying51 rfl HSZ.out ?_))
  go_loopw [3, 10] (ListRel w S) (fun _ i _ => 16 - (intOf i).toNat)
  case atStart => exact ⟨0, 0, none, 0, by omega, rfl, rfl, rfl, World.ownsRow_nil _ _ _ _, Ext.refl _⟩
  case round =>
    obtain ⟨k, m, A1, c1, hk, rfl, rfl, hm, ho, hx⟩ := hrel
    have HO := hide ho
    have HXX := hide hx
    have HM := hide hm
    have hm16 : m ≤ 16 := by have := listS_le S k; omega
    clear ho hx hm
    by_cases hlt : k < 16
    · have hix := index_arr (P := Try.prog) Try.underlying51 Try.underlying45 rfl hip hip1 cs.toArray k hlt (by simpa using HCS.out k hlt) .i64
      by_cases h2 : (S k).isSome = true
      · have HL := hide (show listS S (k + 1) = listS S k ++ [(k : Int) + 1] by rw [listS, if_pos h2])
        simp only [ptrS, h2, if_true] at hix
        clear h2
        go_wp2_with (at_builtin; refine wpList_append_any _ rfl (.tmp 16) (.tmp 19) 41 rfl w.heap.size 3 i0 _ 1 8 Try.underlying41 hi0 hz0 hz1 hz2 rfl (by omega) _ m (intsV (listS S k)) rfl (HO.out.alloc _) _ _ 1 1 [.int .i64 ((k : Int) + 1)] rfl (reads_one _ _ _) (by simp [Value.oneCell']) (by simp only [maxLen]; omega) (by omega) (by simp; have := HXX.out.size; omega) ?_; intro A4 c4 w4 ho4 hg4 ha4)
        go_roundw
        case rel => exact ⟨k + 1, m + 1, A4, c4, by omega, by go_num, rfl, by rw [HL.out, List.length_append, ← HM.out]; rfl, by rw [HL.out, intsV_append]; exact ho4, (HXX.out.alloc _).grown hg4 (fun j hj => (HO.out.lt j hj).1)⟩
        case measure => simp [intOf]; omega
      · have HL := hide (show listS S (k + 1) = listS S k by rw [listS, if_neg h2])
        simp only [ptrS, h2] at hix
        clear h2
        go_wp2_with fail
        go_roundw
        case rel => exact ⟨k + 1, m, A1, c1, by omega, by go_num, rfl, by rw [HL.out]; exact HM.out, by rw [HL.out]; exact HO.out, HXX.out⟩
        case measure => simp [intOf]; omega
    · obtain rfl : k = 16 := by omega
      go_wp2_with fail
      go_ret
      exact ⟨A1, m, c1, rfl, HO.out, HXX.out⟩
end Go.Proofs.Ytnniicmpbcfinaa
