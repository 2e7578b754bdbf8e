/- The contracts of obj.writer: half, text. -/
import Derived.Test.YtekijkdgmfdnbaaDoorObSt
import Derived.Lib.AppendStr
namespace Go.Proofs.YtekijkdgmfdnbaaDoor
open Go.RowKit
set_option linter.unusedVariables false

abbrev wrT : TypeId := 45
theorem u8_info' : (Tryd.prog.info? 5).map (fun i => (i.zero, i.size, i.bytes)) = some (some (.int .u8 0), 1, 1) := by kernel_rfl
/-- Blocks of other kinds are as they were. -/
def KeepsW (w w' : World) : Prop := ∀ (b : Nat) (e : TypeId) (cs : Array Value), e ≠ 5 → e ≠ wrT → Blk w b e cs → Blk w' b e cs
theorem KeepsW.of {w w' : World} (h : Ext w w') : KeepsW w w' := fun b e cs _ _ hb => hb.ext h
theorem KeepsW.trans {a b c : World} (h1 : KeepsW a b) (h2 : KeepsW b c) : KeepsW a c := fun x e cs n1 n2 hb => h2 x e cs n1 n2 (h1 x e cs n1 n2 hb)
/-- The bytes so far, in the writer at g; nothing that was in w0 has changed. -/
structure WrAt (w0 : World) (g : Nat) (bs : Bs) (w : World) : Prop where
  lo : w0.heap.size ≤ g
  mem : ∃ A c, Blk w g wrT #[.slice A bs.length c] ∧ w.ownsRow w0.heap.size 5 1 (.slice A bs.length c) bs.length (bytesV bs)
  ext : Ext w0 w
section
variable {w0 w w' : World} {g : Nat} {bs : Bs}
theorem WrAt.to (h : WrAt w0 g bs w) (hx : Ext w w') : WrAt w0 g bs w' := by
  obtain ⟨A, c, h1, h2⟩ := h.mem
  exact ⟨h.lo, ⟨A, c, h1.ext hx, hx.own h2⟩, h.ext.trans hx⟩
theorem WrAt.lt (h : WrAt w0 g bs w) : g < w.heap.size := by
  obtain ⟨A, c, h1, h2⟩ := h.mem
  exact h1.lt
/-- Bytes written behind. -/
theorem WrAt.told {A A' : Option Addr} {c c' n' : Nat} {x : Bs} (hg0 : w0.heap.size ≤ g) (hb : Blk w g wrT #[.slice A bs.length c]) (ho : w.ownsRow w0.heap.size 5 1 (.slice A bs.length c) bs.length (bytesV bs)) (hx : Ext w0 w)
    (hn : n' = (bs ++ x).length) (ho' : w'.ownsRow w0.heap.size 5 1 (.slice A' n' c') n' (bytesV bs ++ bytesV x)) (hg : w.grownBy w' (Value.ownBlock (.slice A bs.length c))) :
    WrAt w0 g (bs ++ x) (w'.setCell ⟨g, 0, none⟩ (.slice A' n' c')) ∧ KeepsW w (w'.setCell ⟨g, 0, none⟩ (.slice A' n' c')) := by
  subst hn
  have n1 : some g ≠ Value.ownBlock (.slice A bs.length c) := Ne.symm (own_blk_ne ho hb (by decide))
  have hbw := hb.grown hg n1
  have n2 : Value.ownBlock (.slice A' (bs ++ x).length c') ≠ some g := own_blk_ne ho' hbw (by decide)
  refine ⟨⟨hg0, ⟨A', c', hbw.set_ 0 _, ?_⟩, (hx.grown hg (fun k hk => (ho.lt k hk).1)).setCell (p := ⟨g, 0, none⟩) hg0 _⟩, fun b e cs n3 n4 hbb => ?_⟩
  · rw [bytesV_append]
    exact own_far ho' n2 _
  · have n5 : some b ≠ Value.ownBlock (.slice A bs.length c) := Ne.symm (own_blk_ne ho hbb (Ne.symm n3))
    have hne : b ≠ g := Blk.ne_ hbb hb n4
    exact (hbb.grown hg n5).far (p := ⟨g, 0, none⟩) hne _
end
/-- Two appends in a row: seen from the first. -/
theorem grown_next {a b c : World} {r1 r2 : Option Nat} (h1 : a.grownBy b r1) (h2 : b.grownBy c r2) (hr : r2 = r1 ∨ r2 = some a.heap.size) : a.grownBy c r1 :=
  ⟨h2.os.trans h1.os, h2.tape.trans h1.tape, h2.output.trans h1.output, Nat.le_trans h1.size h2.size, fun k hk hne => (h2.block k (Nat.lt_of_lt_of_le hk h1.size) (by
    rcases hr with hr | hr
    · rw [hr]; exact hne
    · rw [hr]; intro e; injection e with e; omega)).trans (h1.block k hk hne)⟩
theorem half_cells (n : Nat) : bytesV (halfL n) = [.int .u8 ((n : Int) % 256), .int .u8 ((n : Int) / 256 % 256)] := by
  have h1 := u8N_nat n
  have h2 := u8N_nat (n / 256)
  simp only [bytesV, halfL, List.map_cons, List.map_nil, h1, h2]
  simp
set_option maxHeartbeats 4000000 in
theorem half_any (n : Nat) (hn : n < 4611686018427387904) (g : Nat) (bs : Bs) (w0 w : World) (h : WrAt w0 g bs w) (hl : bs.length ≤ 1000000) :
    Calls Tryd.prog 13 #[.pointer (some ⟨g, 0, none⟩), .int .i64 (n : Int)] w fun e w' => e = .returned (.tuple #[]) ∧ WrAt w0 g (bs ++ halfL n) w' ∧ KeepsW w w' := by
  obtain ⟨A, c, hb, ho⟩ := h.mem
  obtain ⟨i0, hi0, hz0, hz1, hz2⟩ := info_parts u8_info'
  have HB := hide hb
  have HO := hide ho
  have HL := hide h.lo
  have HX := hide h.ext
  have HH := hide (half_cells n)
  have c0 : w.cell? ⟨g, 0, none⟩ = some (.slice A bs.length c) := hb.cell 0
  have hsz := h.ext.size
  clear h hb ho
  go_enter Tryd.func13, Tryd.ntmps13
  have HL1 := hide (show bs.length + 2 ≤ maxLen by simp only [maxLen]; omega)
  have HL2 := hide (show (bs.length + 2) * 1 ≤ 140737488355328 by omega)
  have HL3 := hide (show w0.heap.size ≤ (w.alloc (.cells #[.int .u8 ((n : Int) % 256), .int .u8 ((n : Int) / 256 % 256)] 5)).heap.size by simp; omega)
  have HRW := hide ((Blk.new w 5 #[.int .u8 ((n : Int) % 256), .int .u8 ((n : Int) / 256 % 256)]).rowsF 2 1 rfl)
  have HON := hide (show ∀ u ∈ [Value.int .u8 ((n : Int) % 256), .int .u8 ((n : Int) / 256 % 256)], u.oneCell' = true by simp [Value.oneCell'])
  have HOW := hide (HO.out.alloc (.cells #[.int .u8 ((n : Int) % 256), .int .u8 ((n : Int) / 256 % 256)] 5))
  have HBW := hide (HB.out.alloc (.cells #[.int .u8 ((n : Int) % 256), .int .u8 ((n : Int) / 256 % 256)] 5))
  have HNE := hide (own_blk_ne HOW.out HBW.out (by decide)).symm
  have HXW := hide (HX.out.alloc (.cells #[.int .u8 ((n : Int) % 256), .int .u8 ((n : Int) / 256 % 256)] 5))
  have HKW := hide (KeepsW.of ((Ext.refl w).alloc (.cells #[.int .u8 ((n : Int) % 256), .int .u8 ((n : Int) / 256 % 256)] 5)))
  go_wp2_with (at_builtin; refine wpList_append_any _ rfl (.tmp 8) (.tmp 14) 23 rfl w0.heap.size 5 i0 _ 1 1 Tryd.underlying23 hi0 hz0 hz1 hz2 rfl (by decide) (.slice A bs.length c) bs.length (bytesV bs) rfl HOW.out _ _ 2 2 [.int .u8 ((n : Int) % 256), .int .u8 ((n : Int) / 256 % 256)] rfl HRW.out HON.out HL1.out HL2.out HL3.out ?_; intro A8 c8 w8 ho8 hg8 ha8; have k8 := (Blk.grown HBW.out hg8 HNE.out).frozen 0; have k9 : w8.cell? ⟨g, 0, none⟩ = some (.slice A bs.length c) := (Blk.grown HBW.out hg8 HNE.out).cell 0)
  (first | go_end0 | ((try simp only [Exit.inBlock, Exit.then]); refine bodyPost_ret (results_none rfl _ _ _) rfl ?_))
  have h9 := WrAt.told (x := halfL n) (n' := bs.length + 2) HL.out HBW.out HOW.out HXW.out (by simp [halfL]) (by rw [HH.out]; exact ho8) hg8
  exact ⟨rfl, h9.1, HKW.out.trans h9.2⟩
theorem text_cells (s : Bs) : bytesV (textL s) = [.int .u8 ((s.length : Int) % 256)] ++ Go.Lib.strCells (str s) := by
  have h1 := u8N_nat s.length
  simp only [bytesV, textL, List.map_cons, h1, Go.Lib.strCells, str_list]
  simp
set_option maxHeartbeats 4000000 in
theorem text_any (s : Bs) (hs : s.length ≤ 1000) (g : Nat) (bs : Bs) (w0 w : World) (h : WrAt w0 g bs w) (hl : bs.length ≤ 1000000) :
    Calls Tryd.prog 14 #[.pointer (some ⟨g, 0, none⟩), .string (str s)] w fun e w' => e = .returned (.tuple #[]) ∧ WrAt w0 g (bs ++ textL s) w' ∧ KeepsW w w' := by
  obtain ⟨A, c, hb, ho⟩ := h.mem
  obtain ⟨i0, hi0, hz0, hz1, hz2⟩ := info_parts u8_info'
  have HB := hide hb
  have HO := hide ho
  have HL := hide h.lo
  have HX := hide h.ext
  have HH := hide (text_cells s)
  have c0 : w.cell? ⟨g, 0, none⟩ = some (.slice A bs.length c) := hb.cell 0
  have hsz := h.ext.size
  have hss := str_size s
  clear h hb ho
  go_enter Tryd.func14, Tryd.ntmps14
  have HL1 := hide (show bs.length + 1 ≤ maxLen by simp only [maxLen]; omega)
  have HL2 := hide (show (bs.length + 1) * 1 ≤ 140737488355328 by omega)
  have HL3 := hide (show w0.heap.size ≤ (w.alloc (.cells #[.int .u8 ((s.length : Int) % 256)] 5)).heap.size by simp; omega)
  have HRW := hide ((Blk.new w 5 #[.int .u8 ((s.length : Int) % 256)]).rowsF 1 1 rfl)
  have HON := hide (show ∀ u ∈ [Value.int .u8 ((s.length : Int) % 256)], u.oneCell' = true by simp [Value.oneCell'])
  have HOW := hide (HO.out.alloc (.cells #[.int .u8 ((s.length : Int) % 256)] 5))
  have HBW := hide (HB.out.alloc (.cells #[.int .u8 ((s.length : Int) % 256)] 5))
  have HNE := hide (own_blk_ne HOW.out HBW.out (by decide)).symm
  have HXW := hide (HX.out.alloc (.cells #[.int .u8 ((s.length : Int) % 256)] 5))
  have HKW := hide (KeepsW.of ((Ext.refl w).alloc (.cells #[.int .u8 ((s.length : Int) % 256)] 5)))
  go_wp2_with (at_builtin; first
    | (refine wpList_append_any _ rfl (.tmp 8) (.tmp 12) 23 rfl w0.heap.size 5 i0 _ 1 1 Tryd.underlying23 hi0 hz0 hz1 hz2 rfl (by decide) (.slice A bs.length c) bs.length (bytesV bs) rfl HOW.out _ _ 1 1 [.int .u8 ((s.length : Int) % 256)] rfl HRW.out HON.out HL1.out HL2.out HL3.out ?_; intro A8 c8 w8 ho8 hg8 ha8; have HO8 := hide ho8; have HG8 := hide hg8; have HA8 := hide ha8; have HB8 := hide (Blk.grown HBW.out hg8 HNE.out); have HZ8 := hide (Nat.le_trans HL3.out hg8.size))
    | (refine Go.Lib.wpList_append_own_string _ rfl (.tmp 13) (.tmp 14) 23 9 rfl w0.heap.size 5 i0 Tryd.underlying23 Tryd.underlying9 hi0 hz0 hz1 hz2 (.slice A8 (bs.length + 1) c8) (bs.length + 1) _ rfl HO8.out (str s) rfl (by simp only [maxLen]; omega) (by omega) HZ8.out ?_; intro v9 w9 ho9 hg9 ha9; obtain ⟨A9, c9, rfl, -⟩ := own_form ho9; have hg98 := grown_next HG8.out hg9 HA8.out; have k8 := (Blk.grown HBW.out hg98 HNE.out).frozen 0; have k9 : w9.cell? ⟨g, 0, none⟩ = some (.slice A bs.length c) := (Blk.grown HBW.out hg98 HNE.out).cell 0))
  (first | go_end0 | ((try simp only [Exit.inBlock, Exit.then]); refine bodyPost_ret (results_none rfl _ _ _) rfl ?_))
  have h9 := WrAt.told (x := textL s) (n' := bs.length + 1 + (str s).size) HL.out HBW.out HOW.out HXW.out (by rw [List.length_append, str_size]; simp [textL]; omega) (by rw [HH.out, ← List.append_assoc]; exact ho9) hg98
  exact ⟨rfl, h9.1, HKW.out.trans h9.2⟩
set_option maxHeartbeats 4000000 in
theorem half_new (n : Nat) (hn : n < 4611686018427387904) (g Bo : Nat) (ad : Addr) (w0 w : World) (hlo : w0.heap.size ≤ g) (hb : Blk w g wrT #[.slice (some ad) 3 3]) (hr : Reads w Bo 1 (some ad) 3 (bytesV signL)) (hB : Bo ≤ w.heap.size) (hx : Ext w0 w) :
    Calls Tryd.prog 13 #[.pointer (some ⟨g, 0, none⟩), .int .i64 (n : Int)] w fun e w' => e = .returned (.tuple #[]) ∧ WrAt w0 g (signL ++ halfL n) w' ∧ KeepsW w w' := by
  obtain ⟨i0, hi0, hz0, hz1, hz2⟩ := info_parts u8_info'
  have HB := hide hb
  have HX := hide hx
  have HL := hide hlo
  have HH := hide (half_cells n)
  have c0 : w.cell? ⟨g, 0, none⟩ = some (.slice (some ad) 3 3) := hb.cell 0
  have hsz := hx.size
  have HR := hide (hr.alloc hB (.cells #[.int .u8 ((n : Int) % 256), .int .u8 ((n : Int) / 256 % 256)] 5))
  clear hb hr hx
  go_enter Tryd.func13, Tryd.ntmps13
  have HRW := hide ((Blk.new w 5 #[.int .u8 ((n : Int) % 256), .int .u8 ((n : Int) / 256 % 256)]).rowsF 2 1 rfl)
  have HON := hide (show ∀ u ∈ [Value.int .u8 ((n : Int) % 256), .int .u8 ((n : Int) / 256 % 256)], u.oneCell' = true by simp [Value.oneCell'])
  have HBW := hide (HB.out.alloc (.cells #[.int .u8 ((n : Int) % 256), .int .u8 ((n : Int) / 256 % 256)] 5))
  have HXW := hide (HX.out.alloc (.cells #[.int .u8 ((n : Int) % 256), .int .u8 ((n : Int) / 256 % 256)] 5))
  have HKW := hide (KeepsW.of ((Ext.refl w).alloc (.cells #[.int .u8 ((n : Int) % 256), .int .u8 ((n : Int) / 256 % 256)] 5)))
  go_wp2_with (at_builtin; refine wpList_append_new _ rfl (.tmp 8) (.tmp 14) 23 rfl 5 i0 _ 1 1 Tryd.underlying23 hi0 hz0 hz1 hz2 rfl (by decide) Bo (some ad) 3 3 (bytesV signL) rfl (fun h => by cases h) HR.out _ _ 2 2 [.int .u8 ((n : Int) % 256), .int .u8 ((n : Int) / 256 % 256)] rfl HRW.out HON.out (by decide) (by decide) (by simp only [maxLen]; omega) (by decide) ?_; intro A8 c8 w8 ho8 hx8; have HO8 := hide ho8; have HX8 := hide hx8; have k8 := (HBW.out.ext hx8).frozen 0; have k9 : w8.cell? ⟨g, 0, none⟩ = some (.slice (some ad) 3 3) := (HBW.out.ext hx8).cell 0)
  (first | go_end0 | ((try simp only [Exit.inBlock, Exit.then]); refine bodyPost_ret (results_none rfl _ _ _) rfl ?_))
  have hb8 := HBW.out.ext HX8.out
  have h1 : w0.heap.size ≤ (w.alloc (.cells #[.int .u8 ((n : Int) % 256), .int .u8 ((n : Int) / 256 % 256)] 5)).heap.size := by simp; omega
  have h2 := own_mono HO8.out h1
  rw [← HH.out, ← bytesV_append] at h2
  refine ⟨rfl, ⟨HL.out, ⟨A8, c8, hb8.set_ 0 _, own_far h2 (own_blk_ne h2 hb8 (by decide)) _⟩, (HXW.out.trans HX8.out).setCell (p := ⟨g, 0, none⟩) HL.out _⟩, fun b e cs n3 n4 hbb => ?_⟩
  exact ((hbb.alloc _).ext HX8.out).far (p := ⟨g, 0, none⟩) (Blk.ne_ hbb HB.out n4) _
end Go.Proofs.YtekijkdgmfdnbaaDoor
