/- The contract of 'objects' once more: no two parts' names lie in one block. -/
import Derived.Test.YtljlniehbenefaaDoorBdObjs
namespace Go.Proofs.YtljlniehbenefaaDoor
open Go.RowKit
set_option linter.unusedVariables false

def nmBlk (v : ObV) : Option Nat := Value.ownBlock (.slice v.A3 v.n3 v.c3)
def Sep (acc : List ObX) : Prop := acc.Pairwise fun p q => ∀ a b, nmBlk p.2 = some a → nmBlk q.2 = some b → a ≠ b
theorem Sep.more {w wr w6 : World} {acc : List ObX} {A : Option Addr} {c B : Nat} (h : Sep acc) (hst : ObsSt w acc A c wr) {o : ObD} {v : ObV} (ho : ObOwn w6 wr.heap.size o v) : Sep (acc ++ [(o, v)]) := by
  refine List.pairwise_append.2 ⟨h, List.pairwise_singleton _ _, fun p hp q hq a b ha hb => ?_⟩
  rw [List.mem_singleton] at hq
  subst hq
  have h1 := ((hst.each p hp).names.lt a ha).2
  have h2 := (ho.names.lt b hb).1
  omega
def ObjsRel2 (w : World) (l : List RawP) (v3 v8 : Value) (wr : World) : Prop :=
  ∃ (k : Nat) (acc : List ObX) (A : Option Addr) (c : Nat), k ≤ l.length ∧ v8 = .int .i64 k ∧ v3 = .slice A acc.length c ∧ acc.map Prod.fst = (l.take (min k 6)).map RawP.o ∧ ObsSt w acc A c wr ∧ Sep acc
set_option maxHeartbeats 8000000 in
set_option maxRecDepth 100000 in
theorem objects_sep (A : Option Addr) (n c : Nat) (l : List RawP) (w : World) (h : PartsRd w A n l) :
    Calls Tryd.prog 8 #[.slice A n c] w fun e w' => ∃ acc A' c', e = .returned (.slice A' (List.length acc) c') ∧ acc.map Prod.fst = (l.take 6).map RawP.o ∧ ObsSt w acc A' c' w' ∧ Sep acc := by
  obtain ⟨i0, hi0, hz0, hz1, hz2⟩ := info_parts ob_info
  have hl : l.length = n := flat_len rawC_len (by omega) h.row
  have hnb := h.nb
  unfold maxLen at hnb
  have HP := hide h
  clear h
  go_enter Tryd.func8, Tryd.ntmps8
  go_wp2_with fail
  go_loopw [3, 8] (ObjsRel2 w l) (fun _ i _ => n - (intOf i).toNat)
  case atStart => exact ⟨0, [], none, 0, Nat.zero_le _, rfl, rfl, rfl, ⟨World.ownsRow_nil _ _ _ _, (fun p hp => by cases hp), Ext.refl _⟩, List.Pairwise.nil⟩
  case round =>
    obtain ⟨k, acc, A3, c3, hk, rfl, rfl, hacc, hst, hsep⟩ := hrel
    have HSEP := hide hsep
    have HST := hide hst
    have HACC := hide hacc
    have hal : acc.length ≤ 6 := by
      have := congrArg List.length hacc
      rw [List.length_map, List.length_map, List.length_take] at this
      omega
    clear hst hacc hsep
    by_cases hlt : k < n
    · have hkl : k < l.length := by omega
      obtain ⟨b, off, rfl, -⟩ := HP.out.row.addr (by omega) (by omega)
      have q0 := HST.out.ext.cell (Reads.elem rawC_len HP.out.row k hkl (by omega) 0 (by omega) rfl)
      have q1 := HST.out.ext.cell (Reads.elem rawC_len HP.out.row k hkl (by omega) 1 (by omega) rfl)
      have q2 := HST.out.ext.cell (Reads.elem rawC_len HP.out.row k hkl (by omega) 2 (by omega) rfl)
      have q3 := HST.out.ext.cell (Reads.elem rawC_len HP.out.row k hkl (by omega) 3 (by omega) rfl)
      rw [Nat.add_zero] at q0
      have hpr := HP.out.each l[k] (List.getElem_mem hkl)
      have HTK := hide (show k < 6 → (l.take (min (k + 1) 6)).map RawP.o = (l.take (min k 6)).map RawP.o ++ [l[k].o] from fun h6 => by
        rw [Nat.min_eq_left (by omega), Nat.min_eq_left (by omega), List.take_succ_eq_append_getElem hkl, List.map_append]; rfl)
      have HTK2 := hide (show ¬ k < 6 → (l.take (min (k + 1) 6)).map RawP.o = (l.take (min k 6)).map RawP.o from fun h6 => by
        rw [Nat.min_eq_right (by omega), Nat.min_eq_right (by omega)])
      generalize l[k] = r at *
      obtain ⟨⟨A1, n1, c1, A2, n2, c2, A4, n4, c4, A5, n5, c5⟩, code, data, nms, nds⟩ := r
      dsimp only at q0 q1 q2 q3 hpr
      have hb9 := Blk.new wr paT #[.slice A1 n1 c1, .slice A2 n2 c2, .slice A4 n4 c4, .slice A5 n5 c5]
      have hx9 := (Ext.refl wr).alloc (.cells #[.slice A1 n1 c1, .slice A2 n2 c2, .slice A4 n4 c4, .slice A5 n5 c5] paT)
      have HST9 := hide (HST.out.to hx9)
      have HOB := hide (object_ok ((hpr.ext HST.out.ext).ext hx9))
      clear hx9 HST hpr
      go_upto_region 5 with fail
      generalize wr.alloc (.cells #[.slice A1 n1 c1, .slice A2 n2 c2, .slice A4 n4 c4, .slice A5 n5 c5] paT) = W9 at *
      generalize wr.heap.size = gp at *
      have p0 : W9.cell? ⟨gp, 0, none⟩ = some (.slice A1 n1 c1) := hb9.cell 0
      have p1 : W9.cell? ⟨gp, 1, none⟩ = some (.slice A2 n2 c2) := hb9.cell 1
      have p2 : W9.cell? ⟨gp, 2, none⟩ = some (.slice A4 n4 c4) := hb9.cell 2
      have p3 : W9.cell? ⟨gp, 3, none⟩ = some (.slice A5 n5 c5) := hb9.cell 3
      clear q0 q1 q2 q3 hb9
      by_cases h6 : k < 6
      · have HT := hide (HTK.out h6)
        have HHS := hide HST9.out.ext.size
        go_wp2_with fail
        refine HOB.out.mono ?_
        rintro e w6 ⟨u, rfl, hoo, hx6⟩
        obtain ⟨B1, m1, d1, B2, m2, d2, B3, m3, d3, B4, m4, d4⟩ := u
        have hown : ObOwn w6 w.heap.size (objR code data nms nds) ⟨B1, m1, d1, B2, m2, d2, B3, m3, d3, B4, m4, d4⟩ := ⟨own_mono hoo.code HHS.out, own_mono hoo.data HHS.out, own_mono hoo.names HHS.out, own_mono hoo.needs HHS.out⟩
        have HSN := hide (HSEP.out.more (B := 0) HST9.out hoo)
        have hxa := (Ext.refl w6).alloc (.cells #[.slice B1 m1 d1, .slice B2 m2 d2, .slice B3 m3 d3, .slice B4 m4 d4] obT)
        have HOWN := hide (hown.ext hxa)
        have HSTA := hide ((HST9.out.to hx6).to hxa)
        have HRW := hide ((Blk.new w6 obT #[.slice B1 m1 d1, .slice B2 m2 d2, .slice B3 m3 d3, .slice B4 m4 d4]).rowsF' 1 4 rfl)
        have HL1 := hide (show acc.length + 1 ≤ maxLen by simp only [maxLen]; omega)
        have HL2 := hide (show (acc.length + 1) * 96 ≤ 140737488355328 by omega)
        have HON := hide (show ∀ u ∈ [Value.slice B1 m1 d1, .slice B2 m2 d2, .slice B3 m3 d3, .slice B4 m4 d4], u.oneCell' = true by simp [Value.oneCell'])
        clear hoo hx6 hown hxa p0 p1 p2 p3 HOB HST9
        simp only [ObV.cells]
        go_wp2_with (at_builtin; refine wpList_append_any _ rfl (.tmp 15) (.tmp 18) 23 rfl w.heap.size obT i0 _ 4 96 Tryd.underlying23 hi0 hz0 hz1 hz2 rfl (by decide) (.slice A3 acc.length c3) acc.length (acc.flatMap obXC) rfl HSTA.out.row _ _ 1 1 [.slice B1 m1 d1, .slice B2 m2 d2, .slice B3 m3 d3, .slice B4 m4 d4] rfl HRW.out HON.out HL1.out HL2.out HSTA.out.ext.size ?_; intro A8 c8 w8 ho8 hg8 ha8; have HSTN := hide (ObsSt.more (p := (objR code data nms nds, ⟨B1, m1, d1, B2, m2, d2, B3, m3, d3, B4, m4, d4⟩)) HSTA.out HOWN.out ho8 hg8))
        clear ho8 hg8 ha8
        go_roundw
        case rel => exact ⟨k + 1, acc ++ [(objR code data nms nds, ⟨B1, m1, d1, B2, m2, d2, B3, m3, d3, B4, m4, d4⟩)], A8, c8, by omega, by go_num, by simp, by rw [HT.out, List.map_append, HACC.out]; rfl, HSTN.out, HSN.out⟩
        case measure => simp [intOf]; omega
      · have HT := hide (HTK2.out h6)
        clear p0 p1 p2 p3
        go_wp2_with fail
        go_roundw
        case rel => exact ⟨k + 1, acc, A3, c3, by omega, by go_num, rfl, by rw [HT.out, HACC.out], HST9.out, HSEP.out⟩
        case measure => simp [intOf]; omega
    · obtain rfl : k = n := by omega
      have HFN := hide (show acc.map Prod.fst = (l.take 6).map RawP.o by
        rw [HACC.out]
        congr 1
        rcases Nat.le_total k 6 with h | h
        · rw [Nat.min_eq_left h, List.take_of_length_le (by omega), List.take_of_length_le (by omega)]
        · rw [Nat.min_eq_right h])
      go_wp2_with fail
      go_ret
      exact ⟨acc, A3, c3, rfl, HFN.out, HST.out, HSEP.out⟩
end Go.Proofs.YtljlniehbenefaaDoor
