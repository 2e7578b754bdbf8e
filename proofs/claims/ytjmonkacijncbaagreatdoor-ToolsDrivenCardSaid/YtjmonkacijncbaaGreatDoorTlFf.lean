/- bytes.FieldsFunc with blank: how many words. -/
import Derived.Test.YtjmonkacijncbaaGreatDoorTlWcP
import Derived.Test.YtjmonkacijncbaaGreatDoorFlat
import Derived.Deep.DeepCutAuto
namespace Go.Proofs.YtjmonkacijncbaaGreatDoor
open Go.RowKit
set_option linter.unusedVariables false

def stZ : Option Nat → Int
  | none => -1
  | some s => (s : Int)
def spanC (x : Nat × Nat) : List Value := [.int .i64 (x.1 : Int), .int .i64 (x.2 : Int)]
theorem FfSt.fin {b : Bs} {i : Nat} {st : Option Nat} {acc : List (Nat × Nat)} (h : FfSt b i st acc) (hi : b.length ≤ i) : ∀ x ∈ ffAll b, x.1 ≤ x.2 ∧ x.2 ≤ b.length := by
  intro x hx
  have hd := h.done hi
  cases hst : st with
  | none =>
    rw [hd.2 hst] at hx
    exact h.hacc x hx
  | some s =>
    obtain ⟨he, hs⟩ := hd.1 s hst
    rw [he] at hx
    rcases List.mem_append.1 hx with hx | hx
    · exact h.hacc x hx
    · simp only [List.mem_singleton] at hx
      subst hx
      exact ⟨hs, Nat.le_refl _⟩
theorem bslice_info : (Tryz.prog.info? 22).map (fun i => (i.zero, i.size, i.bytes)) = some (some (.slice none 0 0), 1, 24) := by kernel_rfl
theorem make_bs (k : Nat) (hk : k ≤ 1100) (W : World) : ∃ cs : Array Value, cs.size = k ∧ (Instr.makeSlice 73 (.int .i64 (k : Int)) (.int .i64 (k : Int))).run Tryz.prog W = .ok (.slice (some ⟨W.heap.size, 0, none⟩) k k) (W.alloc (.cells cs 22)) := by
  obtain ⟨i0, hi0, hz0, hz1, hz2⟩ := info_parts bslice_info
  have h := run_make (P := Tryz.prog) W 73 22 i0 _ Tryz.underlying73 hi0 hz0 .i64 .i64 (k : Int) (k : Int) (by omega) (Int.le_refl _) (by rw [hz2]; omega) (by omega)
  rw [Int.toNat_natCast, hz1, Nat.mul_one] at h
  exact ⟨_, size_madeCells _ _, h⟩
def FfOut (w : World) (b : Bs) (ga k : Nat) (A : Option Addr) (c : Nat) (v : Value) (wr : World) : Prop :=
  ∃ (j : Nat) (cs : Array Value), j ≤ k ∧ v = .int .i64 (j : Int) ∧ Blk wr ga 22 cs ∧ cs.size = k ∧ wr.ownsRow w.heap.size 114 2 (.slice A k c) k ((ffAll b).flatMap spanC) ∧ Ext w wr
theorem span_info : (Tryz.prog.info? 114).map (fun i => (i.zero, i.size, i.bytes)) = some (some (.agg #[.int .i64 0, .int .i64 0]), 2, 16) := by kernel_rfl
theorem rows_blk {w : World} {g : Nat} {t : TypeId} {cs : Array Value} (h : Blk w g t cs) (n size : Nat) (hs : cs.size = n * size) : Reads w w.heap.size size (some ⟨g, 0, none⟩) n cs.toList := by
  refine ⟨by simpa using hs, fun hn => ⟨⟨g, 0, none⟩, rfl, h.lt, fun j u hu => ?_⟩⟩
  rw [add_lit, Nat.zero_add, h.cell]
  simpa using hu
theorem get_str (l : Bs) (j : Nat) : (str l).get! j = l.getD j 0 := by
  unfold str ByteArray.get!
  simp [List.getD_eq_getElem?_getD, getElem!_def]
  cases l[j]? <;> rfl
theorem dec_any (b : Bs) (i : Nat) (hi : i < b.length) (A : Option Addr) (c B : Nat) (w : World) (hr : Reads w B 1 A (b.length - i) (bytesV (b.drop i))) (hL : LibOk w) :
    Calls Tryz.prog 73 #[.slice A (b.length - i) c] w fun e w' => e = .returned (.tuple #[.int .i32 ((decP b i).1 : Int), .int .i64 ((decP b i).2 : Int)]) ∧ Ext w w' := by
  obtain ⟨g, off, rfl, hg, hc⟩ := hr.at1 (by omega)
  have hz : (str (b.drop i)).size = b.length - i := by rw [str_size, List.length_drop]
  have h := Tryz.utf8_DecodeRune (str (b.drop i)) g off c w hL.utf (fun j hj => by
    rw [hz] at hj
    rw [hc j hj, bytesV_getElem, get_str])
  rw [hz] at h
  exact h.mono fun e w' ⟨h1, h2⟩ => ⟨h1, Ext.of h2⟩
/-- The first loop of FieldsFunc. -/
def FfRel (w : World) (b : Bs) (v5 v6 v7 : Value) (wr : World) : Prop :=
  ∃ (i : Nat) (st : Option Nat) (acc : List (Nat × Nat)) (k : Nat) (A : Option Addr) (c : Nat), FfSt b i st acc ∧ acc.length = k ∧ v7 = .int .i64 (i : Int) ∧ v6 = .int .i64 (stZ st) ∧ v5 = .slice A k c ∧ wr.ownsRow w.heap.size 114 2 (.slice A k c) k (acc.flatMap spanC) ∧ Ext w wr
def FfEnd (w : World) (b : Bs) (v5 : Value) (wr : World) : Prop :=
  ∃ (k : Nat) (A : Option Addr) (c : Nat), (ffAll b).length = k ∧ k ≤ 1100 ∧ (∀ x ∈ ffAll b, x.1 ≤ x.2 ∧ x.2 ≤ b.length) ∧ v5 = .slice A k c ∧ wr.ownsRow w.heap.size 114 2 (.slice A k c) k ((ffAll b).flatMap spanC) ∧ Ext w wr
set_option maxHeartbeats 8000000 in
set_option maxRecDepth 100000 in
theorem fields_any (b : Bs) (A : Option Addr) (n c B : Nat) (w : World) (hr : Reads w B 1 A n (bytesV b)) (hB : B ≤ w.heap.size) (hnc : n ≤ c) (hn : n ≤ 1024) (hL : LibOk w) :
    Calls Tryz.prog 41 #[.slice A n c, .func (.func 42) #[] #[]] w fun e w' => ∃ A' c', e = .returned (.slice A' (ffAll b).length c') ∧ Ext w w' := by
  have hbn := bytes_len hr
  have HR := hide hr
  have HLL := hide hL
  obtain ⟨i0, hi0, hz0, hz1, hz2⟩ := info_parts span_info
  obtain ⟨i1, hi1, hz3, hz4, hz5⟩ := info_parts byte_infoC
  obtain ⟨W0, hmk, hown, hgr⟩ := run_makeSlice_owned (P := Tryz.prog) (w := w) w.heap.size 110 114 i0 _ 2 Tryz.underlying110 hi0 hz0 hz1 .i64 .i64 32 (by omega) (by rw [hz2]; omega) (by simp only [maxLen]; omega) (Nat.le_refl _)
  have hmk2 : (Instr.makeSlice 110 (.int .i64 0) (.int .i64 32)).run Tryz.prog w = .ok (.slice (some ⟨w.heap.size, 0, none⟩) 0 32) W0 := hmk
  have HOW := hide hown
  have HX0 := hide ((Ext.refl w).grown hgr (fun j hj => by cases hj))
  clear hr hL hmk hown hgr
  go_enter Tryz.func41, Tryz.ntmps41
  go_wp2_with fail
  go_loopw [5, 6, 7] (FfRel w b) (fun _ _ v _ => n - (intOf v).toNat)
  case atStart =>
    exact ⟨0, none, [], 0, _, _, FfSt.zero b, rfl, rfl, rfl, rfl, HOW.out, HX0.out⟩
  case round =>
    obtain ⟨i, st, acc, k, A5, c5, hst, hk, rfl, rfl, rfl, ho, hx⟩ := hrel
    have HO := hide ho
    have HX := hide hx
    have HST := hide hst
    have HK := hide hk
    have hin : i ≤ n := by have := hst.hle; omega
    have hkn : k ≤ n := by have := hst.hfew; omega
    clear ho hx hst hk
    by_cases hlt : i < n
    · obtain ⟨A', hsl, hr', hnn⟩ := cut_from (P := Tryz.prog) Tryz.underlying22 hi1 hz4 (HX.out.reads HR.out hB) i c (by omega) hnc .i64
      rw [bytesV_drop] at hr'
      have HDC := hide (by rw [← hbn] at hr'; exact dec_any b i (by omega) A' (c - i) _ wr hr' (HLL.out.ext HX.out))
      have HBL := hide (fun W => blank_any (decP b i).1 (decP_rune b i) W)
      have hsz := decP_size b i (by omega)
      have HSTP := hide (HST.out.step (by omega))
      rw [hbn] at HDC hsz
      generalize (decP b i).1 = r at *
      generalize (decP b i).2 = z at *
      clear hr' hnn
      go_wp2_with fail
      refine HDC.out.mono ?_
      rintro e w1 ⟨rfl, hx1⟩
      have HX1 := hide (HX.out.trans hx1)
      have HO1 := hide (hx1.own HO.out)
      clear hx1 hsl
      go_wp2_with fail
      refine (HBL.out w1).mono ?_
      rintro e w2 ⟨rfl, rfl⟩
      have hwr : IntKind.i64.wrap ((i : Int) + (z : Int)) = ((i + z : Nat) : Int) := by rw [IntKind.wrap_i64]; omega
      cases hbl : blankP r with
      | true =>
        rw [hbl] at HSTP
        cases st with
        | none =>
          have HN := hide ((HSTP.out.1 rfl).2 rfl)
          simp only [stZ]
          go_wp2_with fail
          go_roundw
          case rel => exact ⟨i + z, none, acc, k, A5, c5, HN.out, HK.out, by first | rfl | go_num, rfl, rfl, HO1.out, HX1.out⟩
          case measure => simp [intOf]; omega
        | some s =>
          have HN := hide ((HSTP.out.1 rfl).1 s rfl)
          simp only [stZ]
          have t1 : decide ((s : Int) ≥ 0) = true := decide_eq_true (by omega)
          have t2 : decide ((0 : Int) ≤ (s : Int)) = true := decide_eq_true (by omega)
          go_wp2_with (at_builtin; refine wpList_append_any _ rfl (.tmp 30) (.tmp 34) 110 rfl w.heap.size 114 i0 _ 2 16 Tryz.underlying110 hi0 hz0 hz1 hz2 rfl (by omega) (.slice A5 k c5) k (acc.flatMap spanC) rfl (HO1.out.alloc _) _ _ 1 1 (spanC (s, i)) rfl (rows_blk (Blk.new w1 114 #[.int .i64 (s : Int), .int .i64 (i : Int)]) 1 2 rfl) (by simp [Value.oneCell', spanC]) (by simp only [maxLen]; omega) (by omega) (Nat.le_trans HX1.out.size (by simp)) ?_; intro A8 c8 w8 ho8 hg8 ha8)
          have hx8 : Ext w w8 := (HX1.out.alloc _).grown hg8 (fun j hj => (HO1.out.lt j hj).1)
          go_roundw
          case rel => exact ⟨i + z, none, acc ++ [(s, i)], k + 1, A8, c8, HN.out, by rw [List.length_append, HK.out]; rfl, by first | rfl | go_num, rfl, rfl, by rw [List.flatMap_append]; simpa using ho8, hx8⟩
          case measure => simp [intOf]; omega
      | false =>
        rw [hbl] at HSTP
        cases st with
        | none =>
          have HN := hide (HSTP.out.2 rfl)
          simp only [stZ]
          go_wp2_with fail
          go_roundw
          case rel => exact ⟨i + z, some i, acc, k, A5, c5, HN.out, HK.out, by first | rfl | go_num, rfl, rfl, HO1.out, HX1.out⟩
          case measure => simp [intOf]; omega
        | some s =>
          have HN := hide (HSTP.out.2 rfl)
          simp only [stZ]
          have t1 : decide ((s : Int) < 0) = false := decide_eq_false (by omega)
          go_wp2_with fail
          go_roundw
          case rel => exact ⟨i + z, some s, acc, k, A5, c5, HN.out, HK.out, by first | rfl | go_num, rfl, rfl, HO1.out, HX1.out⟩
          case measure => simp [intOf]; omega
    · obtain rfl : i = n := by omega
      have HDN := hide (HST.out.done (by omega))
      rw [hbn] at HDN
      have hsi := HST.out.hst
      have HFIN := hide (HST.out.fin (by omega))
      go_upto_if 43 with fail
      go_cut [5] (FfEnd w b)
      case first =>
        cases st with
        | none =>
          have HE := hide (HDN.out.2 rfl)
          simp only [stZ]
          have t1 : decide ((-1 : Int) ≥ 0) = false := rfl
          go_wp2_with fail
          go_meet
          exact ⟨k, A5, c5, by rw [HE.out]; exact HK.out, by omega, HFIN.out, rfl, by rw [HE.out]; exact HO.out, HX.out⟩
        | some s =>
          have HE := hide (HDN.out.1 s rfl)
          simp only [stZ]
          have t1 : decide ((s : Int) ≥ 0) = true := decide_eq_true (by omega)
          have t2 : decide ((0 : Int) ≤ (s : Int)) = true := decide_eq_true (by omega)
          go_wp2_with (at_builtin; refine wpList_append_any _ rfl (.tmp 44) (.tmp 49) 110 rfl w.heap.size 114 i0 _ 2 16 Tryz.underlying110 hi0 hz0 hz1 hz2 rfl (by omega) (.slice A5 k c5) k (acc.flatMap spanC) rfl (HO.out.alloc _) _ _ 1 1 (spanC (s, i)) rfl (rows_blk (Blk.new wr 114 #[.int .i64 (s : Int), .int .i64 (i : Int)]) 1 2 rfl) (by simp [Value.oneCell', spanC]) (by simp only [maxLen]; omega) (by omega) (Nat.le_trans HX.out.size (by simp)) ?_; intro A8 c8 w8 ho8 hg8 ha8)
          have hx8 : Ext w w8 := (HX.out.alloc _).grown hg8 (fun j hj => (HO.out.lt j hj).1)
          go_meet
          exact ⟨k + 1, A8, c8, by rw [HE.out.1, List.length_append, HK.out]; rfl, by omega, HFIN.out, rfl, by rw [HE.out.1, List.flatMap_append]; simpa using ho8, hx8⟩
      case rest =>
        obtain ⟨k', A9, c9, hk9, hk11, hfin, rfl, ho9, hx9⟩ := hcut
        obtain ⟨cs0, hcs0, hmk3⟩ := make_bs k' hk11 wc
        have HO9 := hide (ho9.alloc (.cells cs0 22))
        have HX9 := hide (hx9.alloc (.cells cs0 22))
        have HB9 := hide (Blk.new wc 22 cs0)
        have HK9 := hide hk9
        have HF9 := hide hfin
        have hga : w.heap.size ≤ wc.heap.size := hx9.size
        generalize wc.alloc (.cells cs0 22) = W9 at *
        generalize wc.heap.size = ga at *
        clear ho9 hx9 hk9 hfin HDN hsi HO HX HST HK HFIN
        go_wp2_with fail
        go_loopw [56] (FfOut w b ga k' A9 c9) (fun v _ => k' - (intOf v).toNat)
        case atStart => exact ⟨0, cs0, Nat.zero_le _, rfl, HB9.out, hcs0, HO9.out, HX9.out⟩
        case round =>
          obtain ⟨j, cs, hj, rfl, hb, hcs, ho, hx⟩ := hrel
          by_cases hlt : j < k'
          · obtain ⟨g, rfl, hg, -, -, -⟩ := own_addr ho (by omega)
            have hjl : j < (ffAll b).length := by rw [HK9.out]; exact hlt
            have hx12 := HF9.out _ (List.getElem_mem hjl)
            have hcell : ∀ d u, d < 2 → (spanC (ffAll b)[j])[d]? = some u → wr.cell? ⟨g, j * 2 + d, none⟩ = some u := fun d u hd hu => by
              obtain ⟨ad, e, _, hc⟩ := (Reads.of_own ho).2 (by omega)
              injection e with e
              subst e
              have := hc (j * 2 + d) u (by rw [flat_get (k := 2) (f := spanC) (fun x => rfl) (ffAll b) j d hjl hd]; exact hu)
              rwa [add_lit, Nat.zero_add] at this
            have q0 : wr.cell? ⟨g, j * 2, none⟩ = some (.int .i64 ((ffAll b)[j].1 : Int)) := hcell 0 _ (by omega) rfl
            have q1 : wr.cell? ⟨g, j * 2 + 1, none⟩ = some (.int .i64 ((ffAll b)[j].2 : Int)) := hcell 1 _ (by omega) rfl
            clear hcell
            generalize (ffAll b)[j].1 = s1 at *
            generalize (ffAll b)[j].2 = s2 at *
            have e1 : (s1 : Int) ≤ (s2 : Int) := by omega
            have e2 : (s2 : Int) ≤ (c : Int) := by omega
            have e3 : (0 : Int) ≤ (s1 : Int) := by omega
            have e4 : (0 : Int) ≤ (s2 : Int) := by omega
            have hba := hb.alloc (.cells #[.int .i64 (s1 : Int), .int .i64 (s2 : Int)] 114)
            have f0 := hba.frozen j
            have c0 : (wr.alloc (.cells #[.int .i64 (s1 : Int), .int .i64 (s2 : Int)] 114)).cell? ⟨ga, j, none⟩ = some (cs[j]'(by omega)) := by rw [hba.cell j]; exact Array.getElem?_eq_getElem (by omega)
            have HB := hide hba
            have HO := hide (ho.alloc (.cells #[.int .i64 (s1 : Int), .int .i64 (s2 : Int)] 114))
            have HX := hide (hx.alloc (.cells #[.int .i64 (s1 : Int), .int .i64 (s2 : Int)] 114))
            generalize cs[j]'(by omega) = oldv at *
            clear hb ho hx hba
            go_wp2_with fail
            go_roundw
            case rel => exact ⟨j + 1, _, by omega, by first | rfl | go_num, HB.out.set_ j _, by rw [Array.size_setIfInBounds]; exact hcs, own_far HO.out (own_blk_ne HO.out HB.out (by decide)) _, HX.out.setCell hga _⟩
            case measure => simp [intOf]; omega
          · obtain rfl : j = k' := by omega
            have HX := hide hx
            clear hb ho hx
            go_wp2_with fail
            go_ret
            rw [HK9.out]
            exact ⟨_, _, rfl, HX.out⟩
end Go.Proofs.YtjmonkacijncbaaGreatDoor
