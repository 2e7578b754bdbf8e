/- The contracts of tools.lines and tools.text. -/
import Derived.Test.YtjmonkacijncbaaGreatDoorTlLib
import Derived.Lib.Buffer
import Derived.Lib.OthersKept
namespace Go.Proofs.YtjmonkacijncbaaGreatDoor
open Go.RowKit
set_option linter.unusedVariables false

/-- Strings that lie in memory, handed back. -/
def LsOut (w : World) (L : List Bs) (e : Ending) (w' : World) : Prop := ∃ (A : Option Addr) (m c : Nat), e = .returned (.slice A m c) ∧ m ≤ c ∧ L.length = m ∧ Reads w' w'.heap.size 1 A m (strsV L) ∧ Ext w w'
theorem trim_lib (s : Bs) (hs : s.length ≤ 1000000) (w : World) : Calls Tryz.prog 15 #[.string (str s), .string ⟨#[10]⟩] w fun e w' => e = .returned (.string (str (Lib.trimSuffix s [10]))) ∧ w = w' := by
  have := Tryz.strings_TrimSuffix (str s) (str [10]) w (by rw [str_size]; omega)
  rw [str_list, str_list] at this
  exact this.mono fun e w' ⟨h1, h2⟩ => ⟨h1, h2.symm⟩
theorem split_lib (s : Bs) (hs : s.length ≤ 1000000) (w : World) (hL : LibOk w) : Calls Tryz.prog 14 #[.string (str s), .string ⟨#[10]⟩] w (LsOut w (cutNl s)) := by
  obtain ⟨m, hm⟩ := hL.max
  have h := Tryz.strings_Split (str s) (str [10]) m w (by rw [str_size]; omega) hm (by decide)
  have hc := split_cut s
  have hlen := cut_len s
  refine h.mono ?_
  rintro e w' ⟨rfl, rfl⟩
  generalize Lib.splitB (str [10]) 0 (Lib.countB (str s) (str [10])) (str s) = ps at hc ⊢
  have hv : ps.map Value.string = strsV (cutNl s) := by
    rw [← hc]
    simp [strsV, str_data]
  rw [count_b, hv]
  have hb := (Blk.new w 9 (strsV (cutNl s)).toArray).reads
  have hz : (strsV (cutNl s)).toArray.size = s.count 10 + 1 := by simp [strsV_length, hlen]
  rw [hz] at hb
  exact ⟨_, _, _, rfl, Nat.le_refl _, hlen, hb, (Ext.refl w).alloc _⟩
set_option maxHeartbeats 2000000 in
set_option maxRecDepth 100000 in
theorem lines_any (b : Bs) (A : Option Addr) (n c B : Nat) (w : World) (hr : Reads w B 1 A n (bytesV b)) (hB : B ≤ w.heap.size) (hb : b.length = n) (hn : n ≤ 1000000) (hL : LibOk w) :
    Calls Tryz.prog 35 #[.slice A n c] w (LsOut w (linesP b)) := by
  by_cases h0 : n = 0
  · subst h0
    have hbn : b = [] := List.eq_nil_of_length_eq_zero hb
    subst hbn
    clear hr hL hb
    go_enter Tryz.func35, Tryz.ntmps35
    go_wp2_with fail
    go_ret
    exact ⟨none, 0, 0, rfl, Nat.le_refl _, rfl, Reads.none_, Ext.refl _⟩
  · have hbn : b ≠ [] := fun e => h0 (by rw [← hb, e]; rfl)
    have HP := hide (show linesP b = cutNl (Lib.trimSuffix b [10]) from if_neg hbn)
    have hcv := conv_str' (P := Tryz.prog) Tryz.underlying22 Tryz.underlying5 Tryz.underlying9 hr c
    have HT := hide (trim_lib b (by omega) w)
    have htl : (Lib.trimSuffix b [10]).length ≤ 1000000 := by
      unfold Lib.trimSuffix
      split
      · rw [List.length_take]; omega
      · omega
    have HS := hide (split_lib (Lib.trimSuffix b [10]) htl w hL)
    have t1 : ((n : Int) == 0) = false := beq_eq_false_iff_ne.2 (by omega)
    clear hr hL hb hbn htl h0
    go_enter Tryz.func35, Tryz.ntmps35
    go_wp2_with fail
    refine HT.out.mono ?_
    rintro e w1 ⟨rfl, rfl⟩
    go_wp2_with fail
    refine HS.out.mono ?_
    rintro e w2 ⟨A', m, c', rfl, h1, h2, h3, h4⟩
    have H2 := hide h2
    have H3 := hide h3
    have H4 := hide h4
    clear h2 h3 h4
    go_wp2_with fail
    go_ret
    rw [HP.out]
    exact ⟨A', m, c', rfl, h1, H2.out, H3.out, H4.out⟩
/-- The buffer that text writes. -/
def BufAt (w0 : World) (l : Bs) (w : World) : Prop := Lib.IsBuffer 118 5 w0.heap.size w0.heap.size (bytesV l) w
theorem buf_write (w0 : World) (l x : Bs) (w : World) (h : BufAt w0 l w) (hx : Ext w0 w) (hlen : l.length + x.length ≤ 100000000) :
    Calls Tryz.prog 74 #[.pointer (some ⟨w0.heap.size, 0, none⟩), .string (str x)] w fun e w' => (∃ v, e = .returned v) ∧ BufAt w0 (l ++ x) w' ∧ Ext w0 w' := by
  have := Tryz.Buffer_WriteString_k w0.heap.size w0.heap.size (bytesV l) (str x) w h hx.size (bytesV_one l) (by rw [str_size, bytesV_length]; omega)
  refine this.mono fun e w' ⟨h1, h2, h3, _⟩ => ⟨⟨_, h1⟩, ?_, Ext.trans' hx h3⟩
  have e1 : Lib.byteCells (str x).data.toList = bytesV x := by rw [str_list]; rfl
  rw [e1, ← bytesV_append] at h2
  exact h2
def TxRel (w : World) (L : List Bs) (n : Nat) (v : Value) (wr : World) : Prop := ∃ k : Nat, k ≤ n ∧ v = .int .i64 (k : Int) ∧ BufAt w (textP (L.take k)) wr ∧ Ext w wr
def BytesOut (w : World) (b : Bs) (e : Ending) (w' : World) : Prop := ∃ (A : Option Addr) (m c : Nat), e = .returned (.slice A m c) ∧ b.length = m ∧ w'.ownsRow w.heap.size 5 1 (.slice A m c) m (bytesV b) ∧ Ext w w'
set_option maxHeartbeats 4000000 in
set_option maxRecDepth 100000 in
theorem text_any (L : List Bs) (A : Option Addr) (n c B : Nat) (w : World) (hr : Reads w B 1 A n (strsV L)) (hB : B ≤ w.heap.size) (hn : L.length = n) (hn2 : n ≤ 1000000) (hlen : (textP L).length ≤ 2000000) :
    Calls Tryz.prog 43 #[.slice A n c] w (BytesOut w (textP L)) := by
  have HR := hide hr
  have HN := hide hn
  have HLEN := hide (show ∀ k, (textP (L.take k)).length ≤ 2000000 from fun k => by
    have h1 := text_app (L.take k) (L.drop k)
    rw [List.take_append_drop] at h1
    have h2 := congrArg List.length h1
    rw [List.length_append] at h2
    omega)
  clear hr hn hlen
  go_enter Tryz.func43, Tryz.ntmps43
  have HB0 := hide (show BufAt w (textP (L.take 0)) (w.alloc (.cells #[.slice none 0 0, .int .i64 0, .int .i8 0] 118)) from Lib.fresh_isBuffer _ _ w)
  have HX0 := hide ((Ext.refl w).alloc (.cells #[.slice none 0 0, .int .i64 0, .int .i8 0] 118))
  go_wp2_with fail
  go_loopw [8] (TxRel w L n) (fun v _ => n - (intOf v).toNat)
  case atStart => exact ⟨0, Nat.zero_le _, rfl, HB0.out, HX0.out⟩
  case round =>
    obtain ⟨k, hk, rfl, hb, hx⟩ := hrel
    have HBF := hide hb
    have HX := hide hx
    clear hb hx
    by_cases hlt : k < n
    · obtain ⟨b, off, rfl, hb, hc⟩ := HR.out.at1 (by omega)
      have hkl : k < L.length := by rw [HN.out]; exact hlt
      have q0 : wr.cell? ⟨b, off + k, none⟩ = some (.string (str L[k])) := by
        have := HX.out.cell (hc k hlt)
        simpa [strsV, hkl] using this
      have HT := hide (List.take_succ_eq_append_getElem hkl)
      have HL1 := hide (HLEN.out (k + 1))
      have HL0 := hide (HLEN.out k)
      clear hc
      generalize L[k] = x at *
      have HTX := hide (show textP (L.take (k + 1)) = textP (L.take k) ++ (x ++ [10]) from by rw [HT.out, text_app]; simp [textP])
      have HWR := hide (buf_write w (textP (L.take k)) (x ++ [10]) wr HBF.out HX.out (by have h1 := HL1.out; rw [HTX.out, List.length_append] at h1; omega))
      have hs : str x ++ ⟨#[10]⟩ = str (x ++ [10]) := str_append x [10]
      have hz : (str x).size ≤ 2000000 := by
        rw [str_size]
        have h1 := HL1.out
        rw [HTX.out, List.length_append, List.length_append] at h1
        omega
      generalize str (x ++ [10]) = S1 at *
      generalize str x = S0 at *
      go_wp2_with fail
      refine HWR.out.mono ?_
      rintro e w1 ⟨⟨v, rfl⟩, hb1, hx1⟩
      have HB1 := hide hb1
      have HX1 := hide hx1
      clear hb1 hx1
      go_wp2_with fail
      go_roundw
      case rel => exact ⟨k + 1, by omega, by go_num, by rw [HTX.out]; exact HB1.out, HX1.out⟩
      case measure => simp [intOf]; omega
    · have hkn : k = n := by omega
      subst hkn
      rw [show L.take k = L from List.take_of_length_le (by rw [HN.out]; exact Nat.le_refl _)] at HBF
      have HBY := hide (Tryz.Buffer_Bytes w.heap.size w.heap.size (bytesV (textP L)) wr HBF.out)
      go_wp2_with fail
      refine HBY.out.mono ?_
      rintro e w1 ⟨v, rfl, ho, q, rfl⟩
      obtain ⟨A1, c1, rfl, -, -, -⟩ := own_form ho
      rw [bytesV_length] at ho ⊢
      have HO := hide ho
      have HX1 := hide (HX.out.drewN q)
      clear ho
      obtain ⟨m, hm⟩ : ∃ m, (textP L).length = m := ⟨_, rfl⟩
      rw [hm] at HO ⊢
      have HM := hide hm
      clear hm
      go_wp2_with fail
      go_ret
      exact ⟨A1, m, c1, rfl, HM.out, HO.out, HX1.out⟩
end Go.Proofs.YtjmonkacijncbaaGreatDoor
