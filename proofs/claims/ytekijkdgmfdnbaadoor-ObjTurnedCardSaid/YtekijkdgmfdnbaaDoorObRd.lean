/- The contracts of obj.reader: take, half, text. -/
import Derived.Test.YtekijkdgmfdnbaaDoorObEnc
import Derived.Lib.EndianBits
namespace Go.Proofs.YtekijkdgmfdnbaaDoor
open Go.RowKit
set_option linter.unusedVariables false

abbrev rdT : TypeId := 61
/-- The reader at gr: what is left, or that there was too little. -/
def RdS (w0 : World) (gr : Nat) (s : Option Bs) (w : World) : Prop :=
  ∃ (A : Option Addr) (n c : Nat) (r : Bs), Blk w gr rdT #[.slice A n c, .bool s.isNone] ∧ Reads w w0.heap.size 1 A n (bytesV r) ∧ n ≤ c ∧ c ≤ maxLen ∧ (∀ x, s = some x → x = r)
section
variable {w0 w w' : World} {gr : Nat} {s : Option Bs}
theorem RdS.to (h : RdS w0 gr s w) (hx : Ext w w') (hB : w0.heap.size ≤ w.heap.size) : RdS w0 gr s w' := by
  obtain ⟨A, n, c, r, h1, h2, h3⟩ := h
  exact ⟨A, n, c, r, h1.ext hx, hx.reads h2 hB, h3⟩
theorem RdS.kept {row : Option Nat} (h : RdS w0 gr s w) (hg : w.grownBy w' row) (hB : w0.heap.size ≤ w.heap.size) (h1 : some gr ≠ row) (h2 : ∀ k, row = some k → w0.heap.size ≤ k) : RdS w0 gr s w' := by
  obtain ⟨A, n, c, r, h3, h4, h5⟩ := h
  exact ⟨A, n, c, r, h3.grown hg h1, h4.grown hg hB h2, h5⟩
end
def hv (s : Option Bs) : Nat := match s.bind halfR with | some x => x.1 | none => 0
def hs_ (s : Option Bs) : Option Bs := (s.bind halfR).map Prod.snd
def tv (s : Option Bs) : Bs := match s.bind textR with | some x => x.1 | none => []
def ts_ (s : Option Bs) : Option Bs := (s.bind textR).map Prod.snd
def kv (k : Nat) (s : Option Bs) : Bs := match s.bind (takeR k) with | some x => x.1 | none => []
def ks_ (k : Nat) (s : Option Bs) : Option Bs := (s.bind (takeR k)).map Prod.snd
theorem cut_hi' {P : Program} {t e : TypeId} {i : TypeInfo} (ht : P.underlying t = some (.slice e)) (hi : P.info? e = some i) (hs : i.size = 1) (A : Option Addr) (n c : Nat) (hi' : Int) (j : Nat) (hhi : hi' = j) (hj : j ≤ c) (kh : IntKind) (W : World) :
    (Instr.slice t (.slice A n c) none (some (.int kh hi')) none).run P W = .ok (.slice A j c) W := by
  have he : P.elem t = e := by simp [Program.elem, ht]
  have ht' : P.underlying t = some (.slice (P.elem t)) := by rw [he]; exact ht
  subst hhi
  rw [run_slice_h W t A n c ht' kh (j : Int) (by omega) (by omega), he]
  simp [sizeOf, typeInfo, hi, hs, sliced, Result.andThen, Addr.add]
theorem grown_one (w : World) (p : Addr) (v : Value) : w.grownBy (w.setCell p v) (some p.block) := ⟨rfl, rfl, rfl, by simp, fun k _ hk => Below.heap_setCell w p v k (fun e => hk (by rw [e]))⟩
theorem grown_two (w : World) (g i j : Nat) (v u : Value) : w.grownBy ((w.setCell ⟨g, i, none⟩ v).setCell ⟨g, j, none⟩ u) (some g) :=
  ⟨rfl, rfl, rfl, by simp, fun k _ hk => (Below.heap_setCell (w.setCell ⟨g, i, none⟩ v) ⟨g, j, none⟩ u k (fun e => hk (by rw [e]))).trans (Below.heap_setCell w ⟨g, i, none⟩ v k (fun e => hk (by rw [e])))⟩
/-- What take hands out. -/
def TakePost (w0 : World) (gr k : Nat) (s : Option Bs) (w : World) (e : Ending) (w' : World) : Prop :=
  w.grownBy w' (some gr) ∧ RdS w0 gr (ks_ k s) w' ∧ ∃ A m c, e = .returned (.slice A m c) ∧ Reads w' w0.heap.size 1 A m (bytesV (kv k s)) ∧ m ≤ c ∧ c ≤ maxLen ∧ m = (kv k s).length ∧ (A = none → m = 0) ∧ (ks_ k s ≠ none → m = k)
set_option maxHeartbeats 4000000 in
theorem take_any (k : Nat) (hk : k ≤ 100000) (gr : Nat) (s : Option Bs) (w0 w : World) (h : RdS w0 gr s w) (hlo : w0.heap.size ≤ gr) :
    Calls Tryd.prog 23 #[.pointer (some ⟨gr, 0, none⟩), .int .i64 (k : Int)] w (TakePost w0 gr k s w) := by
  obtain ⟨A, n, c, r, hb, hr, hnc, hcm, hs⟩ := h
  have ln : r.length = n := by have := hr.1; rw [bytesV_length] at this; omega
  have HB := hide hb
  have HR := hide hr
  have HLO := hide hlo
  have c0 : w.cell? ⟨gr, 0, none⟩ = some (.slice A n c) := hb.cell 0
  have c1 : w.cell? ⟨gr, 1, none⟩ = some (.bool s.isNone) := hb.cell 1
  have f0 := hb.frozen 0
  have f1 := hb.frozen 1
  unfold maxLen at hcm
  clear hb hr
  cases s with
  | none =>
    have HK := hide (show kv k none = [] ∧ ks_ k none = none from ⟨rfl, rfl⟩)
    simp only [Option.isNone_none] at c1 HB
    clear hs
    go_enter Tryd.func23, Tryd.ntmps23
    go_wp2_with fail
    go_ret
    exact ⟨grown_one w ⟨gr, 1, none⟩ _, ⟨A, n, c, r, HB.out.set_ 1 (.bool true), HR.out.setCell (p := ⟨gr, 1, none⟩) HLO.out _, hnc, hcm, fun _ e => by cases e⟩, none, 0, 0, rfl, Reads.none_, Nat.le_refl _, Nat.zero_le _, rfl, fun _ => rfl, fun e => absurd rfl e⟩
  | some x =>
    obtain rfl := hs x rfl
    simp only [Option.isNone_some] at c1 HB
    clear hs
    by_cases hsh : n < k
    · have HK := hide (show kv k (some x) = [] ∧ ks_ k (some x) = none by simp [kv, ks_, takeR, ln, hsh])
      go_enter Tryd.func23, Tryd.ntmps23
      go_wp2_with fail
      go_ret
      refine ⟨grown_one w ⟨gr, 1, none⟩ _, ?_, none, 0, 0, rfl, ?_, Nat.le_refl _, Nat.zero_le _, by rw [HK.out.1]; rfl, fun _ => rfl, fun e => absurd HK.out.2 e⟩
      · rw [HK.out.2]
        exact ⟨A, n, c, x, HB.out.set_ 1 (.bool true), HR.out.setCell (p := ⟨gr, 1, none⟩) HLO.out _, hnc, hcm, fun _ e => by cases e⟩
      · rw [HK.out.1]
        exact Reads.none_
    · have HK := hide (show kv k (some x) = x.take k ∧ ks_ k (some x) = some (x.drop k) by simp [kv, ks_, takeR, ln, hsh])
      obtain ⟨i0, hi0, hz0, hz1, hz2⟩ := info_parts u8_info'
      have hs1 := fun W : World => cut_hi' Tryd.underlying23 hi0 hz1 A n c (k : Int) k rfl (by omega) .i64 W
      obtain ⟨A', hs2, hr2, hn2⟩ := cut_from (P := Tryd.prog) Tryd.underlying23 hi0 hz1 HR.out k c (by omega) hnc .i64
      have HR2 := hide hr2
      rw [bytesV_drop] at HR2
      clear hr2
      go_enter Tryd.func23, Tryd.ntmps23
      go_wp2_with fail
      go_ret
      have HT := HR.out.take (k := k) (by omega)
      rw [bytesV_take] at HT
      refine ⟨grown_two w gr 1 0 _ _, ?_, A, k, c, rfl, ?_, by omega, by unfold maxLen; omega, by rw [HK.out.1, List.length_take]; omega, fun e => ?_, fun _ => rfl⟩
      · rw [HK.out.2]
        exact ⟨A', n - k, c - k, x.drop k, (HB.out.set_ 1 (.bool false)).set_ 0 (.slice A' (n - k) (c - k)), (HR2.out.setCell (p := ⟨gr, 1, none⟩) HLO.out _).setCell (p := ⟨gr, 0, none⟩) HLO.out _, by omega, by unfold maxLen; omega, fun _ e => by injection e with e; exact e.symm⟩
      · rw [HK.out.1]
        exact (HT.setCell (p := ⟨gr, 1, none⟩) HLO.out _).setCell (p := ⟨gr, 0, none⟩) HLO.out _
      · rcases Nat.eq_zero_or_pos n with h | h
        · omega
        · obtain ⟨b, o, h1, -⟩ := HR.out.at1 h
          rw [h1] at e
          cases e
theorem half_take (s : Option Bs) : hs_ s = ks_ 2 s ∧ hv s = ((kv 2 s).getD 0 0).toNat + 256 * ((kv 2 s).getD 1 0).toNat := by
  cases s with
  | none => exact ⟨rfl, rfl⟩
  | some r =>
    match r with
    | [] => exact ⟨rfl, rfl⟩
    | [a] => exact ⟨rfl, rfl⟩
    | a :: b :: r =>
      have h1 : takeR 2 (a :: b :: r) = some ([a, b], r) := by simp [takeR]
      constructor
      · simp [hs_, ks_, h1, halfR]
      · simp [hv, kv, h1, halfR]
theorem hv_lt (s : Option Bs) : hv s < 65536 := by
  have h1 := (half_take s).2
  have h2 := ((kv 2 s).getD 0 0).toNat_lt
  have h3 := ((kv 2 s).getD 1 0).toNat_lt
  omega
theorem ks_none {k : Nat} {s : Option Bs} (h : ks_ k s = none) : kv k s = [] := by
  unfold ks_ at h
  unfold kv
  cases hx : s.bind (takeR k) with
  | none => rfl
  | some x => rw [hx] at h; cases h
theorem join8 (a b : Nat) (ha : a < 256) (hb : b < 256) : bits .or .i64 (a : Int) ((b : Int) * 256) = ((a + 256 * b : Nat) : Int) := by
  have := bits_join_low .i64 63 (by decide) (fun n h₀ h₁ => by rw [IntKind.wrap_i64]; omega) 8 (a : Int) ((b : Int) * 256) (by omega) (by omega) (by omega) (by omega) (by omega) (by omega)
  rw [this]
  omega
set_option maxHeartbeats 4000000 in
theorem half_rd (gr : Nat) (s : Option Bs) (w0 w : World) (h : RdS w0 gr s w) (hlo : w0.heap.size ≤ gr) :
    Calls Tryd.prog 22 #[.pointer (some ⟨gr, 0, none⟩)] w fun e w' => e = .returned (.int .i64 (hv s : Int)) ∧ w.grownBy w' (some gr) ∧ RdS w0 gr (hs_ s) w' := by
  have HT := hide (take_any 2 (by omega) gr s w0 w h hlo)
  obtain ⟨e1, e2⟩ := half_take s
  rw [e1]
  have HV := hide e2
  clear e1 e2 h
  go_enter Tryd.func22, Tryd.ntmps22
  go_wp2_with fail
  refine HT.out.mono ?_
  rintro e w1 ⟨hg, hs, A, m, c, rfl, hr, hmc, hcm, hml, hA, hm2⟩
  have HG := hide hg
  have HS := hide hs
  by_cases hn : ks_ 2 s = none
  · have hk := ks_none hn
    rw [hk] at hml HV
    obtain rfl : m = 0 := hml
    clear hg hs hr hm2
    go_wp2_with fail
    go_ret
    exact ⟨by rw [HV.out]; rfl, HG.out, HS.out⟩
  · obtain rfl := hm2 hn
    have hb1 := ((kv 2 s).getD 0 0).toNat_lt
    have hb2 := ((kv 2 s).getD 1 0).toNat_lt
    obtain ⟨b, o, rfl, -⟩ := hr.at1 (by omega)
    have q0 := cells_of hr 0 (by omega)
    have q1 := cells_of hr 1 (by omega)
    rw [Nat.add_zero] at q0
    generalize ((kv 2 s).getD 0 0).toNat = x0 at *
    generalize ((kv 2 s).getD 1 0).toNat = x1 at *
    clear hg hs hr hm2 hml hA
    go_upto_region 4 with fail
    go_quiet (fail)
    go_wp2_with fail
    go_ret
    rw [HV.out]
    exact ⟨ret_int (join8 x0 x1 hb1 hb2), ⟨HG.out.os, HG.out.tape, HG.out.output, HG.out.size, HG.out.block⟩, HS.out⟩
theorem text_take (s : Option Bs) : (ks_ 1 s = none → tv s = [] ∧ ts_ s = none) ∧ (ks_ 1 s ≠ none → tv s = kv ((kv 1 s).getD 0 0).toNat (ks_ 1 s) ∧ ts_ s = ks_ ((kv 1 s).getD 0 0).toNat (ks_ 1 s)) := by
  cases s with
  | none => exact ⟨fun _ => ⟨rfl, rfl⟩, fun h => absurd rfl h⟩
  | some r =>
    cases r with
    | nil => exact ⟨fun _ => ⟨rfl, rfl⟩, fun h => absurd rfl h⟩
    | cons a r =>
      have h1 : takeR 1 (a :: r) = some ([a], r) := by simp [takeR]
      refine ⟨fun h => ?_, fun _ => ?_⟩
      · simp [ks_, h1] at h
      · simp [tv, ts_, kv, ks_, h1, textR]
set_option maxHeartbeats 4000000 in
theorem text_rd (gr : Nat) (s : Option Bs) (w0 w : World) (h : RdS w0 gr s w) (hlo : w0.heap.size ≤ gr) (hsz : w0.heap.size ≤ w.heap.size) :
    Calls Tryd.prog 25 #[.pointer (some ⟨gr, 0, none⟩)] w fun e w' => e = .returned (.string (str (tv s))) ∧ w.grownBy w' (some gr) ∧ RdS w0 gr (ts_ s) w' := by
  have HT := hide (take_any 1 (by omega) gr s w0 w h hlo)
  obtain ⟨e1, e2⟩ := text_take s
  have HE1 := hide e1
  have HE2 := hide e2
  have HLO := hide hlo
  clear e1 e2 h
  go_enter Tryd.func25, Tryd.ntmps25
  go_wp2_with fail
  refine HT.out.mono ?_
  rintro e w1 ⟨hg, hs, A, m, c, rfl, hr, hmc, hcm, hml, hA, hm2⟩
  have HG := hide hg
  have HS := hide hs
  by_cases hn : ks_ 1 s = none
  · have hk := ks_none hn
    obtain ⟨h1, h2⟩ := HE1.out hn
    rw [hk] at hml
    obtain rfl : m = 0 := hml
    clear hg hs hr hm2
    go_wp2_with fail
    go_ret
    rw [h1, h2]
    rw [hn] at HS
    exact ⟨rfl, HG.out, HS.out⟩
  · obtain rfl := hm2 hn
    have HF := hide (HE2.out hn)
    have hb1 := ((kv 1 s).getD 0 0).toNat_lt
    obtain ⟨b, o, rfl, -⟩ := hr.at1 (by omega)
    have q0 := cells_of hr 0 (by omega)
    rw [Nat.add_zero] at q0
    generalize ((kv 1 s).getD 0 0).toNat = x0 at *
    generalize ks_ 1 s = s1 at *
    have HT2 := hide (take_any x0 (by omega) gr s1 w0 w1 HS.out HLO.out)
    clear hg hs hr hm2 hml hA hn HE1 HE2
    go_wp2_with fail
    refine HT2.out.mono ?_
    rintro e w2 ⟨hg, hs, A2, m2, c2, rfl, hr, hmc, hcm, hml, hA, hm2⟩
    have HG2 := hide hg
    have HS2 := hide hs
    have hcs := conv_str' (P := Tryd.prog) (src := 23) (dst := 9) Tryd.underlying23 Tryd.underlying5 Tryd.underlying9 hr c2
    clear hg hs hr hm2 hml hA HT HT2 hsz
    go_wp2_with fail
    go_ret
    rw [HF.out.1, HF.out.2]
    exact ⟨rfl, ⟨HG2.out.os.trans HG.out.os, HG2.out.tape.trans HG.out.tape, HG2.out.output.trans HG.out.output, Nat.le_trans HG.out.size HG2.out.size, fun k hk hne => (HG2.out.block k (Nat.lt_of_lt_of_le hk HG.out.size) hne).trans (HG.out.block k hk hne)⟩, HS2.out⟩
end Go.Proofs.YtekijkdgmfdnbaaDoor
