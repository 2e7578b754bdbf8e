/- The contract of tools.picked at head, tail, tac and uniq. -/
import Derived.Test.YtjmonkacijncbaaGreatDoorTlOwn
import Derived.Test.YtjmonkacijncbaaGreatDoorTlCheck
namespace Go.Proofs.YtjmonkacijncbaaGreatDoor
open Go.RowKit
set_option linter.unusedVariables false

def PickAt (nm : Bs) (args : List Bs) (f : List Bs → List Bs) : Prop := ∀ (L : List Bs) (w : World) (A : Option Addr) (n c B : Nat) (A' : Option Addr) (m c' B' : Nat), LibOk w → Reads w B 1 A n (strsV args) → B ≤ w.heap.size → Reads w B' 1 A' m (strsV L) → B' ≤ w.heap.size → m ≤ c' → m ≤ 100000 → (∀ s ∈ L, s.length ≤ 100000) →
  Calls Tryz.prog 45 #[.string (str nm), .slice A n c, .slice A' m c'] w (LsOut w (f L))
theorem lsout_own {w0 w : World} {base m c : Nat} {A : Option Addr} {L : List Bs} (h : w.ownsRow base 9 1 (.slice A m c) m (strsV L)) (hx : Ext w0 w) (hl : L.length = m) : LsOut w0 L (.returned (.slice A m c)) w :=
  ⟨A, m, c, rfl, (own_le h).1, hl, Reads.of_own h, hx⟩
theorem some_of {w : World} {B m : Nat} {A : Option Addr} {xs : List Value} (h : Reads w B 1 A m xs) : A = none → m = 0 := by
  intro e
  rcases Nat.eq_zero_or_pos m with h0 | h0
  · exact h0
  · obtain ⟨ad, e', _⟩ := h.2 h0
    rw [e] at e'
    cases e'
theorem reads_take {w : World} {B m : Nat} {A : Option Addr} {L : List Bs} (h : Reads w B 1 A m (strsV L)) (k : Nat) (hk : k ≤ m) : Reads w B 1 A k (strsV (L.take k)) := by
  have := h.take hk
  simpa [strsV] using this
set_option maxHeartbeats 4000000 in
set_option maxRecDepth 100000 in
theorem pick_head (k : Nat) (hk : k ≤ 999) : PickAt [104, 101, 97, 100] [Lib.itoa (k : Int)] (fun L => L.take k) := by
  intro L w A n c B A' m c' B' hL hra hB hrl hB' hmc hm _
  have hml : L.length = m := (args_len hrl).symm
  have HNU := hide (fun W hW => number_nat k hk W hW)
  have HLL := hide hL
  have HRL := hide hrl
  have HML := hide hml
  obtain rfl := args_len hra
  obtain ⟨b, off, rfl, hb, hcell⟩ := arg_cell hra (by simp)
  have q0 := hcell 0 _ rfl
  clear hL hrl hml hcell hra
  show Calls _ _ #[.string ⟨#[104, 101, 97, 100]⟩, .slice (some ⟨b, off, none⟩) 1 c, .slice A' m c'] w _
  go_enter Tryz.func45, Tryz.ntmps45
  go_upto_region 3 with fail
  have hbx : Blk (w.alloc (.cells #[.slice (some ⟨b, off, none⟩) 1 c] 30)) w.heap.size 30 #[.slice (some ⟨b, off, none⟩) 1 c] := Blk.new _ _ _
  have HX1 := hide ((Ext.refl w).alloc (.cells #[.slice (some ⟨b, off, none⟩) 1 c] 30))
  generalize w.alloc (.cells #[.slice (some ⟨b, off, none⟩) 1 c] 30) = W1 at hbx HX1 ⊢
  have q1 : W1.cell? ⟨w.heap.size, 0, none⟩ = some (.slice (some ⟨b, off, none⟩) 1 c) := hbx.cell 0
  have q2 : W1.cell? ⟨b, off, none⟩ = some (.string (str (Lib.itoa (k : Int)))) := HX1.out.cell q0
  clear q0 hbx
  go_wp2_with fail
  refine (HNU.out W1 (HLL.out.ext HX1.out)).mono ?_
  rintro e w2 ⟨rfl, hx2⟩
  have HX2 := hide (HX1.out.trans hx2)
  clear hx2 q1 q2
  by_cases h : m < k
  · have HT := hide (show L.take k = L from List.take_of_length_le (by rw [HML.out]; omega))
    have hmin : min (k : Int) (m : Int) = (m : Int) := by omega
    go_wp2_with fail
    go_ret
    show LsOut w (L.take k) _ _
    rw [HT.out]
    exact ⟨A', m, c', rfl, hmc, HML.out, (HX2.out.reads HRL.out hB').more (Nat.le_trans hB' HX2.out.size), HX2.out⟩
  · have hkm : k ≤ m := by omega
    have hkc : k ≤ c' := by omega
    have hmin : min (k : Int) (m : Int) = (k : Int) := by omega
    go_wp2_with fail
    go_ret
    exact ⟨A', k, c', rfl, by omega, by rw [List.length_take, HML.out]; omega, (reads_take (HX2.out.reads HRL.out hB') k hkm).more (Nat.le_trans hB' HX2.out.size), HX2.out⟩
set_option maxHeartbeats 4000000 in
set_option maxRecDepth 100000 in
theorem pick_tail (k : Nat) (hk : k ≤ 999) : PickAt [116, 97, 105, 108] [Lib.itoa (k : Int)] (tailL k) := by
  obtain ⟨i0, hi0, hz0, hz1, hz2⟩ := info_parts strg_info
  intro L w A n c B A' m c' B' hL hra hB hrl hB' hmc hm _
  have hml : L.length = m := (args_len hrl).symm
  have HNU := hide (fun W hW => number_nat k hk W hW)
  have HLL := hide hL
  have HRL := hide hrl
  have HML := hide hml
  obtain rfl := args_len hra
  obtain ⟨b, off, rfl, hb, hcell⟩ := arg_cell hra (by simp)
  have q0 := hcell 0 _ rfl
  clear hL hrl hml hcell hra
  show Calls _ _ #[.string ⟨#[116, 97, 105, 108]⟩, .slice (some ⟨b, off, none⟩) 1 c, .slice A' m c'] w _
  go_enter Tryz.func45, Tryz.ntmps45
  go_upto_region 6 with fail
  have hbx : Blk (w.alloc (.cells #[.slice (some ⟨b, off, none⟩) 1 c] 30)) w.heap.size 30 #[.slice (some ⟨b, off, none⟩) 1 c] := Blk.new _ _ _
  have HX1 := hide ((Ext.refl w).alloc (.cells #[.slice (some ⟨b, off, none⟩) 1 c] 30))
  generalize w.alloc (.cells #[.slice (some ⟨b, off, none⟩) 1 c] 30) = W1 at hbx HX1 ⊢
  have q1 : W1.cell? ⟨w.heap.size, 0, none⟩ = some (.slice (some ⟨b, off, none⟩) 1 c) := hbx.cell 0
  have q2 : W1.cell? ⟨b, off, none⟩ = some (.string (str (Lib.itoa (k : Int)))) := HX1.out.cell q0
  clear q0 hbx
  go_wp2_with fail
  refine (HNU.out W1 (HLL.out.ext HX1.out)).mono ?_
  rintro e w2 ⟨rfl, hx2⟩
  have HX2 := hide (HX1.out.trans hx2)
  clear hx2 q1 q2
  by_cases h : m < k
  · have HT := hide (show L.drop (L.length - min k L.length) = L from by rw [HML.out, Nat.min_eq_right (by omega), Nat.sub_self, List.drop_zero])
    have hmin : min (k : Int) (m : Int) = (m : Int) := by omega
    go_wp2_with fail
    go_ret
    show LsOut w (L.drop (L.length - min k L.length)) _ _
    rw [HT.out]
    exact ⟨A', m, c', rfl, hmc, HML.out, (HX2.out.reads HRL.out hB').more (Nat.le_trans hB' HX2.out.size), HX2.out⟩
  · obtain ⟨q, hq⟩ : ∃ q, m - k = q := ⟨_, rfl⟩
    obtain ⟨r, hr⟩ : ∃ r, m - q = r := ⟨_, rfl⟩
    obtain ⟨s, hs⟩ : ∃ s, c' - q = s := ⟨_, rfl⟩
    have HRK := hide (show r = k by omega)
    have HRS := hide (show r ≤ s by omega)
    have HT := hide (show L.length - min k L.length = q from by rw [HML.out, Nat.min_eq_left (by omega), hq])
    have hqi : (m : Int) - (k : Int) = (q : Int) := by omega
    have HDL := hide (show (L.drop q).length = r from by rw [List.length_drop, HML.out, hr])
    obtain ⟨A2, hrun, hr2, -⟩ := cut_from Tryz.underlying30 (i := i0) hi0 hz1 (HX2.out.reads HRL.out hB') q c' (by omega) hmc .i64
    rw [hr] at hr2
    rw [hr, hs, ← hqi] at hrun
    have HR2 := hide hr2
    have hkm : k ≤ m := by omega
    have hmin : min (k : Int) (m : Int) = (k : Int) := by omega
    clear hr2 hqi hq hr hs
    go_wp2_with fail
    go_ret
    show LsOut w (L.drop (L.length - min k L.length)) _ _
    rw [HT.out]
    exact ⟨A2, r, s, rfl, HRS.out, HDL.out, (by simpa [strsV] using HR2.out : Reads w2 B' 1 A2 r (strsV (L.drop q))).more (Nat.le_trans hB' HX2.out.size), HX2.out⟩
set_option maxHeartbeats 4000000 in
set_option maxRecDepth 100000 in
theorem pick_tac : PickAt [116, 97, 99] [] List.reverse := by
  intro L w A n c B A' m c' B' hL hra hB hrl hB' hmc hm _
  have hml : L.length = m := (args_len hrl).symm
  have HML := hide hml
  have HCL := hide (fun W (hx : Ext w W) => sclone_any A' m c' B' (strsV L) W (hx.reads hrl hB') (strsV_one L) (Nat.le_trans hB' hx.size) (by omega) (some_of hrl))
  obtain rfl := args_len hra
  clear hL hrl hml hra
  show Calls _ _ #[.string ⟨#[116, 97, 99]⟩, .slice A 0 c, .slice A' m c'] w _
  have HX1 := hide ((Ext.refl w).alloc (.cells #[.slice A 0 c] 30))
  go_enter Tryz.func45, Tryz.ntmps45
  go_wp2_with fail
  refine (HCL.out _ HX1.out).mono ?_
  rintro e w2 ⟨A2, c2, rfl, ho, hx2⟩
  have HO := hide ho
  have HX2 := hide (HX1.out.trans hx2)
  have HB := hide HX1.out.size
  clear ho hx2
  go_wp2_with fail
  refine (sreverse_own A2 m c2 _ L w w2 HO.out HX2.out HB.out (by omega)).mono ?_
  rintro e w3 ⟨rfl, ho3, hx3⟩
  have HO3 := hide ho3
  have HX3 := hide hx3
  clear ho3 hx3
  go_wp2_with fail
  go_ret
  exact lsout_own HO3.out HX3.out (by rw [List.length_reverse]; exact HML.out)
set_option maxHeartbeats 4000000 in
set_option maxRecDepth 100000 in
theorem pick_uniq : PickAt [117, 110, 105, 113] [] Lib.compact := by
  intro L w A n c B A' m c' B' hL hra hB hrl hB' hmc hm _
  have hml : L.length = m := (args_len hrl).symm
  have HML := hide hml
  have HCL := hide (fun W (hx : Ext w W) => sclone_any A' m c' B' (strsV L) W (hx.reads hrl hB') (strsV_one L) (Nat.le_trans hB' hx.size) (by omega) (some_of hrl))
  obtain rfl := args_len hra
  clear hL hrl hml hra
  show Calls _ _ #[.string ⟨#[117, 110, 105, 113]⟩, .slice A 0 c, .slice A' m c'] w _
  have HX1 := hide ((Ext.refl w).alloc (.cells #[.slice A 0 c] 30))
  go_enter Tryz.func45, Tryz.ntmps45
  go_wp2_with fail
  refine (HCL.out _ HX1.out).mono ?_
  rintro e w2 ⟨A2, c2, rfl, ho, hx2⟩
  have HO := hide ho
  have HX2 := hide (HX1.out.trans hx2)
  have HB := hide HX1.out.size
  clear ho hx2
  go_wp2_with fail
  refine (scompact_own A2 m c2 _ L w w2 HO.out HX2.out HB.out (by omega)).mono ?_
  rintro e w3 ⟨rfl, ho3, hx3⟩
  have HO3 := hide ho3
  have HX3 := hide hx3
  clear ho3 hx3
  obtain ⟨q, hq⟩ : ∃ q, (Lib.compact L).length = q := ⟨_, rfl⟩
  rw [hq] at HO3 ⊢
  have HQ := hide hq
  clear hq
  go_wp2_with fail
  go_ret
  exact lsout_own HO3.out HX3.out HQ.out
end Go.Proofs.YtjmonkacijncbaaGreatDoor
