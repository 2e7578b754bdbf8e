/- The sectors of a disk as one row of bytes: plain lists. Plain theorems, no condition. -/
import Derived.Test.YthmojneobkaolaaGreatDoorMem
import Derived.Test.YthmojneobkaolaaGreatDoorArr
import Derived.Test.YthmojneobkaolaaGreatDoorCopyN
namespace Go.Proofs.YthmojneobkaolaaGreatDoor
open Go.RowKit
set_option linter.unusedVariables false

abbrev Bt := List UInt8
/-- The first k sectors, one behind the other. -/
def flatS (S : Nat → Bt) : Nat → Bt
  | 0 => []
  | k + 1 => flatS S k ++ S k
def SecOk (S : Nat → Bt) : Prop := ∀ i, (S i).length = 64
theorem flatS_len {S : Nat → Bt} (h : SecOk S) (k : Nat) : (flatS S k).length = 64 * k := by
  induction k with
  | zero => rfl
  | succ k ih => rw [flatS, List.length_append, ih, h k]; omega
theorem flatS_add (S : Nat → Bt) (a b : Nat) : flatS S (a + b) = flatS S a ++ flatS (fun i => S (a + i)) b := by
  induction b with
  | zero => simp [flatS]
  | succ b ih => rw [Nat.add_succ, flatS, ih, flatS, List.append_assoc]
theorem flatS_one (S : Nat → Bt) : flatS S 1 = S 0 := by simp [flatS]
theorem flatS_congr {S T : Nat → Bt} (k : Nat) (h : ∀ i, i < k → S i = T i) : flatS S k = flatS T k := by
  induction k with
  | zero => rfl
  | succ k ih => rw [flatS, flatS, ih (fun i hi => h i (by omega)), h k (by omega)]
/-- What lies ahead of sector n, that sector, and what lies behind it. -/
theorem flatS_split (S : Nat → Bt) {n N : Nat} (hn : n < N) : flatS S N = flatS S n ++ (S n ++ flatS (fun i => S (n + 1 + i)) (N - (n + 1))) := by
  have h := flatS_add S (n + 1) (N - (n + 1))
  rw [show n + 1 + (N - (n + 1)) = N by omega, flatS, List.append_assoc] at h
  exact h
theorem flatS_at {S : Nat → Bt} (h : SecOk S) {n N : Nat} (hn : n < N) : ((flatS S N).drop (64 * n)).take 64 = S n := by
  rw [flatS_split S hn, List.drop_left' (flatS_len h n), List.take_left' (h n)]
theorem updS_ok {S : Nat → Bt} (h : SecOk S) (n : Nat) {d : Bt} (hd : d.length = 64) : SecOk (updN S n d) := fun i => by
  unfold updN
  split
  · exact hd
  · exact h i
theorem flatS_upd {S : Nat → Bt} (h : SecOk S) {n N : Nat} (hn : n < N) (d : Bt) (hd : d.length = 64) : (flatS S N).take (64 * n) ++ (d ++ (flatS S N).drop (64 * n + d.length)) = flatS (updN S n d) N := by
  rw [flatS_split S hn, flatS_split (updN S n d) hn, updN_same, List.take_left' (flatS_len h n)]
  congr 1
  · exact flatS_congr n fun i hi => (updN_other _ _ _ _ (by omega)).symm
  congr 1
  rw [← List.drop_drop, List.drop_left' (flatS_len h n), hd, List.drop_left' (h n)]
  exact flatS_congr _ fun i _ => (updN_other _ _ _ _ (by omega)).symm
theorem spl_bytes (a d : Bt) (off : Nat) : spl (bytesV a) off (bytesV d) = bytesV (a.take off ++ (d ++ a.drop (off + d.length))) := by
  unfold spl
  rw [bytesV_append, bytesV_append, bytesV_take, bytesV_drop, bytesV_length]
/-- Block g is the row of all sectors. -/
def RowD (w : World) (g : Nat) (S : Nat → Bt) : Prop := ∃ (N : Nat) (L : Bt), N = 256 ∧ L = flatS S N ∧ Blk w g 5 (bytesV L).toArray
theorem RowD.lt {w : World} {g : Nat} {S : Nat → Bt} (h : RowD w g S) : g < w.heap.size := by
  obtain ⟨N, L, _, _, hb⟩ := h
  exact hb.lt
/-- The whole row, read. -/
theorem RowD.whole {w : World} {g : Nat} {S : Nat → Bt} (h : RowD w g S) (hS : SecOk S) : ∃ L : Bt, L.length = 16384 ∧ Reads w w.heap.size 1 (some ⟨g, 0, none⟩) 16384 (bytesV L) ∧ (∀ n, n < 256 → (L.drop (64 * n)).take 64 = S n) ∧ Blk w g 5 (bytesV L).toArray ∧
    (∀ n d, n < 256 → d.length = 64 → ∀ w', Blk w' g 5 (spl (bytesV L) (64 * n) (bytesV d)).toArray → RowD w' g (updN S n d)) ∧ (∀ w' g', Blk w' g' 5 (bytesV L).toArray → RowD w' g' S) := by
  obtain ⟨N, L, hN, hL, hb⟩ := h
  have hl : L.length = 16384 := by rw [hL, flatS_len hS]; omega
  have hr := Blk.reads hb
  rw [show (bytesV L).toArray.size = 16384 by rw [List.size_toArray, bytesV_length, hl]] at hr
  refine ⟨L, hl, hr, fun n hn => by rw [hL]; exact flatS_at hS (by omega), hb, fun n d hn hd w' hb' => ?_, fun w' g' hb' => ⟨N, L, hN, hL, hb'⟩⟩
  rw [spl_bytes, hL, flatS_upd hS (by omega) d hd] at hb'
  exact ⟨N, _, hN, rfl, hb'⟩
/-- A sector, read. -/
theorem RowD.sec {w : World} {g : Nat} {S : Nat → Bt} (h : RowD w g S) (hS : SecOk S) {n : Nat} (hn : n < 256) : Reads w w.heap.size 1 (some ⟨g, 64 * n, none⟩) 64 (bytesV (S n)) := by
  obtain ⟨L, hl, hr, hs, hb, -, -⟩ := h.whole hS
  refine ⟨by rw [bytesV_length, hS n], fun _ => ⟨_, rfl, hb.lt, fun j u hu => ?_⟩⟩
  have hj : j < 64 := by
    have := (List.getElem?_eq_some_iff.1 hu).1
    rw [bytesV_length, hS n] at this
    exact this
  rw [add_lit, Blk.cell hb, List.getElem?_toArray, ← hu, ← hs n hn, ← bytesV_take, ← bytesV_drop, List.getElem?_take, if_pos hj, List.getElem?_drop]
theorem RowD.ext {w w' : World} {g : Nat} {S : Nat → Bt} (h : RowD w g S) (hx : Ext w w') : RowD w' g S := by
  obtain ⟨N, L, hN, hL, hb⟩ := h
  exact ⟨N, L, hN, hL, hb.ext hx⟩
theorem setRow_blk {w : World} {g : Nat} {t : TypeId} {cs : Array Value} (h : Blk w g t cs) (cs' : Array Value) : Blk (w.setRow g cs') g t cs' := by
  unfold Blk at h ⊢
  simp [World.setRow, Array.getElem?_modify, h]
end Go.Proofs.YthmojneobkaolaaGreatDoor
