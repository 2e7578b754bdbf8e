/- The kernel: sleeping, signals, killing. -/
import Derived.Test.YthmojneobkaolaaGreatDoorTpAsk2
namespace Go.Proofs.YthmojneobkaolaaGreatDoor
open Go.RowKit
set_option linter.unusedVariables false

theorem u32_add (a t : Nat) (h : a + t ≤ 1000000) : IntKind.u32.wrap ((a : Int) + IntKind.u32.wrap (t : Int)) = ((a + t : Nat) : Int) := by
  unfold IntKind.wrap
  simp [IntKind.signed, IntKind.bits]
  omega
theorem KeepL.fresh {b : Nat} {L : List TypeId} {G M : List Nat} {w0 w : World} (h : KeepL b L G M w0 w) {g : Nat} (hg : w0.heap.size ≤ g) (o : Nat) (vs : List Value) : KeepL b L G M w0 (w.setCells g o vs) := by
  have hw := setCells_grown g vs w o
  have e : ∀ k, k < w0.heap.size → (w.setCells g o vs).heap[k]? = w.heap[k]? := fun k hk => hw.block k (Nat.lt_of_lt_of_le hk h.size) (fun e => by injection e with e; omega)
  exact ⟨hw.os.trans h.os, hw.tape.trans h.tape, hw.output.trans h.output, Nat.le_trans h.size hw.size, fun k hk hs => (e k hs).trans (h.low k hk hs), fun k cs t fz hc ht hG => (e k (lt_of_some hc)).trans (h.cells k cs t fz hc ht hG), fun k o hc hn hm => (e k (lt_of_some hc)).trans (h.rest k o hc hn hm)⟩
theorem KAt.answered {b : Nat} {w : World} {H : Hn} {s : KSt} (h : KAt b w H s) {g : Nat} {cs : Array Value} (hb : Blk w g 34 cs) (hg : b ≤ g) (vs : List Value) : KAt b (w.setCells g 0 vs) H s := by
  have hk : KeepL b [34] [] [] w (w.setCells g 0 vs) := KeepL.row hb (.inl (by simp)) hg (setCells_grown _ _ _ _)
  obtain ⟨T, hk', h1', hcw, ht⟩ := h.ker
  obtain ⟨m, hm0, hm1, hr⟩ := h.run
  exact ⟨⟨T, hk'.keep hk (by decide) (by simp), h1', hk.own hcw (by decide) (by simp), ht⟩, h.proc.keep hk (by decide) rfl, h.opn.keep hk (by decide) rfl, h.space.keep hk (by decide) (by simp), ⟨m, hm0, hm1, hr.keep hk (by decide) (by decide) rfl⟩, h.wheel.keep hk (by decide) (by decide) rfl, h.ge, Nat.le_trans h.bw hk.size⟩
section
variable {b : Nat} {w w' : World} {H : Hn} {s : KSt}
def KSt.timer (s : KSt) (i at_ id : Nat) : KSt := { s with ls := s.ls.take i ++ ((at_, id) :: s.ls.drop i) }
set_option maxHeartbeats 8000000 in
set_option maxRecDepth 100000 in
theorem ksleep_ok (h : KAt b w H s) (p : Nat) (h1 : 2 ≤ p) (h2 : p ≤ s.n) (hn : s.n ≤ 16) (t : Nat) (ht1 : 1 ≤ t) (ht2 : t ≤ 900) (hnow : s.now ≤ 1000) (hT : Timely s.ls) (hl : s.ls.length ≤ 20) (hid : ∀ q ∈ s.ls, q.2 ≠ p) :
    Calls Tryz.prog 116 #[pV H.hk, .int .i64 (p : Int), .int .i64 (t : Int)] w fun e w' => e = .returned (.int .i64 0) ∧ (∃ i, Timely (s.timer i (s.now + t) p).ls ∧ KAt b w' H ((s.timer i (s.now + t) p).slept p true)) ∧ KKeep b H w w' := by
  have hxd : Ext w w.drew := (Ext.refl w).drew
  have HAD := hide (wadd_ok (h.wheel.ext hxd) hT hl (Nat.le_trans h.bw hxd.size) (s.now + t) p (by omega) (by omega) hid)
  rw [Int.natCast_add] at HAD
  have c5 : w.drew.cell? ⟨H.hk, 5, none⟩ = some (pV H.hw) := h.hd 5 (by omega) rfl
  have c654 : w.drew.cell? ⟨H.hk, 654, none⟩ = some (.int .u32 (s.now : Int)) := h.clock
  have HH := hide (h.ext hxd)
  have HKD := hide (KeepL.of hxd b kTs [] [H.bm])
  have t1 : decide ((t : Int) < 0) = false := decide_eq_false (by omega)
  have t2 : decide ((1000 : Int) < (t : Int)) = false := decide_eq_false (by omega)
  have t3 : ((t : Int) == 0) = false := beq_eq_false_iff_ne.2 (by omega)
  have e3 := u32_add s.now t (by omega)
  clear h
  go_enter Tryz.func116, Tryz.ntmps116
  go_upto_region 5 with fail
  go_region_held3 (fun w' => w'.cell? ⟨H.hk, 5, none⟩ = some (pV H.hw) ∧ w'.cell? ⟨H.hk, 654, none⟩ = some (.int .u32 (s.now : Int))) (first | exact ⟨c5, c654⟩ | exact k9 | fail)
    (first | (go_at_call 196; (with_reducible refine HAD.out.mono ?_); rintro e w9 ⟨rfl, ⟨i, htm, hw9⟩, hk9⟩; have hs9 := HH.out.wheeled hk9 hw9; have k9 : w9.cell? ⟨H.hk, 5, none⟩ = some (pV H.hw) ∧ w9.cell? ⟨H.hk, 654, none⟩ = some (.int .u32 (s.now : Int)) := ⟨hs9.hd 5 (by omega) rfl, hs9.clock⟩) | fail)
  all_goals
    have HS9 := hide hs9
    have HTM := hide htm
    have HK9 := hide (HKD.out.trans (hk9.wide (Nat.le_refl _) (by simp) (by simp) (by simp)))
    obtain ⟨m, hm0, hm1, hr⟩ := hs9.run
    have HB := hide (block_n hr hm0 (by have : m ≤ s.n := hm1; omega) (p : Int))
    have HM := hide hm1
    have c4 := hs9.hd 4 (by omega) (v := pV H.hr) rfl
    clear hs9 htm hk9 hr hw9 HAD c5 c654 HKD e3
    go_wp2_with fail
    refine HB.out.mono ?_
    rintro e w10 ⟨⟨z, rfl⟩, hr10, hk10⟩
    have hs10 := HS9.out.runned hk10 hm0 HM.out hr10
    have HK10 := hide (HK9.out.trans (hk10.wide (Nat.le_refl _) (by simp) (by simp) (by simp)))
    obtain ⟨hs11, hk11⟩ := hs10.sleepSet p h1 (by omega) true
    have HS11 := hide hs11
    have HK11 := hide (HK10.out.trans (hk11.wide (Nat.le_refl _) (by simp) (by simp) (by simp)))
    have c37 := hs10.asleep p (by omega) h2 hn
    have f37 := hs10.frozen (8 + p * 38 + 37)
    have hp17 : (p : Int) < 17 := by omega
    clear hs10 hs11 hk11 hk10 hr10 HB HS9 HK9 HK10 c4
    go_wp2_with fail
    go_ret
    exact ⟨rfl, ⟨i, HTM.out, HS11.out⟩, HK11.out⟩
end
end Go.Proofs.YthmojneobkaolaaGreatDoor
