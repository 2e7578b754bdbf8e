/- The laws over seg, walked. -/
import Derived.Test.YtacfffegmmdgfaaSgCode
import Derived.Test.YtacfffegmmdgfaaSgDec
import Derived.Laws.BytesString
import Derived.Laws.BytesArg
namespace Go.Proofs.Ytacfffegmmdgfaa.Sg
open Go.RowKit
set_option linter.unusedVariables false

theorem decode_any (bs : List UInt8) (A : Option Addr) (n c B : Nat) (w : World) (hr : Reads w B 1 A n (bytesV bs)) (hB : B ≤ w.heap.size) (hnc : n ≤ c) (hc : c ≤ maxLen) (hn : bs.length = n) :
    Calls Try.prog 28 #[.slice A n c] w (DecPost bs w) := by
  by_cases h1 : n < 14 ∨ n < 14 + (bs.getD 10 0).toNat
  · refine (decode_short bs A n c B w hr hB hnc hc h1).mono fun e w' ⟨he, hx⟩ => .inl ?_
    have : decErr bs = 21 := by unfold decErr; rw [hn, if_pos h1]
    rw [this]
    exact ⟨by decide, he, hx⟩
  · by_cases h2 : 14 + (bs.getD 10 0).toNat < n ∨ bs.getD 11 0 ≠ 0
    · refine (decode_form bs A n c B w hr hB hnc hc (by omega) (by omega) h2).mono fun e w' ⟨he, hx⟩ => .inl ?_
      have : decErr bs = 3 := by unfold decErr; rw [hn, if_neg h1, if_pos h2]
      rw [this]
      exact ⟨by decide, he, hx⟩
    · simp only [not_or, Decidable.not_not] at h2
      exact decode_rest bs A n c B w hr hB hnc hc hn (by omega) (by omega) h2.2
/-- What was encoded is decoded. -/
theorem decode_enc (s : SegD) (ok : s.Ok) (m : Nat) (hm : s.data.length = m) (A : Option Addr) (c B : Nat) (w : World) (hr : Reads w B 1 A (14 + m) (bytesV (enc s))) (hB : B ≤ w.heap.size) (hnc : 14 + m ≤ c) (hc : c ≤ maxLen) :
    Calls Try.prog 28 #[.slice A (14 + m) c] w fun e w' =>
      ∃ A' c', e = .returned (.tuple #[.agg #[.int .u32 s.seq, .int .u32 s.ack, .int .i64 s.fl, .int .i64 s.wn, .slice A' m c'], .int .i64 0]) ∧ w'.ownsRow w.heap.size 5 1 (.slice A' m c') m (bytesV s.data) ∧ Ext w w' := by
  refine (decode_any (enc s) A (14 + m) c B w hr hB hnc hc (by rw [enc_length, hm])).mono fun e w' h => ?_
  obtain ⟨h0, h1⟩ := dec_enc s ok
  rcases h with ⟨h, _⟩ | ⟨_, A', c', he, ho, hx⟩
  · exact absurd h0 h
  · have e1 : word (enc s) 0 = s.seq := congrArg SegD.seq h1
    have e2 : word (enc s) 4 = s.ack := congrArg SegD.ack h1
    have e3 : ((enc s).getD 8 0).toNat = s.fl := congrArg SegD.fl h1
    have e4 : ((enc s).getD 9 0).toNat = s.wn := congrArg SegD.wn h1
    have e5 : (enc s).drop 14 = s.data := by have := congrArg SegD.data h1; exact this
    have e6 : (enc s).length - 14 = m := by rw [enc_length, hm]; omega
    rw [e1, e2, e3, e4, e6] at he
    rw [e5, e6] at ho
    exact ⟨A', c', he, ho, hx⟩

end Go.Proofs.Ytacfffegmmdgfaa.Sg
