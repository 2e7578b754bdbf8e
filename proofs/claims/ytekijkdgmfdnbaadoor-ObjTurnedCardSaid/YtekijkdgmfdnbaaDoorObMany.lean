/- The contract of the reader's many, for any closure that reads one thing more. -/
import Derived.Test.YtekijkdgmfdnbaaDoorObDe3
namespace Go.Proofs.YtekijkdgmfdnbaaDoor
open Go.RowKit
set_option linter.unusedVariables false

theorem cf_of {P : Program} {f : Nat} {fn : Func} (hf : P.funcs[f]? = some fn) (h1 : (fn.name == "runtime.NumGoroutine") = false) (h2 : fn.body.isNone = false) (a : Array Value) (w : World) : Sem.run P (callFunc f a) w = .ok (.enter f a) w := by
  have h1' : ¬ fn.name = "runtime.NumGoroutine" := by simpa using h1
  have h2' : ¬ fn.body = none := by intro h; rw [h] at h2; cases h2
  simp [callFunc, hf, go_sem, h1', h2']
theorem cf1 (a : Array Value) (w : World) : Sem.run Tryd.prog (callFunc 21 a) w = .ok (.enter 21 a) w := cf_of Tryd.func21 (by kernel_rfl) (by kernel_rfl) a w
theorem cf2 (a : Array Value) (w : World) : Sem.run Tryd.prog (callFunc 24 a) w = .ok (.enter 24 a) w := cf_of Tryd.func24 (by kernel_rfl) (by kernel_rfl) a w
theorem cf3 (a : Array Value) (w : World) : Sem.run Tryd.prog (callFunc 26 a) w = .ok (.enter 26 a) w := cf_of Tryd.func26 (by kernel_rfl) (by kernel_rfl) a w
section
variable {α : Type}
theorem manyM_zero (M : Option Bs → α × Option Bs) (s : Option Bs) (acc : List α) : manyM M 0 s acc = (acc, s) := by cases s <;> rfl
theorem manyM_some (M : Option Bs → α × Option Bs) (k : Nat) (r : Bs) (acc : List α) : manyM M (k + 1) (some r) acc = manyM M k (M (some r)).2 (acc ++ [(M (some r)).1]) := rfl
def ManyRel (M : Option Bs → α × Option Bs) (put : List α → ObD) (F : List α × Option Bs) (w0 : World) (g2 gr gv go N : Nat) (v4 : Value) (wr : World) : Prop :=
  ∃ (k : Nat) (s : Option Bs) (acc : List α) (v : ObV), v4 = .int .i64 k ∧ acc.length + k ≤ N ∧ manyM M k s acc = F ∧ DecSt w0 g2 gr gv go s (put acc) v wr
set_option maxHeartbeats 8000000 in
set_option maxRecDepth 100000 in
theorem many_any (M : Option Bs → α × Option Bs) (put : List α → ObD) (fn : Nat) (hcf : ∀ (a : Array Value) (w : World), Sem.run Tryd.prog (callFunc fn a) w = .ok (.enter fn a) w) (g2 gr gv go : Nat) (w0 : World)
    (hE : ∀ s acc v w, acc.length ≤ 100000 → DecSt w0 g2 gr gv go s (put acc) v w → Calls Tryd.prog fn #[.pointer (some ⟨gv, 0, none⟩), .pointer (some ⟨go, 0, none⟩)] w fun e w' => e = .returned (.tuple #[]) ∧ ∃ v', DecSt w0 g2 gr gv go (M s).2 (put (acc ++ [(M s).1])) v' w')
    (s : Option Bs) (v : ObV) (w : World) (h : DecSt w0 g2 gr gv go s (put []) v w) :
    Calls Tryd.prog 20 #[.pointer (some ⟨gr, 0, none⟩), .func (.func fn) #[] #[.pointer (some ⟨gv, 0, none⟩), .pointer (some ⟨go, 0, none⟩)]] w fun e w' => e = .returned (.tuple #[]) ∧ ∃ v', DecSt w0 g2 gr gv go (manyM M (hv s) (hs_ s) []).2 (put (manyM M (hv s) (hs_ s) []).1) v' w' := by
  have HE := hide hE
  have HCF := hide hcf
  clear hcf
  have HH := hide h
  have hN := hv_lt s
  clear hE h
  obtain ⟨F, hF⟩ : ∃ F, manyM M (hv s) (hs_ s) [] = F := ⟨_, rfl⟩
  have HF := hide hF
  rw [hF]
  clear hF
  go_enter Tryd.func20, Tryd.ntmps20
  go_wp2_with fail
  refine (half_ds HH.out).mono ?_
  rintro e w1 ⟨rfl, -, hst1⟩
  have HST1 := hide hst1
  clear hst1 HH
  generalize hv s = N at *
  generalize hs_ s = s1 at *
  go_wp2_with fail
  go_loopw [4] (ManyRel M put F w0 g2 gr gv go N) (fun i _ => (intOf i).toNat)
  case atStart => exact ⟨N, s1, [], v, rfl, by simp, HF.out, HST1.out⟩
  case round =>
    obtain ⟨k, s2, acc, v2, rfl, hk, hf, hst⟩ := hrel
    have HST := hide hst
    have HF2 := hide hf
    obtain ⟨A, n, c, r, hb, hr, hnc, hcm, hs⟩ := hst.rd
    have c1 : wr.cell? ⟨gr, 1, none⟩ = some (.bool s2.isNone) := hb.cell 1
    clear hst hb hr hs HST1 HF hf
    by_cases hk0 : k = 0
    · subst hk0
      have HFIN := hide (show DecSt w0 g2 gr gv go F.2 (put F.1) v2 wr by rw [← HF2.out, manyM_zero]; exact HST.out)
      clear HF2 HST c1
      go_wp2_with fail
      first | ((first | go_end0 | ((try simp only [Exit.inBlock, Exit.then]); refine bodyPost_ret (results_none rfl _ _ _) rfl ?_))) | skip
      exact ⟨rfl, _, HFIN.out⟩
    · obtain ⟨k', rfl⟩ : ∃ k', k = k' + 1 := ⟨k - 1, by omega⟩
      cases s2 with
      | none =>
        have HFIN := hide (show DecSt w0 g2 gr gv go F.2 (put F.1) v2 wr by rw [← HF2.out, manyM_none]; exact HST.out)
        simp only [Option.isNone_none] at c1
        clear HF2 HST
        go_wp2_with fail
        first | ((first | go_end0 | ((try simp only [Exit.inBlock, Exit.then]); refine bodyPost_ret (results_none rfl _ _ _) rfl ?_))) | skip
        exact ⟨rfl, _, HFIN.out⟩
      | some x =>
        simp only [Option.isNone_some] at c1
        have HC := hide (HE.out (some x) acc v2 wr (by omega) HST.out)
        rw [manyM_some] at HF2
        clear HST
        go_wp2_with fail
        rw [HCF.out, Oper.upon_enter]
        refine HC.out.mono ?_
        rintro e w5 ⟨rfl, v5, hst5⟩
        have HST5 := hide hst5
        clear hst5 c1
        go_wp2_with fail
        go_roundw
        case rel => exact ⟨k', _, _, v5, by go_num, by rw [List.length_append]; simp only [List.length_cons, List.length_nil]; omega, HF2.out, HST5.out⟩
        case measure => simp [intOf]
end
end Go.Proofs.YtekijkdgmfdnbaaDoor
