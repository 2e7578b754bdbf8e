/- Lines: how long printed jobs are; the contracts of strings.Join, lineOf, jobsOf. -/
import Derived.Test.YtjbgkcljjgofnaaDoorShParse
import Derived.Test.YtjbgkcljjgofnaaDoorWBackP
import Derived.Test.YtjbgkcljjgofnaaDoorWPrint
import Derived.Test.YtjbgkcljjgofnaaDoorIntsV
import Derived.Test.YtjbgkcljjgofnaaDoorRest
namespace Go.Proofs.YtjbgkcljjgofnaaDoor
open Go.RowKit
set_option linter.unusedVariables false

section
variable {α : Type} (o : α → List UInt8) (sg : List UInt8 → α)
/-- How many tokens, no fewer than there are. -/
def cntC (c : CmdJ α) : Nat := c.words.length + 2 * c.redirs.length
def cntCs : List (CmdJ α) → Nat
  | [] => 0
  | c :: cs => cntC c + 1 + cntCs cs
def cntPs : List (PipeJ α) → Nat
  | [] => 0
  | p :: ps => cntCs p.cmds + cntPs ps
def cntJs : List (JobJ α) → Nat
  | [] => 0
  | j :: js => cntPs j.pipes + cntJs js
theorem cntCs_app (a b : List (CmdJ α)) : cntCs (a ++ b) = cntCs a + cntCs b := by induction a with | nil => simp [cntCs] | cons x a ih => simp only [List.cons_append, cntCs, ih]; omega
theorem cntPs_app (a b : List (PipeJ α)) : cntPs (a ++ b) = cntPs a + cntPs b := by induction a with | nil => simp [cntPs] | cons x a ih => simp only [List.cons_append, cntPs, ih]; omega
theorem cntJs_app (a b : List (JobJ α)) : cntJs (a ++ b) = cntJs a + cntJs b := by induction a with | nil => simp [cntJs] | cons x a ih => simp only [List.cons_append, cntJs, ih]; omega
theorem isT_ne {x : List UInt8} {r : List α} (h : isT o x r = true) : 0 < r.length := by cases r with | nil => cases h | cons t r => simp
theorem cmdP_cnt : ∀ (F : Nat) (r : List α) (c c' : CmdJ α) (r' : List α), cmdP o F r c = (some c', r') → cntC c' + r'.length ≤ cntC c + r.length := by
  intro F
  induction F with
  | zero => intro r c c' r' h; simp [cmdP] at h
  | succ F ih =>
    intro r c c' r' h
    cases r with
    | nil =>
      simp only [cmdP] at h
      split at h
      · cases h
      · cases h; exact Nat.le_refl _
    | cons t r =>
      by_cases h1 : o t = []
      · rw [cmdP_word o h1] at h
        have := ih _ _ _ _ h
        simp only [cntC, List.length_append, List.length_cons, List.length_nil] at this ⊢
        omega
      · by_cases h2 : redirT o (t :: r) = true
        · cases r with
          | nil => simp only [cmdP] at h; rw [if_neg h1, if_pos h2] at h; cases h
          | cons u r =>
            by_cases h3 : o u = []
            · rw [cmdP_red o h1 h2 h3] at h
              have := ih _ _ _ _ h
              simp only [cntC, List.length_append, List.length_cons, List.length_nil] at this ⊢
              omega
            · simp only [cmdP] at h; rw [if_neg h1, if_pos h2, if_neg h3] at h; cases h
        · simp only [cmdP] at h
          rw [if_neg h1, if_neg h2] at h
          split at h
          · cases h
          · cases h; exact Nat.le_refl _
theorem pipeP_cnt (G : Nat) : ∀ (F : Nat) (r : List α) (p p' : PipeJ α) (r' : List α), pipeP o G F r p = (some p', r') → cntCs p'.cmds + r'.length ≤ cntCs p.cmds + r.length + 1 := by
  intro F
  induction F with
  | zero => intro r p p' r' h; simp [pipeP] at h
  | succ F ih =>
    intro r p p' r' h
    simp only [pipeP] at h
    cases hx : cmdP o G r ⟨[], []⟩ with
    | mk x r1 =>
      rw [hx] at h
      cases x with
      | none => cases h
      | some c =>
        have h0 := cmdP_cnt o G r _ _ _ hx
        simp only [cntC, List.length_nil] at h0
        simp only at h
        split at h
        · cases h
          simp only [cntCs_app, cntCs, cntC]
          omega
        · rename_i hno
          have hb : isT o [124] r1 = true := by
            cases hb : isT o [124] r1 with
            | true => rfl
            | false => exact absurd (.inr hb) hno
          have h1 := isT_ne o hb
          have := ih _ _ _ _ h
          simp only [cntCs_app, cntCs, cntC, List.length_drop] at this
          omega
theorem jobP_cnt (G : Nat) : ∀ (F : Nat) (r : List α) (op : List UInt8) (ps ps' : List (PipeJ α)) (r' : List α), jobP o G F r op ps = (some ps', r') → cntPs ps' + r'.length ≤ cntPs ps + r.length + 1 := by
  intro F
  induction F with
  | zero => intro r op ps ps' r' h; simp [jobP] at h
  | succ F ih =>
    intro r op ps ps' r' h
    simp only [jobP] at h
    cases hx : pipeP o G G r ⟨op, []⟩ with
    | mk x r1 =>
      rw [hx] at h
      cases x with
      | none => cases h
      | some p =>
        have h0 := pipeP_cnt o G G r _ _ _ hx
        simp only [cntCs] at h0
        simp only at h
        split at h
        · cases h
          simp only [cntPs_app, cntPs]
          omega
        · rename_i hno
          have h1 : 0 < r1.length := by
            cases hb : isT o [38, 38] r1 with
            | true => exact isT_ne o hb
            | false =>
              cases hc : isT o [124, 124] r1 with
              | true => exact isT_ne o hc
              | false => exact absurd (.inr ⟨hb, hc⟩) hno
          have := ih _ _ _ _ _ h
          simp only [cntPs_app, cntPs, List.length_drop] at this
          omega
theorem parseP_cnt (G : Nat) : ∀ (F : Nat) (r : List α) (js js' : List (JobJ α)), parseP o G F r js = some js' → cntJs js' ≤ cntJs js + (if r.length = 0 then 0 else r.length + 1) := by
  intro F
  induction F with
  | zero => intro r js js' h; simp [parseP] at h
  | succ F ih =>
    intro r js js' h
    cases r with
    | nil =>
      simp only [parseP] at h
      cases h
      simp
    | cons t r =>
      simp only [parseP] at h
      cases hx : jobP o G G (t :: r) [] [] with
      | mk x r1 =>
        rw [hx] at h
        cases x with
        | none => cases h
        | some ps =>
          have h0 := jobP_cnt o G G _ _ _ _ _ hx
          simp only [cntPs, List.length_cons] at h0
          simp only at h
          split at h
          · cases h
          · split at h
            · cases h
            · have := ih _ _ _ h
              simp only [cntJs_app, cntJs, List.length_drop] at this
              rw [if_neg (by simp)]
              simp only [List.length_cons]
              split at this <;> omega
theorem cmdF_len (c : CmdJ α) : (cmdF sg c).length = cntC c := by
  obtain ⟨ws, rs⟩ := c
  simp only [cmdF, redF, cntC, List.length_append]
  induction rs with
  | nil => simp
  | cons r rs ih => simp only [List.flatMap_cons, List.length_append, List.length_cons, List.length_nil] at ih ⊢; omega
theorem cmdsF_len : ∀ (cs : List (CmdJ α)), cs ≠ [] → (cmdsF sg cs).length + 1 ≤ cntCs cs := by
  intro cs
  induction cs with
  | nil => intro h; exact absurd rfl h
  | cons c cs ih =>
    intro _
    simp only [cmdsF, cntCs, List.length_append, cmdF_len]
    cases cs with
    | nil => simp
    | cons d ds =>
      have := ih (by simp)
      simp at this ⊢
      omega
theorem pipesF_len : ∀ (ps : List (PipeJ α)), (∀ p ∈ ps, p.cmds ≠ []) → (pipesF sg ps).length ≤ cntPs ps := by
  intro ps
  induction ps with
  | nil => intro _; simp [pipesF]
  | cons p ps ih =>
    intro h
    have h1 := cmdsF_len sg p.cmds (h p (by simp))
    have h2 := ih (fun q hq => h q (by simp [hq]))
    simp only [pipesF, cntPs, List.length_append]
    split <;> simp <;> omega
theorem jobsF_len : ∀ (js : List (JobJ α)), (∀ j ∈ js, PipesOk o j.pipes) → (jobsF sg js).length ≤ cntJs js := by
  intro js
  induction js with
  | nil => intro _; simp [jobsF]
  | cons j js ih =>
    intro h
    have h2 := ih (fun q hq => h q (by simp [hq]))
    obtain ⟨_, hp, p, ps, he, hi, _⟩ := h j (by simp)
    have h1 := pipesF_len sg ps (fun q hq => (hp q (by rw [he]; simp [hq])).1)
    have h3 := cmdsF_len sg p.cmds (hp p (by rw [he]; simp)).1
    have h4 : (endF sg j (!js.isEmpty)).length ≤ 1 := by
      unfold endF
      split
      · simp
      · split <;> simp
    simp only [jobsF, cntJs, List.length_append]
    rw [he]
    simp only [pipesF, cntPs, hi, if_true, List.length_append, List.length_nil]
    omega
end
/- What holds of all signs and of all words holds of all tokens. -/
section
variable {N : Nat} {Q : Tk → Prop} (hs : ∀ x ∈ opsL, Q (sgK x))
include hs
theorem cmd_all {c : CmdJ Tk} (h : CmdFit oT Q N c) : ∀ t ∈ cmdF sgK c, Q t := by
  intro t ht
  unfold cmdF redF at ht
  rcases List.mem_append.1 ht with ht | ht
  · exact h.2.1.1 t ht
  · obtain ⟨r, hr, ht⟩ := List.mem_flatMap.1 ht
    simp only [List.mem_cons, List.not_mem_nil, or_false] at ht
    rcases ht with rfl | rfl
    · refine hs _ ?_
      rcases (h.1.2.2 r hr).1 with e | e | e <;> rw [e] <;> decide
    · exact h.2.1.2 r hr
theorem cmds_all : ∀ (cs : List (CmdJ Tk)), (∀ c ∈ cs, CmdFit oT Q N c) → ∀ t ∈ cmdsF sgK cs, Q t := by
  intro cs
  induction cs with
  | nil => intro _ t ht; cases ht
  | cons c cs ih =>
    intro h t ht
    unfold cmdsF at ht
    rcases List.mem_append.1 ht with ht | ht
    · exact cmd_all hs (h c (by simp)) t ht
    · split at ht
      · cases ht
      · rcases List.mem_cons.1 ht with rfl | ht
        · exact hs _ (by decide)
        · exact ih (fun x hx => h x (by simp [hx])) t ht
theorem pipes_all : ∀ (ps : List (PipeJ Tk)), (∀ p ∈ ps, PipeFit oT Q N p ∧ (p.iff = [] ∨ LinkOk p.iff)) → ∀ t ∈ pipesF sgK ps, Q t := by
  intro ps
  induction ps with
  | nil => intro _ t ht; cases ht
  | cons p ps ih =>
    intro h t ht
    unfold pipesF at ht
    rcases List.mem_append.1 ht with ht | ht
    · split at ht
      · cases ht
      · rename_i hne
        rw [List.mem_singleton] at ht
        subst ht
        rcases (h p (by simp)).2 with e | e
        · exact absurd e hne
        · exact hs _ (link_op e)
    · rcases List.mem_append.1 ht with ht | ht
      · exact cmds_all hs p.cmds (h p (by simp)).1.2.2 t ht
      · exact ih (fun x hx => h x (by simp [hx])) t ht
theorem jobs_all : ∀ (js : List (JobJ Tk)), (∀ j ∈ js, JobFit oT Q N j) → ∀ t ∈ jobsF sgK js, Q t := by
  intro js
  induction js with
  | nil => intro _ t ht; cases ht
  | cons j js ih =>
    intro h t ht
    unfold jobsF endF at ht
    rcases List.mem_append.1 ht with ht | ht
    · obtain ⟨_, h2, p, l, hp, h3, h4⟩ := h j (by simp)
      refine pipes_all hs j.pipes (fun q hq => ⟨h2 q hq, ?_⟩) t ht
      rw [hp] at hq
      rcases List.mem_cons.1 hq with rfl | hq
      · exact .inl h3
      · exact .inr (h4 q hq)
    · rcases List.mem_append.1 ht with ht | ht
      · split at ht
        · rw [List.mem_singleton] at ht
          subst ht
          exact hs _ (by decide)
        · split at ht
          · rw [List.mem_singleton] at ht
            subst ht
            exact hs _ (by decide)
          · cases ht
      · exact ih (fun x hx => h x (by simp [hx])) t ht
end
/-- A token is printed short. -/
def ShortK (x : Tk) : Prop := (printTok x.1).length ≤ 5
theorem short_sign : ∀ x ∈ opsL, ShortK (sgK x) := by
  have : ∀ x ∈ opsL, (printTok (sgK x).1).length ≤ 5 := by decide
  exact this
/-- A line of raw numbers is read as short tokens. -/
theorem line_split2 (l : List Nat) (hl : ∀ i ∈ l, i < 14) : ∃ ms, splitD (lineN l) = .ok ms ∧ (∀ t ∈ ms, TokOk t) ∧ ms.length = l.length ∧ ∀ t ∈ ms, (printTok t).length ≤ 5 := by
  have e : (l.map fun i => textL.getD i []) = (l.map fun i => tokL.getD i ⟨[59], [], 0⟩).map printTok := by
    rw [List.map_map]
    refine List.map_congr_left fun i hi => ?_
    have h14 : i < tokL.length := hl i hi
    rw [← tokL_print]
    simp only [Function.comp, List.getD_eq_getElem?_getD, List.getElem?_map, List.getElem?_eq_getElem h14, Option.map_some, Option.getD_some]
  have hin : ∀ t ∈ l.map fun i => tokL.getD i ⟨[59], [], 0⟩, t ∈ tokL := by
    intro t ht
    obtain ⟨i, hi, rfl⟩ := List.mem_map.1 ht
    have h14 : i < tokL.length := hl i hi
    rw [List.getD_eq_getElem?_getD, List.getElem?_eq_getElem h14]
    exact List.getElem_mem h14
  obtain ⟨ms, h1, h2⟩ := read_back_line _ (fun t ht => tokL_ok t (hin t ht))
  have h2' : ms.map bareT = (l.map fun i => tokL.getD i ⟨[59], [], 0⟩).map bareT := h2
  refine ⟨ms, by unfold lineN; rw [e]; exact h1, toks_bare h2'.symm (fun t ht => tokL_ok t (hin t ht)), by simpa using congrArg List.length h2', fun t ht => ?_⟩
  obtain ⟨i, hi⟩ := List.mem_iff_getElem?.1 ht
  have h3 := congrArg (fun x => x[i]?) h2'
  simp only [List.getElem?_map, hi, Option.map_some] at h3
  cases hq : l[i]? with
  | none => rw [hq] at h3; cases h3
  | some k =>
    rw [hq] at h3
    simp only [Option.map_some, Option.some.injEq] at h3
    have hm := hin (tokL.getD k ⟨[59], [], 0⟩) (List.mem_map.2 ⟨k, List.mem_of_getElem? hq, rfl⟩)
    have key : ∀ u ∈ tokL, (printTok u).length ≤ 5 := by decide
    have hk := key _ hm
    injection h3 with h4 h5
    unfold printTok at hk ⊢
    rw [h4, h5]
    exact hk
theorem join_short : ∀ (l : List (List UInt8)), (∀ x ∈ l, x.length ≤ 5) → (joinS l).length ≤ 6 * l.length := by
  intro l h
  have := join_len 5 l h
  omega
theorem line_len (N n : Nat) (js : List (JobJ Tk)) (hfit : ∀ j ∈ js, JobFit oT ShortK N j) (hc : cntJs js ≤ n) : (lineJ js).length ≤ 6 * n := by
  unfold lineJ toksJ
  have h1 := jobsF_len oT sgK js (fun j hj => (hfit j hj).ok)
  refine Nat.le_trans (join_short _ ?_) (by simp only [List.length_map]; omega)
  intro x hx
  obtain ⟨t, ht, rfl⟩ := List.mem_map.1 hx
  obtain ⟨u, hu, rfl⟩ := List.mem_map.1 ht
  exact jobs_all short_sign js hfit u hu
end Go.Proofs.YtjbgkcljjgofnaaDoor
