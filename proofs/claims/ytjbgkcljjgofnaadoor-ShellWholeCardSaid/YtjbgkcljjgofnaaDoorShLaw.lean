/- Jobs that are printed are read so: the plain law behind ShellBack and ShellWhole. Plain theorems, no program in sight. -/
import Derived.Test.YtjbgkcljjgofnaaDoorShP
namespace Go.Proofs.YtjbgkcljjgofnaaDoor
open Go.RowKit
set_option linter.unusedVariables false

section
variable {α : Type} (o : α → List UInt8) (sg : List UInt8 → α)
/-- The tokens of a command, of a pipe, of a job, of jobs. -/
def redF (l : List (List UInt8 × α)) : List α := l.flatMap fun r => [sg r.1, r.2]
def cmdF (c : CmdJ α) : List α := c.words ++ redF sg c.redirs
def cmdsF : List (CmdJ α) → List α
  | [] => []
  | c :: cs => cmdF sg c ++ (if cs.isEmpty = true then [] else sg [124] :: cmdsF cs)
def pipesF : List (PipeJ α) → List α
  | [] => []
  | p :: ps => (if p.iff = [] then [] else [sg p.iff]) ++ (cmdsF sg p.cmds ++ pipesF ps)
def endF (j : JobJ α) (more : Bool) : List α := if j.back = true then [sg [38]] else if more = true then [sg [59]] else []
def jobsF : List (JobJ α) → List α
  | [] => []
  | j :: js => pipesF sg j.pipes ++ (endF sg j (!js.isEmpty) ++ jobsF js)
def CmdOk (c : CmdJ α) : Prop := c.words ≠ [] ∧ (∀ w ∈ c.words, o w = []) ∧ ∀ r ∈ c.redirs, (r.1 = [60] ∨ r.1 = [62] ∨ r.1 = [62, 62]) ∧ o r.2 = []
def PipeOk (p : PipeJ α) : Prop := p.cmds ≠ [] ∧ p.cmds.length ≤ 6 ∧ ∀ c ∈ p.cmds, CmdOk o c
def LinkOk (x : List UInt8) : Prop := x = [38, 38] ∨ x = [124, 124]
def PipesOk (l : List (PipeJ α)) : Prop := l.length ≤ 6 ∧ (∀ p ∈ l, PipeOk o p) ∧ ∃ p ps, l = p :: ps ∧ p.iff = [] ∧ ∀ q ∈ ps, LinkOk q.iff
def JobsOk (l : List (JobJ α)) : Prop := l.length ≤ 8 ∧ ∀ j ∈ l, PipesOk o j.pipes
/-- Nothing more of a command stands there. -/
def Stop : List α → Prop
  | [] => True
  | t :: r => o t ≠ [] ∧ redirT o (t :: r) = false
theorem cmdP_word {F : Nat} {t : α} {r : List α} {c : CmdJ α} (h : o t = []) : cmdP o (F + 1) (t :: r) c = cmdP o F r ⟨c.words ++ [t], c.redirs⟩ := by
  simp only [cmdP]
  rw [if_pos h]
theorem cmdP_red {F : Nat} {t u : α} {r : List α} {c : CmdJ α} (h1 : ¬ o t = []) (h2 : redirT o (t :: u :: r) = true) (h3 : o u = []) : cmdP o (F + 1) (t :: u :: r) c = cmdP o F r ⟨c.words, c.redirs ++ [(o t, u)]⟩ := by
  simp only [cmdP]
  rw [if_neg h1, if_pos h2, if_pos h3]
theorem read_words : ∀ (ws r : List α) (F : Nat) (a : List α) (b : List (List UInt8 × α)), (∀ w ∈ ws, o w = []) → cmdP o (F + ws.length) (ws ++ r) ⟨a, b⟩ = cmdP o F r ⟨a ++ ws, b⟩ := by
  intro ws
  induction ws with
  | nil => intro r F a b _; simp
  | cons w ws ih =>
    intro r F a b h
    rw [List.length_cons, ← Nat.add_assoc, List.cons_append, cmdP_word o (h w (by simp)), ih r F _ b (fun x hx => h x (by simp [hx])), List.append_assoc]
    rfl
variable (hsg : ∀ x, o (sg x) = x)
include hsg
theorem read_reds : ∀ (rs : List (List UInt8 × α)) (r : List α) (F : Nat) (a : List α) (b : List (List UInt8 × α)), (∀ x ∈ rs, (x.1 = [60] ∨ x.1 = [62] ∨ x.1 = [62, 62]) ∧ o x.2 = []) → cmdP o (F + rs.length) (redF sg rs ++ r) ⟨a, b⟩ = cmdP o F r ⟨a, b ++ rs⟩ := by
  intro rs
  induction rs with
  | nil => intro r F a b _; simp [redF]
  | cons x rs ih =>
    intro r F a b h
    obtain ⟨k, w⟩ := x
    obtain ⟨h1, h2⟩ := h (k, w) (by simp)
    have e : redF sg ((k, w) :: rs) ++ r = sg k :: w :: (redF sg rs ++ r) := by simp [redF]
    have hne : ¬ o (sg k) = [] := by rw [hsg]; dsimp only at h1; rcases h1 with rfl | rfl | rfl <;> simp
    have hrd : redirT o (sg k :: w :: (redF sg rs ++ r)) = true := by
      dsimp only at h1
      simp only [redirT, isT, hsg]
      rcases h1 with rfl | rfl | rfl <;> simp
    rw [List.length_cons, ← Nat.add_assoc, e, cmdP_red o hne hrd h2, ih r F a _ (fun x hx => h x (by simp [hx])), List.append_assoc, hsg]
    rfl
theorem read_cmd (c : CmdJ α) (h : CmdOk o c) (r : List α) (hr : Stop o r) (G : Nat) (hG : c.words.length + c.redirs.length < G) : cmdP o G (cmdF sg c ++ r) ⟨[], []⟩ = (some c, r) := by
  obtain ⟨F, rfl⟩ : ∃ F, G = (F + 1 + c.redirs.length) + c.words.length := ⟨G - 1 - c.redirs.length - c.words.length, by omega⟩
  unfold cmdF
  rw [List.append_assoc, read_words o _ _ _ _ _ h.2.1, read_reds o sg hsg _ _ _ _ _ h.2.2, List.nil_append, List.nil_append]
  have hw : c.words.isEmpty = false := by
    cases hc : c.words with
    | nil => exact absurd hc h.1
    | cons a l => rfl
  cases r with
  | nil => simp only [cmdP, hw]; rfl
  | cons t r =>
    simp only [cmdP]
    rw [if_neg hr.1, hr.2, hw]
    rfl
theorem stop_sg (x : List UInt8) (r : List α) (h1 : x ≠ []) (h2 : x ≠ [60]) (h3 : x ≠ [62]) (h4 : x ≠ [62, 62]) : Stop o (sg x :: r) := by
  refine ⟨by rw [hsg]; exact h1, ?_⟩
  simp only [redirT, isT, hsg]
  simp [h2, h3, h4]
theorem read_pipe (r : List α) (hr : Stop o r) (hr2 : isT o [124] r = false) (G : Nat) : ∀ (cs : List (CmdJ α)) (F : Nat) (iff : List UInt8) (acc : List (CmdJ α)), cs ≠ [] → acc.length + cs.length ≤ 6 → (∀ c ∈ cs, CmdOk o c ∧ c.words.length + c.redirs.length < G) → cs.length ≤ F →
    pipeP o G F (cmdsF sg cs ++ r) ⟨iff, acc⟩ = (some ⟨iff, acc ++ cs⟩, r) := by
  intro cs
  induction cs with
  | nil => intro F iff acc h; exact absurd rfl h
  | cons c cs ih =>
    intro F iff acc _ h6 hc hF
    rw [List.length_cons] at h6 hF
    obtain ⟨F, rfl⟩ : ∃ F', F = F' + 1 := ⟨F - 1, by omega⟩
    obtain ⟨h1, h2⟩ := hc c (by simp)
    cases cs with
    | nil =>
      have e : cmdsF sg [c] ++ r = cmdF sg c ++ r := by simp [cmdsF]
      rw [e, pipeP, read_cmd o sg hsg c h1 r hr G h2]
      dsimp only
      rw [if_pos (.inr hr2)]
    | cons d cs =>
      have e : cmdsF sg (c :: d :: cs) ++ r = cmdF sg c ++ (sg [124] :: (cmdsF sg (d :: cs) ++ r)) := by simp [cmdsF]
      rw [e, pipeP, read_cmd o sg hsg c h1 _ (stop_sg o sg hsg [124] _ (by simp) (by simp) (by simp) (by simp)) G h2]
      dsimp only
      rw [List.length_cons] at h6 hF
      rw [if_neg (by
        rintro (h | h)
        · omega
        · simp [isT, hsg] at h)]
      rw [List.drop_succ_cons, List.drop_zero, ih F iff (acc ++ [c]) (by simp) (by simp; omega) (fun x hx => hc x (by simp [hx])) (by simp; omega), List.append_assoc]
      rfl
theorem read_job (r : List α) (hr : Stop o r) (hr2 : isT o [124] r = false) (hr3 : isT o [38, 38] r = false) (hr4 : isT o [124, 124] r = false) (G : Nat) : ∀ (ps : List (PipeJ α)) (p : PipeJ α) (F : Nat) (acc : List (PipeJ α)), acc.length + (ps.length + 1) ≤ 6 → (∀ q ∈ p :: ps, PipeOk o q ∧ 6 ≤ G ∧ ∀ c ∈ q.cmds, c.words.length + c.redirs.length < G) → (∀ q ∈ ps, LinkOk q.iff) → ps.length < F →
    jobP o G F (cmdsF sg p.cmds ++ (pipesF sg ps ++ r)) p.iff acc = (some (acc ++ p :: ps), r) := by
  intro ps
  induction ps with
  | nil =>
    intro p F acc h6 hq _ hF
    obtain ⟨F, rfl⟩ : ∃ F', F = F' + 1 := ⟨F - 1, by omega⟩
    obtain ⟨h1, h2, h3⟩ := hq p (by simp)
    rw [jobP, show pipesF sg ([] : List (PipeJ α)) ++ r = r from rfl, read_pipe o sg hsg r hr hr2 G p.cmds G p.iff [] h1.1 (by simp; exact h1.2.1) (fun c hc => ⟨h1.2.2 c hc, h3 c hc⟩) (by have := h1.2.1; omega)]
    dsimp only
    rw [if_pos (.inr ⟨hr3, hr4⟩)]
    simp
  | cons q ps ih =>
    intro p F acc h6 hq hl hF
    rw [List.length_cons] at h6 hF
    obtain ⟨F, rfl⟩ : ∃ F', F = F' + 1 := ⟨F - 1, by omega⟩
    obtain ⟨h1, h2, h3⟩ := hq p (by simp)
    have hlq := hl q (by simp)
    have hne : q.iff ≠ [] := by rcases hlq with h | h <;> rw [h] <;> simp
    have e : pipesF sg (q :: ps) ++ r = sg q.iff :: (cmdsF sg q.cmds ++ (pipesF sg ps ++ r)) := by simp [pipesF, hne]
    have hst : Stop o (sg q.iff :: (cmdsF sg q.cmds ++ (pipesF sg ps ++ r))) := by
      rcases hlq with h | h <;> rw [h] <;> exact stop_sg o sg hsg _ _ (by simp) (by simp) (by simp) (by simp)
    have h124 : isT o [124] (sg q.iff :: (cmdsF sg q.cmds ++ (pipesF sg ps ++ r))) = false := by
      rcases hlq with h | h <;> simp [isT, hsg, h]
    rw [jobP, e, read_pipe o sg hsg _ hst h124 G p.cmds G p.iff [] h1.1 (by simp; exact h1.2.1) (fun c hc => ⟨h1.2.2 c hc, h3 c hc⟩) (by have := h1.2.1; omega)]
    dsimp only
    rw [if_neg (by
      rintro (h | ⟨ha, hb⟩)
      · omega
      · simp only [isT, hsg, decide_eq_false_iff_not] at ha hb
        rcases hlq with h | h
        · exact ha h
        · exact hb h)]
    rw [List.drop_succ_cons, List.drop_zero, show opT o (sg q.iff :: (cmdsF sg q.cmds ++ (pipesF sg ps ++ r))) = q.iff from hsg _]
    rw [ih q F _ (by simp; omega) (fun x hx => hq x (by simp [hx])) (fun x hx => hl x (by simp [hx])) (by omega)]
    simp
theorem read_jobs (G : Nat) : ∀ (js : List (JobJ α)) (F : Nat) (acc : List (JobJ α)), acc.length + js.length ≤ 8 → (∀ j ∈ js, PipesOk o j.pipes ∧ 7 ≤ G ∧ ∀ q ∈ j.pipes, ∀ c ∈ q.cmds, c.words.length + c.redirs.length < G) → js.length < F →
    parseP o G F (jobsF sg js) acc = some (acc ++ js) := by
  intro js
  induction js with
  | nil =>
    intro F acc _ _ hF
    obtain ⟨F, rfl⟩ : ∃ F', F = F' + 1 := ⟨F - 1, by omega⟩
    simp [jobsF, parseP]
  | cons j js ih =>
    intro F acc h8 hj hF
    rw [List.length_cons] at h8 hF
    obtain ⟨F, rfl⟩ : ∃ F', F = F' + 1 := ⟨F - 1, by omega⟩
    obtain ⟨⟨h6, hpo, p, ps, hps, hpi, hli⟩, h7, hG⟩ := hj j (by simp)
    obtain ⟨pipes, back⟩ := j
    dsimp only at hps h6 hpo hG
    subst hps
    obtain ⟨R, hR⟩ : ∃ R, endF sg (⟨p :: ps, back⟩ : JobJ α) (!js.isEmpty) ++ jobsF sg js = R := ⟨_, rfl⟩
    have hcases : (back = true ∧ R = sg [38] :: jobsF sg js) ∨ (back = false ∧ js = [] ∧ R = []) ∨ (back = false ∧ R = sg [59] :: jobsF sg js) := by
      rw [← hR]
      cases back with
      | true => exact .inl ⟨rfl, by simp [endF]⟩
      | false =>
        cases js with
        | nil => exact .inr (.inl ⟨rfl, rfl, by simp [endF, jobsF]⟩)
        | cons x js => exact .inr (.inr ⟨rfl, by simp [endF]⟩)
    have hst : Stop o R ∧ isT o [124] R = false ∧ isT o [38, 38] R = false ∧ isT o [124, 124] R = false ∧ (R.isEmpty || (isT o [59] R || isT o [38] R)) = true ∧ isT o [38] R = back := by
      rcases hcases with ⟨hb, h⟩ | ⟨hb, _, h⟩ | ⟨hb, h⟩ <;> rw [h, hb]
      · exact ⟨stop_sg o sg hsg _ _ (by simp) (by simp) (by simp) (by simp), by simp [isT, hsg], by simp [isT, hsg], by simp [isT, hsg], by simp [isT, hsg], by simp [isT, hsg]⟩
      · exact ⟨trivial, rfl, rfl, rfl, rfl, rfl⟩
      · exact ⟨stop_sg o sg hsg _ _ (by simp) (by simp) (by simp) (by simp), by simp [isT, hsg], by simp [isT, hsg], by simp [isT, hsg], by simp [isT, hsg], by simp [isT, hsg]⟩
    obtain ⟨s1, s2, s3, s4, s5, s6⟩ := hst
    have e : jobsF sg (⟨p :: ps, back⟩ :: js) = cmdsF sg p.cmds ++ (pipesF sg ps ++ R) := by
      rw [jobsF, hR, pipesF, if_pos hpi]
      simp
    have hjb : jobP o G G (cmdsF sg p.cmds ++ (pipesF sg ps ++ R)) [] [] = (some (p :: ps), R) := by
      have := read_job o sg hsg R s1 s2 s3 s4 G ps p G [] (by rw [List.length_cons] at h6; simp; omega) (fun q hq => ⟨hpo q hq, by omega, hG q hq⟩) hli (by rw [List.length_cons] at h6; omega)
      rw [hpi] at this
      simpa using this
    rw [e]
    have hne : ∃ t l, cmdsF sg p.cmds ++ (pipesF sg ps ++ R) = t :: l := by
      have h1 := hpo p (by simp)
      cases hc : p.cmds with
      | nil => exact absurd hc h1.1
      | cons c cs =>
        have h2 := h1.2.2 c (by rw [hc]; simp)
        cases hw : c.words with
        | nil => exact absurd hw h2.1
        | cons w ws => exact ⟨w, _, by simp only [cmdsF, cmdF, hw, List.cons_append]; rfl⟩
    obtain ⟨t, l, hl⟩ := hne
    rw [hl] at hjb ⊢
    rw [parseP]
    rw [hjb]
    dsimp only
    rw [s5, if_neg (by simp), if_neg (by omega), s6]
    have hd : R.drop 1 = jobsF sg js := by
      rcases hcases with ⟨_, h⟩ | ⟨_, h0, h⟩ | ⟨_, h⟩ <;> rw [h]
      · rfl
      · rw [h0]; rfl
      · rfl
    rw [hd, ih F _ (by simp; omega) (fun x hx => hj x (by simp [hx])) (by omega), List.append_assoc]
    rfl
end
section
variable {α : Type} (o : α → List UInt8) (P : α → Prop)
/-- A command whose tokens all have a property. -/
def CmdAll (c : CmdJ α) : Prop := (∀ w ∈ c.words, P w) ∧ ∀ r ∈ c.redirs, P r.2
def JobsAll (l : List (JobJ α)) : Prop := ∀ j ∈ l, ∀ p ∈ j.pipes, ∀ c ∈ p.cmds, CmdAll P c
def Pre (c : CmdJ α) : Prop := (∀ w ∈ c.words, o w = []) ∧ (∀ r ∈ c.redirs, (r.1 = [60] ∨ r.1 = [62] ∨ r.1 = [62, 62]) ∧ o r.2 = []) ∧ CmdAll P c
theorem redirT_or {t : α} {r : List α} (h : redirT o (t :: r) = true) : o t = [60] ∨ o t = [62] ∨ o t = [62, 62] := by
  simpa [redirT, isT] using h
theorem cmdP_ok : ∀ (F : Nat) (r : List α) (c c' : CmdJ α) (r' : List α), (∀ t ∈ r, P t) → Pre o P c → cmdP o F r c = (some c', r') → CmdOk o c' ∧ CmdAll P c' ∧ (∃ n, r' = r.drop n) ∧ c'.words.length + c'.redirs.length + r'.length ≤ c.words.length + c.redirs.length + r.length := by
  intro F
  induction F with
  | zero => intro r c c' r' _ _ h; simp [cmdP] at h
  | succ F ih =>
    intro r c c' r' hP hc h
    cases r with
    | nil =>
      simp only [cmdP] at h
      split at h
      · cases h
      · rename_i hw
        cases h
        exact ⟨⟨fun e => hw (by rw [e]; rfl), hc.1, hc.2.1⟩, hc.2.2, ⟨0, rfl⟩, Nat.le_refl _⟩
    | cons t r =>
      by_cases h1 : o t = []
      · rw [cmdP_word o h1] at h
        obtain ⟨a, b, ⟨n, d⟩, e⟩ := ih r ⟨c.words ++ [t], c.redirs⟩ c' r' (fun x hx => hP x (by simp [hx])) ⟨by
          intro w hw
          rcases List.mem_append.1 hw with hw | hw
          · exact hc.1 w hw
          · rw [List.mem_singleton] at hw
            subst hw
            exact h1, hc.2.1, by
          intro w hw
          rcases List.mem_append.1 hw with hw | hw
          · exact hc.2.2.1 w hw
          · rw [List.mem_singleton] at hw
            subst hw
            exact hP _ (by simp), hc.2.2.2⟩ h
        exact ⟨a, b, ⟨n + 1, by rw [d]; rfl⟩, by simp at e ⊢; omega⟩
      · by_cases h2 : redirT o (t :: r) = true
        · cases r with
          | nil =>
            simp only [cmdP] at h
            rw [if_neg h1, if_pos h2] at h
            cases h
          | cons u r =>
            by_cases h3 : o u = []
            · rw [cmdP_red o h1 h2 h3] at h
              obtain ⟨a, b, ⟨n, d⟩, e⟩ := ih r ⟨c.words, c.redirs ++ [(o t, u)]⟩ c' r' (fun x hx => hP x (by simp [hx])) ⟨hc.1, by
                intro w hw
                rcases List.mem_append.1 hw with hw | hw
                · exact hc.2.1 w hw
                · rw [List.mem_singleton] at hw
                  subst hw
                  exact ⟨redirT_or o h2, h3⟩, hc.2.2.1, by
                intro w hw
                rcases List.mem_append.1 hw with hw | hw
                · exact hc.2.2.2 w hw
                · rw [List.mem_singleton] at hw
                  subst hw
                  exact hP _ (by simp)⟩ h
              exact ⟨a, b, ⟨n + 2, by rw [d]; rfl⟩, by simp at e ⊢; omega⟩
            · simp only [cmdP] at h
              rw [if_neg h1, if_pos h2, if_neg h3] at h
              cases h
        · simp only [cmdP] at h
          rw [if_neg h1, if_neg h2] at h
          split at h
          · cases h
          · rename_i hw
            cases h
            exact ⟨⟨fun e => hw (by rw [e]; rfl), hc.1, hc.2.1⟩, hc.2.2, ⟨0, rfl⟩, Nat.le_refl _⟩
theorem drop_all {r : List α} (h : ∀ t ∈ r, P t) (n : Nat) : ∀ t ∈ r.drop n, P t := fun t ht => h t (List.mem_of_mem_drop ht)
/-- What a command, a pipe holds: it may be, its tokens have the property, and it is no longer than the tokens were. -/
def CmdFit (N : Nat) (c : CmdJ α) : Prop := CmdOk o c ∧ CmdAll P c ∧ c.words.length + c.redirs.length ≤ N
theorem pipeP_ok (N G : Nat) : ∀ (F : Nat) (r : List α) (p p' : PipeJ α) (r' : List α), (∀ t ∈ r, P t) → r.length ≤ N → p.cmds.length ≤ 5 → (∀ c ∈ p.cmds, CmdFit o P N c) → pipeP o G F r p = (some p', r') → p'.iff = p.iff ∧ p'.cmds ≠ [] ∧ p'.cmds.length ≤ 6 ∧ (∀ c ∈ p'.cmds, CmdFit o P N c) ∧ ∃ n, r' = r.drop n := by
  intro F
  induction F with
  | zero => intro r p p' r' _ _ _ _ h; simp [pipeP] at h
  | succ F ih =>
    intro r p p' r' hP hN h5 hc h
    simp only [pipeP] at h
    cases hx : cmdP o G r ⟨[], []⟩ with
    | mk x r1 =>
      rw [hx] at h
      cases x with
      | none => cases h
      | some c =>
        obtain ⟨a, b, ⟨n, d⟩, e⟩ := cmdP_ok o P G r ⟨[], []⟩ c r1 hP ⟨by simp, by simp, by simp, by simp⟩ hx
        simp only at h
        have hcs : ∀ y ∈ p.cmds ++ [c], CmdFit o P N y := by
          intro y hy
          rcases List.mem_append.1 hy with hy | hy
          · exact hc y hy
          · rw [List.mem_singleton] at hy
            subst hy
            exact ⟨a, b, by simp at e; omega⟩
        split at h
        · cases h
          exact ⟨rfl, by simp, by simp; omega, hcs, n, d⟩
        · rename_i hno
          have hl : p.cmds.length + 1 ≠ 6 := fun e => hno (.inl e)
          obtain ⟨e1, e2, e3, e4, m, e5⟩ := ih (r1.drop 1) _ p' r' (by rw [d]; exact drop_all P (drop_all P hP n) 1) (by rw [d]; simp; omega) (by simp; omega) hcs h
          exact ⟨e1, e2, e3, e4, n + 1 + m, by rw [e5, d]; simp only [List.drop_drop]⟩
def PipeFit (N : Nat) (p : PipeJ α) : Prop := p.cmds ≠ [] ∧ p.cmds.length ≤ 6 ∧ ∀ c ∈ p.cmds, CmdFit o P N c
theorem jobP_ok (N G : Nat) : ∀ (F : Nat) (r : List α) (op : List UInt8) (ps ps' : List (PipeJ α)) (r' : List α), (∀ t ∈ r, P t) → r.length ≤ N → ps.length ≤ 5 → (∀ p ∈ ps, PipeFit o P N p) → (∀ p ∈ ps.drop 1, LinkOk p.iff) → (ps = [] → op = []) → (ps ≠ [] → LinkOk op ∧ ∃ q, ps.head? = some q ∧ q.iff = []) → jobP o G F r op ps = (some ps', r') →
    ps'.length ≤ 6 ∧ (∀ p ∈ ps', PipeFit o P N p) ∧ (∃ p l, ps' = p :: l ∧ p.iff = [] ∧ ∀ q ∈ l, LinkOk q.iff) ∧ ∃ n, r' = r.drop n := by
  intro F
  induction F with
  | zero => intro r op ps ps' r' _ _ _ _ _ _ _ h; simp [jobP] at h
  | succ F ih =>
    intro r op ps ps' r' hP hN h5 hc hl h0 h1 h
    simp only [jobP] at h
    cases hx : pipeP o G G r ⟨op, []⟩ with
    | mk x r1 =>
      rw [hx] at h
      cases x with
      | none => cases h
      | some p =>
        obtain ⟨e1, e2, e3, e4, n, e5⟩ := pipeP_ok o P N G G r ⟨op, []⟩ p r1 hP hN (by simp) (by simp) hx
        simp only at h e1
        have hcs : ∀ y ∈ ps ++ [p], PipeFit o P N y := by
          intro y hy
          rcases List.mem_append.1 hy with hy | hy
          · exact hc y hy
          · rw [List.mem_singleton] at hy
            subst hy
            exact ⟨e2, e3, e4⟩
        have hform : ∃ q l, ps ++ [p] = q :: l ∧ q.iff = [] ∧ ∀ y ∈ l, LinkOk y.iff := by
          cases ps with
          | nil => exact ⟨p, [], rfl, by rw [e1]; exact h0 rfl, by simp⟩
          | cons a l =>
            obtain ⟨g1, q, g2, g3⟩ := h1 (by simp)
            simp only [List.head?_cons, Option.some.injEq] at g2
            subst g2
            refine ⟨a, l ++ [p], rfl, g3, ?_⟩
            intro y hy
            rcases List.mem_append.1 hy with hy | hy
            · exact hl y (by simpa using hy)
            · rw [List.mem_singleton] at hy
              subst hy
              rw [e1]
              exact g1
        split at h
        · cases h
          exact ⟨by simp; omega, hcs, hform, n, e5⟩
        · rename_i hno
          have hl6 : ps.length + 1 ≠ 6 := fun e => hno (.inl e)
          have hlink : LinkOk (opT o r1) := by
            have h2 : ¬ (isT o [38, 38] r1 = false ∧ isT o [124, 124] r1 = false) := fun e => hno (.inr e)
            cases r1 with
            | nil => exact absurd ⟨rfl, rfl⟩ h2
            | cons t r1 =>
              simp only [isT, decide_eq_false_iff_not] at h2
              show LinkOk (o t)
              unfold LinkOk
              by_cases hh : o t = [38, 38]
              · exact .inl hh
              · exact .inr (Decidable.byContradiction fun hh2 => h2 ⟨hh, hh2⟩)
          obtain ⟨q, l, hq1, hq2, hq3⟩ := hform
          obtain ⟨f1, f2, f3, m, f5⟩ := ih (r1.drop 1) (opT o r1) (ps ++ [p]) ps' r' (by rw [e5]; exact drop_all P (drop_all P hP n) 1) (by rw [e5]; simp; omega) (by simp; omega) hcs (by rw [hq1]; simpa using hq3) (by simp) (fun _ => ⟨hlink, q, by rw [hq1]; rfl, hq2⟩) h
          exact ⟨f1, f2, f3, n + 1 + m, by rw [f5, e5]; simp only [List.drop_drop]⟩
def JobFit (N : Nat) (j : JobJ α) : Prop := j.pipes.length ≤ 6 ∧ (∀ p ∈ j.pipes, PipeFit o P N p) ∧ ∃ p l, j.pipes = p :: l ∧ p.iff = [] ∧ ∀ q ∈ l, LinkOk q.iff
theorem parseP_ok (N G : Nat) : ∀ (F : Nat) (r : List α) (js js' : List (JobJ α)), (∀ t ∈ r, P t) → r.length ≤ N → js.length ≤ 8 → (∀ j ∈ js, JobFit o P N j) → parseP o G F r js = some js' → js'.length ≤ 8 ∧ ∀ j ∈ js', JobFit o P N j := by
  intro F
  induction F with
  | zero => intro r js js' _ _ _ _ h; simp [parseP] at h
  | succ F ih =>
    intro r js js' hP hN h8 hj h
    cases r with
    | nil => simp only [parseP, Option.some.injEq] at h; subst h; exact ⟨h8, hj⟩
    | cons t r =>
      simp only [parseP] at h
      cases hx : jobP o G G (t :: r) [] [] with
      | mk x r1 =>
        rw [hx] at h
        cases x with
        | none => cases h
        | some ps =>
          obtain ⟨f1, f2, f3, n, f5⟩ := jobP_ok o P N G G (t :: r) [] [] ps r1 hP hN (by simp) (by simp) (by simp) (fun _ => rfl) (fun h => absurd rfl h) hx
          simp only at h
          split at h
          · cases h
          · split at h
            · cases h
            · rename_i hne
              refine ih (r1.drop 1) _ js' (by rw [f5]; exact drop_all P (drop_all P hP n) 1) (by rw [f5]; simp at hN ⊢; omega) (by simp; omega) ?_ h
              intro y hy
              rcases List.mem_append.1 hy with hy | hy
              · exact hj y hy
              · rw [List.mem_singleton] at hy
                subst hy
                exact ⟨f1, f2, f3⟩
theorem JobFit.ok {N : Nat} {j : JobJ α} (h : JobFit o P N j) : PipesOk o j.pipes := by
  obtain ⟨h1, h2, h3⟩ := h
  exact ⟨h1, fun p hp => ⟨(h2 p hp).1, (h2 p hp).2.1, fun c hc => ((h2 p hp).2.2 c hc).1⟩, h3⟩
end
end Go.Proofs.YtjbgkcljjgofnaaDoor
