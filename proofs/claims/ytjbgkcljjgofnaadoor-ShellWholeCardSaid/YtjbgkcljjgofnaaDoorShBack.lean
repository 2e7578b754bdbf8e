/- Jobs that are printed are read so, over lines of text: the plain law behind ShellBack and ShellWhole, second half. Plain theorems, no condition. -/
import Derived.Test.YtjbgkcljjgofnaaDoorShTok
import Derived.Test.YtjbgkcljjgofnaaDoorWRead
namespace Go.Proofs.YtjbgkcljjgofnaaDoor
open Go.RowKit
set_option linter.unusedVariables false

/-- What of a token counts: not where it stood. -/
abbrev Bare := List UInt8 × List PartD
def bareT (t : TokD) : Bare := (t.op, t.parts)
def bareK (x : Tk) : Bare := bareT x.1
def oB (x : Bare) : List UInt8 := x.1
/-- A sign as a token. -/
def sgK (x : List UInt8) : Tk := (⟨x, [], 0⟩, .slice none 0 0)
theorem oB_bare (x : Tk) : oB (bareK x) = oT x := rfl
theorem oT_sg (x : List UInt8) : oT (sgK x) = x := rfl
/-- Jobs as tokens, and as a line. -/
def toksJ (js : List (JobJ Tk)) : List TokD := (jobsF sgK js).map (·.1)
def lineJ (js : List (JobJ Tk)) : List UInt8 := joinS ((toksJ js).map printTok)
def bareJ (js : List (JobJ Tk)) : List (JobJ Bare) := js.map (JobJ.map bareK)
theorem bare_map (ls : List Tk) : ls.map bareK = (ls.map (·.1)).map bareT := by rw [List.map_map]; rfl
/-- Two lists of tokens that are alike, but for where they stood, are parsed alike. -/
theorem parse_alike (G F : Nat) (ls ms : List Tk) (h : (ls.map (·.1)).map bareT = (ms.map (·.1)).map bareT) : (parseP oT G F ls []).map bareJ = (parseP oT G F ms []).map bareJ := by
  have h1 := parseP_map bareK oT oB oB_bare G F ls []
  have h2 := parseP_map bareK oT oB oB_bare G F ms []
  rw [bare_map, h, ← bare_map] at h1
  rw [List.map_nil] at h1 h2
  exact h1.symm.trans h2
theorem tok_bare {t u : TokD} (h : bareT t = bareT u) (ht : TokOk t) : TokOk u := by
  obtain ⟨o, p, a⟩ := t
  obtain ⟨o', p', a'⟩ := u
  injection h with h1 h2
  dsimp only at h1 h2
  subst h1 h2
  exact ht
theorem toks_bare {l m : List TokD} (h : l.map bareT = m.map bareT) (hl : ∀ t ∈ l, TokOk t) : ∀ t ∈ m, TokOk t := by
  intro u hu
  obtain ⟨i, hi⟩ := List.mem_iff_getElem?.1 hu
  have := congrArg (fun x => x[i]?) h
  simp only [List.getElem?_map, hi, Option.map_some] at this
  cases hl2 : l[i]? with
  | none => rw [hl2] at this; cases this
  | some t =>
    rw [hl2] at this
    exact tok_bare (Option.some.inj this) (hl t (List.mem_of_getElem? hl2))
theorem link_op {x : List UInt8} (h : LinkOk x) : x ∈ opsL := by
  rcases h with rfl | rfl <;> decide
theorem sign_ok {x : List UInt8} (h : x ∈ opsL) : TokOk (sgK x).1 := .inl ⟨h, rfl⟩
section
variable {N : Nat}
theorem cmd_toks {c : CmdJ Tk} (h : CmdFit oT (fun x => TokOk x.1) N c) : ∀ t ∈ cmdF sgK c, TokOk t.1 := by
  intro t ht
  unfold cmdF redF at ht
  rcases List.mem_append.1 ht with ht | ht
  · exact h.2.1.1 t ht
  · obtain ⟨r, hr, ht⟩ := List.mem_flatMap.1 ht
    simp only [List.mem_cons, List.not_mem_nil, or_false] at ht
    rcases ht with rfl | rfl
    · refine sign_ok ?_
      rcases (h.1.2.2 r hr).1 with e | e | e <;> rw [e] <;> decide
    · exact h.2.1.2 r hr
theorem cmds_toks : ∀ (cs : List (CmdJ Tk)), (∀ c ∈ cs, CmdFit oT (fun x => TokOk x.1) N c) → ∀ t ∈ cmdsF sgK cs, TokOk t.1 := by
  intro cs
  induction cs with
  | nil => intro _ t ht; cases ht
  | cons c cs ih =>
    intro h t ht
    unfold cmdsF at ht
    rcases List.mem_append.1 ht with ht | ht
    · exact cmd_toks (h c (by simp)) t ht
    · split at ht
      · cases ht
      · rcases List.mem_cons.1 ht with rfl | ht
        · exact sign_ok (by decide)
        · exact ih (fun x hx => h x (by simp [hx])) t ht
theorem pipes_toks : ∀ (ps : List (PipeJ Tk)), (∀ p ∈ ps, PipeFit oT (fun x => TokOk x.1) N p ∧ (p.iff = [] ∨ LinkOk p.iff)) → ∀ t ∈ pipesF sgK ps, TokOk t.1 := by
  intro ps
  induction ps with
  | nil => intro _ t ht; cases ht
  | cons p ps ih =>
    intro h t ht
    unfold pipesF at ht
    rcases List.mem_append.1 ht with ht | ht
    · split at ht
      · cases ht
      · rename_i hne
        rw [List.mem_singleton] at ht
        subst ht
        rcases (h p (by simp)).2 with e | e
        · exact absurd e hne
        · exact sign_ok (link_op e)
    · rcases List.mem_append.1 ht with ht | ht
      · exact cmds_toks p.cmds (h p (by simp)).1.2.2 t ht
      · exact ih (fun x hx => h x (by simp [hx])) t ht
theorem jobs_toks : ∀ (js : List (JobJ Tk)), (∀ j ∈ js, JobFit oT (fun x => TokOk x.1) N j) → ∀ t ∈ jobsF sgK js, TokOk t.1 := by
  intro js
  induction js with
  | nil => intro _ t ht; cases ht
  | cons j js ih =>
    intro h t ht
    unfold jobsF endF at ht
    rcases List.mem_append.1 ht with ht | ht
    · obtain ⟨_, h2, p, l, hp, h3, h4⟩ := h j (by simp)
      refine pipes_toks j.pipes (fun q hq => ⟨h2 q hq, ?_⟩) t ht
      rw [hp] at hq
      rcases List.mem_cons.1 hq with rfl | hq
      · exact .inl h3
      · exact .inr (h4 q hq)
    · rcases List.mem_append.1 ht with ht | ht
      · split at ht
        · rw [List.mem_singleton] at ht
          subst ht
          exact sign_ok (by decide)
        · split at ht
          · rw [List.mem_singleton] at ht
            subst ht
            exact sign_ok (by decide)
          · cases ht
      · exact ih (fun x hx => h x (by simp [hx])) t ht
end
/-- The law: jobs that may be are printed as a line that is read and parsed to the same. -/
theorem line_law (N G F : Nat) (hG : N < G) (hG7 : 7 ≤ G) (hF : 8 < F) (js : List (JobJ Tk)) (h8 : js.length ≤ 8) (hfit : ∀ j ∈ js, JobFit oT (fun x => TokOk x.1) N j) :
    ∃ ms, splitD (lineJ js) = .ok ms ∧ (∀ t ∈ ms, TokOk t) ∧ ∀ us : List Tk, us.map (·.1) = ms → ∃ ks, parseP oT G F us [] = some ks ∧ bareJ ks = bareJ js := by
  have htok := jobs_toks js hfit
  have htj : ∀ t ∈ toksJ js, TokOk t := by
    intro t ht
    obtain ⟨x, hx, rfl⟩ := List.mem_map.1 ht
    exact htok x hx
  obtain ⟨ms, h1, h2⟩ := read_back_line (toksJ js) htj
  have h2' : ms.map bareT = (toksJ js).map bareT := h2
  refine ⟨ms, h1, toks_bare h2'.symm htj, fun us hus => ?_⟩
  have hp := read_jobs oT sgK oT_sg G js F [] (by simp; omega) (fun j hj => ⟨(hfit j hj).ok, by omega, fun q hq c hc => by
    have := ((hfit j hj).2.1 q hq).2.2 c hc
    have := this.2.2
    omega⟩) (by omega)
  rw [List.nil_append] at hp
  have ha := parse_alike G F us (jobsF sgK js) (by rw [hus, h2']; rfl)
  rw [hp] at ha
  cases hk : parseP oT G F us [] with
  | none => rw [hk] at ha; cases ha
  | some ks =>
    rw [hk] at ha
    exact ⟨ks, rfl, Option.some.inj ha⟩
theorem parsed_fit (N G F : Nat) (ls : List Tk) (hls : ∀ x ∈ ls, TokOk x.1) (hN : ls.length ≤ N) (js : List (JobJ Tk)) (h : parseP oT G F ls [] = some js) : js.length ≤ 8 ∧ ∀ j ∈ js, JobFit oT (fun x => TokOk x.1) N j :=
  parseP_ok oT (fun x => TokOk x.1) N G F ls [] js hls hN (by simp) (by simp) h
theorem jobsF_app {α : Type} (sg : List UInt8 → α) (ks : List (JobJ α)) (hk : ks ≠ []) : ∀ (js : List (JobJ α)), js ≠ [] → (js.getLast?.map JobJ.back) = some false → jobsF sg (js ++ ks) = jobsF sg js ++ (sg [59] :: jobsF sg ks) := by
  intro js
  induction js with
  | nil => intro h; exact absurd rfl h
  | cons j js ih =>
    intro _ hl
    cases js with
    | nil =>
      have hb : j.back = false := by simpa using hl
      have he : ks.isEmpty = false := by cases ks with | nil => exact absurd rfl hk | cons a l => rfl
      simp [jobsF, endF, hb, he]
    | cons i js =>
      have hl' : (List.getLast? (i :: js)).map JobJ.back = some false := by rw [← hl, List.getLast?_cons_cons]
      rw [List.cons_append, jobsF, ih (by simp) hl']
      simp [jobsF]
theorem joinS_app (b : List (List UInt8)) (hb : b ≠ []) : ∀ (a : List (List UInt8)), a ≠ [] → joinS (a ++ b) = joinS a ++ (32 :: joinS b) := by
  intro a
  induction a with
  | nil => intro h; exact absurd rfl h
  | cons x a ih =>
    intro _
    cases a with
    | nil => cases b with | nil => exact absurd rfl hb | cons y b => simp [joinS]
    | cons z a => simpa [joinS] using ih (by simp)
theorem toks_ne (js : List (JobJ Tk)) (h : js ≠ []) (N : Nat) (hfit : ∀ j ∈ js, JobFit oT (fun x => TokOk x.1) N j) : (toksJ js).map printTok ≠ [] := by
  cases js with
  | nil => exact absurd rfl h
  | cons j js =>
    obtain ⟨_, h2, p, l, hp, _, _⟩ := hfit j (by simp)
    have h3 := h2 p (by rw [hp]; simp)
    cases hc : p.cmds with
    | nil => exact absurd hc h3.1
    | cons c cs =>
      have h4 := (h3.2.2 c (by rw [hc]; simp)).1.1
      cases hw : c.words with
      | nil => exact absurd hw h4
      | cons w ws => simp [toksJ, jobsF, pipesF, cmdsF, cmdF, hp, hc, hw]
/-- Two printed lines with a sign between them are the line of all the jobs. -/
theorem line_app (N : Nat) (js ks : List (JobJ Tk)) (hj : js ≠ []) (hk : ks ≠ []) (hfj : ∀ j ∈ js, JobFit oT (fun x => TokOk x.1) N j) (hfk : ∀ j ∈ ks, JobFit oT (fun x => TokOk x.1) N j) (hl : (js.getLast?.map JobJ.back) = some false) :
    lineJ (js ++ ks) = lineJ js ++ ([32, 59, 32] ++ lineJ ks) := by
  have e : (toksJ (js ++ ks)).map printTok = (toksJ js).map printTok ++ ([59] :: (toksJ ks).map printTok) := by
    unfold toksJ
    rw [jobsF_app sgK ks hk js hj hl]
    simp only [List.map_append, List.map_cons]
    rfl
  unfold lineJ
  rw [e, joinS_app _ (by simp) _ (toks_ne js hj N hfj), show ([59] :: (toksJ ks).map printTok) = [[59]] ++ (toksJ ks).map printTok from rfl, joinS_app _ (toks_ne ks hk N hfk) [[59]] (by simp)]
  rfl
/-- The words of a line of raw numbers, as texts and as tokens. -/
def textL : List (List UInt8) := [[97], [98], [39, 99, 32, 100, 39], [36, 120], [124], [38, 38], [124, 124], [59], [38], [60], [62], [62, 62], [34, 36, 121, 34], [119]]
def tokL : List TokD := [⟨[], [⟨[97], false, false⟩], 0⟩, ⟨[], [⟨[98], false, false⟩], 0⟩, ⟨[], [⟨[99, 32, 100], false, true⟩], 0⟩, ⟨[], [⟨[120], true, false⟩], 0⟩, ⟨[124], [], 0⟩, ⟨[38, 38], [], 0⟩, ⟨[124, 124], [], 0⟩, ⟨[59], [], 0⟩, ⟨[38], [], 0⟩, ⟨[60], [], 0⟩, ⟨[62], [], 0⟩, ⟨[62, 62], [], 0⟩, ⟨[], [⟨[121], true, true⟩], 0⟩, ⟨[], [⟨[119], false, false⟩], 0⟩]
theorem tokL_print : tokL.map printTok = textL := by kernel_rfl
theorem tokL_ok : ∀ t ∈ tokL, TokOk t := by
  have word : ∀ (x : List UInt8) (v q : Bool), chainOk [⟨x, v, q⟩] = true → firstOk [⟨x, v, q⟩] = true → (∀ c ∈ x, 32 ≤ c.toNat ∧ c.toNat ≤ 126) → TokOk ⟨[], [⟨x, v, q⟩], 0⟩ := fun x v q h1 h2 h3 =>
    .inr ⟨rfl, by simp, h1, h2, by intro p hp; rw [List.mem_singleton] at hp; subst hp; exact h3⟩
  intro t ht
  simp only [tokL, List.mem_cons, List.not_mem_nil, or_false] at ht
  rcases ht with rfl | rfl | rfl | rfl | rfl | rfl | rfl | rfl | rfl | rfl | rfl | rfl | rfl | rfl
  · exact word _ _ _ (by decide) (by decide) (by decide)
  · exact word _ _ _ (by decide) (by decide) (by decide)
  · exact word _ _ _ (by decide) (by decide) (by decide)
  · exact word _ _ _ (by decide) (by decide) (by decide)
  · exact .inl ⟨by decide, rfl⟩
  · exact .inl ⟨by decide, rfl⟩
  · exact .inl ⟨by decide, rfl⟩
  · exact .inl ⟨by decide, rfl⟩
  · exact .inl ⟨by decide, rfl⟩
  · exact .inl ⟨by decide, rfl⟩
  · exact .inl ⟨by decide, rfl⟩
  · exact .inl ⟨by decide, rfl⟩
  · exact word _ _ _ (by decide) (by decide) (by decide)
  · exact word _ _ _ (by decide) (by decide) (by decide)
def lineN (l : List Nat) : List UInt8 := joinS (l.map fun i => textL.getD i [])
/-- A line of raw numbers is read as tokens that may be, one a number. -/
theorem line_split (l : List Nat) (hl : ∀ i ∈ l, i < 14) : ∃ ms, splitD (lineN l) = .ok ms ∧ (∀ t ∈ ms, TokOk t) ∧ ms.length = l.length := by
  have e : (l.map fun i => textL.getD i []) = (l.map fun i => tokL.getD i ⟨[59], [], 0⟩).map printTok := by
    rw [List.map_map]
    refine List.map_congr_left fun i hi => ?_
    have h14 : i < tokL.length := hl i hi
    rw [← tokL_print]
    simp only [Function.comp, List.getD_eq_getElem?_getD, List.getElem?_map, List.getElem?_eq_getElem h14, Option.map_some, Option.getD_some]
  have hok : ∀ t ∈ l.map fun i => tokL.getD i ⟨[59], [], 0⟩, TokOk t := by
    intro t ht
    obtain ⟨i, hi, rfl⟩ := List.mem_map.1 ht
    have h14 : i < tokL.length := hl i hi
    rw [List.getD_eq_getElem?_getD, List.getElem?_eq_getElem h14]
    exact tokL_ok _ (List.getElem_mem h14)
  obtain ⟨ms, h1, h2⟩ := read_back_line _ hok
  have h2' : ms.map bareT = (l.map fun i => tokL.getD i ⟨[59], [], 0⟩).map bareT := h2
  refine ⟨ms, by unfold lineN; rw [e]; exact h1, toks_bare h2'.symm hok, ?_⟩
  have := congrArg List.length h2'
  simpa using this
end Go.Proofs.YtjbgkcljjgofnaaDoor
