/- What is known of jobs out of a line: how long, how they lie; for the walks of ShellBack and ShellWhole. -/
import Derived.Test.YtjbgkcljjgofnaaDoorShPlain
namespace Go.Proofs.YtjbgkcljjgofnaaDoor
open Go.RowKit
set_option linter.unusedVariables false

theorem flat_bound {α : Type} (f : α → List UInt8) (M : Nat) : ∀ l : List α, (∀ x ∈ l, (f x).length ≤ M) → (l.flatMap f).length ≤ l.length * M := by
  intro l
  induction l with
  | nil => intro _; simp
  | cons x l ih =>
    intro h
    have h1 := h x (by simp)
    have h2 := ih (fun y hy => h y (by simp [hy]))
    rw [List.flatMap_cons, List.length_append, List.length_cons, Nat.succ_mul]
    omega
theorem partB_len (p : PartD) : (partB p).length ≤ 4 * p.text.length + 4 := by
  have := escQ_len p.text
  obtain ⟨x, v, u⟩ := p
  cases v <;> cases u <;> simp [partB, quoteL] at this ⊢ <;> omega
theorem wordK_len (w : World) (x : Tk) (h : GoodK w x) : (wordK x).length ≤ 5000000 := by
  obtain ⟨A', c', h1, h2, h3, h4⟩ := h
  have hb := flat_bound partB 4004 x.1.parts (fun p hp => Nat.le_trans (partB_len p) (by have := h4 p hp; omega))
  have hm : x.1.parts.length * 4004 ≤ 1000 * 4004 := Nat.mul_le_mul_right _ h3
  show (x.1.parts.flatMap partB ++ [44]).length ≤ 5000000
  rw [List.length_append]
  simp only [List.length_cons, List.length_nil]
  omega
theorem cmdK_len (w : World) (N : Nat) (hN : N ≤ 1000) (c : CmdJ Tk) (h : CmdFit oT (GoodK w) N c) : (cmdK c).length ≤ 6000000000 := by
  have h1 := flat_bound wordK 5000000 c.words (fun x hx => wordK_len w x (h.2.1.1 x hx))
  have h2 := flat_bound redK 5000002 c.redirs (fun r hr => by
    have a := wordK_len w r.2 (h.2.1.2 r hr)
    have b : r.1.length ≤ 2 := by rcases (h.1.2.2 r hr).1 with e | e | e <;> rw [e] <;> decide
    show (r.1 ++ wordK r.2).length ≤ 5000002
    rw [List.length_append]
    omega)
  have h3 := h.2.2
  show ([40] ++ (c.words.flatMap wordK ++ (c.redirs.flatMap redK ++ [41]))).length ≤ _
  simp only [List.length_append, List.length_cons, List.length_nil]
  omega
theorem pipeK_len (w : World) (N : Nat) (hN : N ≤ 1000) (p : PipeJ Tk) (h : PipeFit oT (GoodK w) N p) (hi : p.iff.length ≤ 2) : (pipeK p).length ≤ 36000000010 := by
  have h1 := flat_bound cmdK 6000000000 p.cmds (fun c hc => cmdK_len w N hN c (h.2.2 c hc))
  have h2 : p.cmds.length * 6000000000 ≤ 6 * 6000000000 := Nat.mul_le_mul_right _ h.2.1
  show (([91] ++ p.iff) ++ (p.cmds.flatMap cmdK ++ [93])).length ≤ _
  simp only [List.length_append, List.length_cons, List.length_nil]
  omega
theorem jobK_len (w : World) (N : Nat) (hN : N ≤ 1000) (j : JobJ Tk) (h : JobFit oT (GoodK w) N j) : (jobK j).length ≤ 216000000070 := by
  obtain ⟨h1, h2, p, ps, h3, h4, h5⟩ := h
  have h6 := flat_bound pipeK 36000000010 j.pipes (fun q hq => pipeK_len w N hN q (h2 q hq) (by
    rw [h3] at hq
    rcases List.mem_cons.1 hq with rfl | hq
    · rw [h4]; decide
    · rcases h5 q hq with e | e <;> rw [e] <;> decide))
  have h7 : j.pipes.length * 36000000010 ≤ 6 * 36000000010 := Nat.mul_le_mul_right _ h1
  have h8 : (if j.back = true then [38] else ([] : List UInt8)).length ≤ 1 := by split <;> decide
  show (j.pipes.flatMap pipeK ++ ((if j.back = true then [38] else []) ++ [59])).length ≤ _
  simp only [List.length_append, List.length_cons, List.length_nil]
  omega
theorem plain_len (w : World) (N : Nat) (hN : N ≤ 1000) (js : List (JobJ Tk)) (h8 : js.length ≤ 8) (h : ∀ j ∈ js, JobFit oT (GoodK w) N j) : (js.flatMap jobK).length ≤ 100000000000000 := by
  have h1 := flat_bound jobK 216000000070 js (fun j hj => jobK_len w N hN j (h j hj))
  have h2 : js.length * 216000000070 ≤ 8 * 216000000070 := Nat.mul_le_mul_right _ h8
  omega
theorem GoodK.ext {w w' : World} {x : Tk} (h : GoodK w x) (hx : Ext w w') : GoodK w' x := by
  obtain ⟨A', c', h1, h2, h3, h4⟩ := h
  exact ⟨A', c', h1, (hx.reads h2 (Nat.le_refl _)).more hx.size, h3, h4⟩
theorem JobFit.good {w w' : World} {N : Nat} {j : JobJ Tk} (h : JobFit oT (GoodK w) N j) (hx : Ext w w') : JobFit oT (GoodK w') N j :=
  ⟨h.1, fun p hp => ⟨(h.2.1 p hp).1, (h.2.1 p hp).2.1, fun c hc => ⟨((h.2.1 p hp).2.2 c hc).1, ⟨fun x hx' => (((h.2.1 p hp).2.2 c hc).2.1.1 x hx').ext hx, fun r hr => (((h.2.1 p hp).2.2 c hc).2.1.2 r hr).ext hx⟩, ((h.2.1 p hp).2.2 c hc).2.2⟩⟩, h.2.2⟩
/-- All that is known of jobs that came out of a line of at most N tokens. -/
structure JobsOk' (w : World) (N : Nat) (js : List (JobJ Tk)) : Prop where
  eight : js.length ≤ 8
  tok : ∀ j ∈ js, JobFit oT (fun x => TokOk x.1) N j
  good : ∀ j ∈ js, JobFit oT (GoodK w) N j
  cnt : cntJs js ≤ N + 1
theorem JobsOk'.ext {w w' : World} {N : Nat} {js : List (JobJ Tk)} (h : JobsOk' w N js) (hx : Ext w w') : JobsOk' w' N js := ⟨h.eight, h.tok, fun j hj => (h.good j hj).good hx, h.cnt⟩
theorem jobs_ok (w w' : World) (B N : Nat) (s : List UInt8) (ms : List TokD) (hs : s.length ≤ 200) (hsp : splitD s = .ok ms) (htok : ∀ t ∈ ms, TokOk t) (hN : ms.length ≤ N) (ls : List Tk) (hls : ls.map (·.1) = ms) (hpt : ∀ x ∈ ls, PartsAt w' B x) (js : List (JobJ Tk)) (h : parseP oT 300 300 ls [] = some js) : JobsOk' w' N js := by
  have hln : ls.length ≤ N := by rw [← hls] at hN; simpa using hN
  have hmem : ∀ x ∈ ls, x.1 ∈ ms := fun x hx => by rw [← hls]; exact List.mem_map.2 ⟨x, hx, rfl⟩
  have htk := parsed_fit N 300 300 ls (fun x hx => htok _ (hmem x hx)) hln js h
  have hgd := parseP_ok oT (GoodK w') N 300 300 ls [] js (fun x hx => by
    obtain ⟨A', c', h1, h2⟩ := hpt x hx
    have hsm := splitD_small hsp x.1 (hmem x hx)
    exact ⟨A', c', h1, Reads.of_own h2, by have := hsm.1; omega, fun p hp => by have := hsm.2 p hp; omega⟩) hln (by simp) (by simp) h
  have hct := parseP_cnt oT 300 300 ls [] js h
  refine ⟨htk.1, htk.2, hgd.2, ?_⟩
  simp only [cntJs] at hct
  split at hct <;> omega
theorem short_fit (N : Nat) (ls : List Tk) (hln : ls.length ≤ N) (hsh : ∀ x ∈ ls, ShortK x) (js : List (JobJ Tk)) (h : parseP oT 300 300 ls [] = some js) : ∀ j ∈ js, JobFit oT ShortK N j :=
  (parseP_ok oT ShortK N 300 300 ls [] js hsh hln (by simp) (by simp) h).2
/-- The shape of jobs. -/
def shp {α : Type} (js : List (JobJ α)) : List (List Nat × Bool) := js.map fun j => (j.pipes.map fun p => p.cmds.length, j.back)
theorem shp_map {α β : Type} (g : α → β) (js : List (JobJ α)) : shp (js.map (JobJ.map g)) = shp js := by
  simp [shp, JobJ.map, PipeJ.map, Function.comp]
def oneT : List TokD := [⟨[], [⟨[97], false, false⟩], 0⟩, ⟨[124], [], 2⟩, ⟨[], [⟨[98], false, false⟩], 4⟩, ⟨[62], [], 6⟩, ⟨[], [⟨[99], false, false⟩], 8⟩, ⟨[38, 38], [], 10⟩, ⟨[], [⟨[100], false, false⟩], 13⟩, ⟨[38], [], 15⟩]
theorem split_one : splitD [97, 32, 124, 32, 98, 32, 62, 32, 99, 32, 38, 38, 32, 100, 32, 38] = .ok oneT := by kernel_rfl
theorem split_a : splitD [97] = .ok [⟨[], [⟨[97], false, false⟩], 0⟩] := by kernel_rfl
theorem shape_of (ls : List Tk) (ts : List TokD) (h : ls.map (·.1) = ts) (F : List (List Nat × Bool)) (hF : (parseP TokD.op 300 300 ts []).map shp = some F) : ∃ js, parseP oT 300 300 ls [] = some js ∧ shp js = F := by
  have hp := parseP_map (fun x : Tk => x.1) oT TokD.op (fun _ => rfl) 300 300 ls []
  rw [List.map_nil, h] at hp
  rw [hp] at hF
  cases hx : parseP oT 300 300 ls [] with
  | none => rw [hx] at hF; cases hF
  | some js =>
    rw [hx] at hF
    exact ⟨js, rfl, by have := Option.some.inj hF; rwa [shp_map] at this⟩
theorem shp_one : (parseP TokD.op 300 300 oneT []).map shp = some [([2, 1], true)] := by kernel_rfl
theorem shp_a : (parseP TokD.op 300 300 [⟨[], [⟨[97], false, false⟩], 0⟩] []).map shp = some [([1], false)] := by kernel_rfl
theorem jobs_len {w : World} {B n c : Nat} {A : Option Addr} {js : List (JobJ Tk)} {vs : List JobV} (h : JobsAt w B js A n c vs) : js.length = n ∧ vs.length = n := by
  have hv : vs.length = n := flat_len jobVC_len (by omega) (Reads.of_own h.row)
  exact ⟨by rw [← h.map, List.length_map, hv], hv⟩
/-- A job's flag, in memory. -/
theorem back_cell {w : World} {B n c b off : Nat} {js : List (JobJ Tk)} {vs : List JobV} (h : JobsAt w B js (some ⟨b, off, none⟩) n c vs) (i : Nat) (hi : i < js.length) : w.cell? ⟨b, off + i * 2 + 1, none⟩ = some (.bool js[i].back) := by
  obtain ⟨h1, h2⟩ := jobs_len h
  have hiv : i < vs.length := by omega
  have e : js[i].back = vs[i].j.back := by
    have := h.map
    subst this
    simp
  rw [e]
  exact Reads.elem jobVC_len (Reads.of_own h.row) i hiv (by omega) 1 (by omega) rfl
theorem one_cells {w : World} {B n c : Nat} {A : Option Addr} {js : List (JobJ Tk)} {vs : List JobV} (h : JobsAt w B js A n c vs) (hs : shp js = [([2, 1], true)]) :
    n = 1 ∧ ∃ b off, A = some ⟨b, off, none⟩ ∧ w.cell? ⟨b, off + 1, none⟩ = some (.bool true) ∧ ∃ b2 off2 c2, w.cell? ⟨b, off, none⟩ = some (.slice (some ⟨b2, off2, none⟩) 2 c2) ∧ ∃ A3 c3, w.cell? ⟨b2, off2 + 1, none⟩ = some (.slice A3 2 c3) := by
  obtain ⟨h1, h2⟩ := jobs_len h
  have hl : js.length = 1 := by have := congrArg List.length hs; simpa [shp] using this
  obtain rfl : n = 1 := by omega
  refine ⟨rfl, ?_⟩
  obtain ⟨b, off, rfl, -⟩ := (Reads.of_own h.row).addr (by omega) (by omega)
  match js, hl with
  | [j], _ =>
    simp only [shp, List.map_cons, List.map_nil, List.cons.injEq, and_true, Prod.mk.injEq] at hs
    obtain ⟨hp, hb⟩ := hs
    have hbk := back_cell h 0 (by simp)
    simp only [List.getElem_cons_zero, hb, Nat.zero_mul, Nat.add_zero] at hbk
    refine ⟨b, off, rfl, hbk, ?_⟩
    have hv0 := h.each vs[0] (List.getElem_mem (by omega))
    have hj0 : vs[0].j = j := by
      have := congrArg (fun l => l[0]?) h.map
      simpa [h2] using this
    have q0 := Reads.elem jobVC_len (Reads.of_own h.row) 0 (by omega) (by omega) 0 (by omega) (u := .slice vs[0].A vs[0].n vs[0].c) rfl
    simp only [Nat.zero_mul, Nat.add_zero] at q0
    generalize vs[0] = v at *
    obtain ⟨j', Ap, np, cp, us⟩ := v
    dsimp only at hj0 q0
    subst hj0
    obtain ⟨hv1, -⟩ := hv0
    dsimp only at hv1
    have hul : us.length = np := flat_len pipeVC_len (by omega) (Reads.of_own hv1.row)
    have hpl : j'.pipes.length = 2 := by have := congrArg List.length hp; simpa using this
    have hup : us.length = 2 := by rw [← hpl, ← hv1.map, List.length_map]
    obtain rfl : np = 2 := by omega
    obtain ⟨b2, off2, rfl, -⟩ := (Reads.of_own hv1.row).addr (by omega) (by omega)
    refine ⟨b2, off2, cp, q0, ?_⟩
    have hu0 := hv1.each us[0] (List.getElem_mem (by omega))
    have r1 := Reads.elem pipeVC_len (Reads.of_own hv1.row) 0 (by omega) (by omega) 1 (by omega) (u := .slice us[0].A us[0].n us[0].c) rfl
    simp only [Nat.zero_mul, Nat.add_zero] at r1
    have hp0 : us[0].p.cmds.length = 2 := by
      rw [← hv1.map, List.map_map] at hp
      have := congrArg (fun l => l[0]?) hp
      simpa [hup] using this
    have hms : us[0].vs.length = us[0].n := flat_len cmdVC_len (by omega) (Reads.of_own hu0.1.row)
    have hn2 : us[0].n = 2 := by rw [← hms, ← hp0, ← hu0.1.map, List.length_map]
    rw [hn2] at r1
    exact ⟨_, _, r1⟩
end Go.Proofs.YtjbgkcljjgofnaaDoor
