/- The plain law ShellPlan: each child has just its ends, and the shell has what it had. Plain theorems, no condition. -/
import Derived.Test.YtikpdhkjkmbomaaPlP
namespace Go.Proofs.Ytikpdhkjkmbomaa
open Go.RowKit
set_option linter.unusedVariables false

def pre (S : List StepD) (m : MkD) : MkD := { m with steps := S ++ m.steps }
section
variable (S : List StepD) (m : MkD)
theorem step_pre (c : CallD) : stepM (pre S m) c = pre S (stepM m c) := by simp [stepM, pre]
theorem least_pre : leastM (pre S m) = pre S (leastM m) := by
  unfold leastM
  show (if 0 ≤ freeI m.hv then _ else _) = _
  split <;> rfl
theorem shut_pre (n : Int) : shutM (pre S m) n = pre S (shutM m n) := by
  unfold shutM
  show (if 0 ≤ n ∧ m.hv n.toNat = true then _ else _) = _
  split
  · rw [step_pre]; rfl
  · rfl
theorem turn_pre (x : Int) (y : Nat) : turnM (pre S m) x y = pre S (turnM m x y) := by
  unfold turnM
  split
  · rfl
  · rw [step_pre]
    show shutM (pre S { (stepM m ⟨11, x, y, 0, []⟩) with hv := updN m.hv y true }) x = _
    rw [shut_pre]
theorem file_pre (name : List UInt8) (y : Nat) (mode flags : Int) : fileM (pre S m) name y mode flags = pre S (fileM m name y mode flags) := by
  unfold fileM
  rw [shut_pre, step_pre, least_pre, turn_pre]
  rfl
theorem ownIn_pre (s : SimD) : ownIn (pre S m) s = pre S (ownIn m s) := by
  unfold ownIn
  split
  · exact file_pre S m _ _ _ _
  · rfl
theorem ownOut_pre (s : SimD) : ownOut (pre S m) s = pre S (ownOut m s) := by
  unfold ownOut
  split
  · exact file_pre S m _ _ _ _
  · rfl
theorem kid_pre (who : Int) (s : SimD) (x y z : Int) : kidM (pre S m) who s x y z = pre S (kidM m who s x y z) := by
  unfold kidM
  show ownOut (ownIn (turnM (turnM (shutM (pre S { m with who := who }) z) x 0) y 1) s) s = _
  rw [shut_pre, turn_pre, turn_pre, ownIn_pre, ownOut_pre]
theorem child_pre (who : Int) (s : SimD) (x y z : Int) : childM (pre S m) who s x y z = pre S (childM m who s x y z) := by
  unfold childM
  rw [kid_pre, step_pre]
  rfl
theorem pipe_pre : pipeM (pre S m) = pre S (pipeM m) := by
  unfold pipeM
  rw [step_pre, least_pre, least_pre]
theorem round_pre (who : Int) (s : SimD) (last : Bool) (x : Int) : roundM (pre S m) who s last x = (pre S (roundM m who s last x).1, (roundM m who s last x).2) := by
  unfold roundM
  split
  · dsimp only
    rw [step_pre, child_pre, shut_pre, shut_pre]
  · dsimp only
    rw [pipe_pre, step_pre, least_pre]
    show (shutM (shutM (childM (pre S _) who s x (freeI (leastM m).hv) (freeI m.hv)) x) (freeI (leastM m).hv), freeI m.hv) = _
    rw [child_pre, shut_pre, shut_pre]
theorem shut_hv (n : Int) : (shutM m n).hv = if 0 ≤ n ∧ m.hv n.toNat = true then updN m.hv n.toNat false else m.hv := by
  unfold shutM
  split <;> rfl
theorem shut_who (n : Int) : (shutM m n).who = m.who := by
  unfold shutM
  split <;> rfl
theorem least_hv : (leastM m).hv = if 0 ≤ freeI m.hv then updN m.hv (freeI m.hv).toNat true else m.hv := by
  unfold leastM
  split <;> rfl
theorem round_who (who : Int) (s : SimD) (last : Bool) (x : Int) : (roundM m who s last x).1.who = m.who := by
  unfold roundM
  split
  · dsimp only
    rw [shut_who, shut_who]; rfl
  · dsimp only
    rw [shut_who, shut_who]
    show (leastM (leastM (stepM m _))).who = _
    rw [least_who, least_who]; rfl
end
def sim0 : SimD := ⟨[], [], [], false⟩
def nextS (p : (Nat → Bool) × Int) : (Nat → Bool) × Int := ((roundM ⟨0, p.1, []⟩ 0 sim0 false p.2).1.hv, (roundM ⟨0, p.1, []⟩ 0 sim0 false p.2).2)
theorem round_hv (m : MkD) (who : Int) (s : SimD) (x : Int) : ((roundM m who s false x).1.hv, (roundM m who s false x).2) = nextS (m.hv, x) := by
  unfold nextS roundM
  rw [if_neg Bool.false_ne_true, if_neg Bool.false_ne_true]
  dsimp only
  have hc : ∀ (m : MkD) who s x y z, (childM m who s x y z).hv = m.hv := fun _ _ _ _ _ _ => rfl
  have hs : ∀ (m : MkD) c, (stepM m c).hv = m.hv := fun _ _ => rfl
  simp only [shut_hv, hc, hs, pipeM, least_hv]
section
variable (b0 b1 b2 b3 : Bool)
def tokB (b : Bool) (i : Nat) : Tok := if b = true then .old i else .no
def haveT : FdT := [tokB b0 0, tokB b1 1, tokB b2 2, tokB b3 3, .no, .no, .no, .no]
def opB : List Int := opFrom 0 [b0, b1, b2, b3]
def stB : Nat → (Nat → Bool) × Int
  | 0 => (haveH (opB b0 b1 b2 b3), -1)
  | k + 1 => nextS (stB k)
def shT (k : Nat) : FdT := if k = 0 then haveT b0 b1 b2 b3 else (haveT b0 b1 b2 b3).set (stB b0 b1 b2 b3 k).2.toNat (.rd (k - 1))
def wantT (k : Nat) (s : SimD) (last : Bool) : FdT :=
  let f0 := haveT b0 b1 b2 b3
  let f1 := if 0 < k then f0.set 0 (.rd (k - 1)) else f0
  let f2 := if last = true then f1 else f1.set 1 (.wr k)
  let f3 := if s.inn ≠ [] then f2.set 0 .fin else f2
  if s.out ≠ [] then f3.set 1 (if s.more = true then .foutm else .fout) else f3
def simK (k : Nat) (i o m : Bool) : SimD := ⟨nameP k, if i = true then inS else [], if o = true then outS else [], m⟩
def roundChk (k : Nat) (i o m last : Bool) : Bool :=
  decide (runL ((k : Int) + 1) (roundM ⟨0, (stB b0 b1 b2 b3 k).1, []⟩ ((k : Int) + 1) (simK k i o m) last (stB b0 b1 b2 b3 k).2).1.steps ⟨shT b0 b1 b2 b3 k, none, k, false⟩
    = some ⟨if last = true then haveT b0 b1 b2 b3 else shT b0 b1 b2 b3 (k + 1), some (wantT b0 b1 b2 b3 k (simK k i o m) last), if last = true then k else k + 1, true⟩)
end
def chkAll (k : Nat) (last : Bool) : Bool := allB fun b0 => allB fun b1 => allB fun b2 => allB fun b3 => allB fun i => allB fun o => allB fun m => roundChk b0 b1 b2 b3 k i o m last
theorem chk_0f : chkAll 0 false = true := by kernel_rfl
theorem chk_1f : chkAll 1 false = true := by kernel_rfl
theorem chk_2f : chkAll 2 false = true := by kernel_rfl
theorem chk_3f : chkAll 3 false = true := by kernel_rfl
theorem chk_4f : chkAll 4 false = true := by kernel_rfl
theorem chk_0t : chkAll 0 true = true := by kernel_rfl
theorem chk_1t : chkAll 1 true = true := by kernel_rfl
theorem chk_2t : chkAll 2 true = true := by kernel_rfl
theorem chk_3t : chkAll 3 true = true := by kernel_rfl
theorem chk_4t : chkAll 4 true = true := by kernel_rfl
theorem chk_5t : chkAll 5 true = true := by kernel_rfl
theorem chk_at (b0 b1 b2 b3 : Bool) (k : Nat) (i o m last : Bool) (h : if last = true then k ≤ 5 else k ≤ 4) : roundChk b0 b1 b2 b3 k i o m last = true := by
  have hc : chkAll k last = true := by
    cases last with
    | true =>
      rw [if_pos rfl] at h
      rcases (show k = 0 ∨ k = 1 ∨ k = 2 ∨ k = 3 ∨ k = 4 ∨ k = 5 by omega) with rfl | rfl | rfl | rfl | rfl | rfl
      · exact chk_0t
      · exact chk_1t
      · exact chk_2t
      · exact chk_3t
      · exact chk_4t
      · exact chk_5t
    | false =>
      rw [if_neg Bool.false_ne_true] at h
      rcases (show k = 0 ∨ k = 1 ∨ k = 2 ∨ k = 3 ∨ k = 4 by omega) with rfl | rfl | rfl | rfl | rfl
      · exact chk_0f
      · exact chk_1f
      · exact chk_2f
      · exact chk_3f
      · exact chk_4f
  exact allB_at (allB_at (allB_at (allB_at (allB_at (allB_at (allB_at hc b0) b1) b2) b3) i) o) m
def whos (n : Nat) : List Int := (List.range n).map fun (i : Nat) => (i : Int) + 1
theorem whos_succ (n : Nat) : whos (n + 1) = whos n ++ [(n : Int) + 1] := by simp [whos, List.range_succ]
theorem whos_lt (n : Nat) : ∀ e ∈ whos n, 0 < e ∧ e < (n : Int) + 1 := by
  intro e he
  obtain ⟨i, hi, rfl⟩ := List.mem_map.1 he
  rw [List.mem_range] at hi
  omega
/-- Which commands there may be. -/
def IsSim (k : Nat) (s : SimD) : Prop := ∃ i o m, s = simK k i o m
section
variable (b0 b1 b2 b3 : Bool)
def wants (b0 b1 b2 b3 : Bool) : Nat → List SimD → List FdT
  | _, [] => []
  | k, s :: l => wantT b0 b1 b2 b3 k s (decide (l = [])) :: wants b0 b1 b2 b3 (k + 1) l
theorem round_at (k : Nat) (s : SimD) (hs : IsSim k s) (last : Bool) (h : if last = true then k ≤ 5 else k ≤ 4) (m : MkD) (hw : m.who = 0) (hv : m.hv = (stB b0 b1 b2 b3 k).1) (done : List FdT) (hd : done.length = k)
    (d0 : WT) (hr : runT m.steps d0 = some ⟨shT b0 b1 b2 b3 k :: done, k, whos k, 0⟩) :
    runT (roundM m ((k : Int) + 1) s last (stB b0 b1 b2 b3 k).2).1.steps d0 = some ⟨(if last = true then haveT b0 b1 b2 b3 else shT b0 b1 b2 b3 (k + 1)) :: (done ++ [wantT b0 b1 b2 b3 k s last]), if last = true then k else k + 1, whos (k + 1), 0⟩ := by
  obtain ⟨i, o, mm, rfl⟩ := hs
  have hc := of_decide_eq_true (chk_at b0 b1 b2 b3 k i o mm last h)
  have hm : m = pre m.steps ⟨0, (stB b0 b1 b2 b3 k).1, []⟩ := by
    obtain ⟨who, hv', st⟩ := m
    dsimp only at hw hv
    subst hw hv
    simp [pre]
  rw [hm, round_pre]
  show runT (m.steps ++ _) d0 = _
  rw [runT_app, hr, Option.bind_some]
  have hwide := run_wide done (whos k) 0 ((k : Int) + 1) (by rw [hd]) (whos_lt k) _ _ _ hc
  have e1 : wide done (whos k) 0 ((k : Int) + 1) ⟨shT b0 b1 b2 b3 k, none, k, false⟩ = ⟨shT b0 b1 b2 b3 k :: done, k, whos k, 0⟩ := by simp [wide]
  rw [e1] at hwide
  rw [hwide]
  simp [wide, whos_succ]
theorem rounds : ∀ (l : List SimD) (k : Nat) (m : MkD) (x : Int) (done : List FdT) (d0 : WT), l ≠ [] → k + l.length ≤ 6 → m.who = 0 → m.hv = (stB b0 b1 b2 b3 k).1 → x = (stB b0 b1 b2 b3 k).2 → (∀ i s, l[i]? = some s → IsSim (k + i) s) → done.length = k →
    runT m.steps d0 = some ⟨shT b0 b1 b2 b3 k :: done, k, whos k, 0⟩ →
    ∃ pk, pk ≤ 5 ∧ runT (planL l ((k : Int) + 1) (m, x)).1.steps d0 = some ⟨haveT b0 b1 b2 b3 :: (done ++ wants b0 b1 b2 b3 k l), pk, whos (k + l.length), 0⟩ := by
  intro l
  induction l with
  | nil => intro k m x done d0 h; exact absurd rfl h
  | cons s l ih =>
    intro k m x done d0 hne hlen hw hv hx hs hd hr
    subst hx
    rw [List.length_cons] at hlen
    have hs0 : IsSim k s := hs 0 s rfl
    cases l with
    | nil =>
      have h := round_at b0 b1 b2 b3 k s hs0 true (by rw [if_pos rfl]; simp at hlen; omega) m hw hv done hd d0 hr
      refine ⟨k, by simp at hlen; omega, ?_⟩
      show runT (roundM m ((k : Int) + 1) s (decide (([] : List SimD) = [])) (stB b0 b1 b2 b3 k).2).1.steps d0 = _
      rw [decide_eq_true rfl, h]
      rfl
    | cons s' l =>
      have hd1 : decide (s' :: l = ([] : List SimD)) = false := decide_eq_false (by simp)
      rw [List.length_cons] at hlen
      have h := round_at b0 b1 b2 b3 k s hs0 false (by rw [if_neg Bool.false_ne_true]; omega) m hw hv done hd d0 hr
      have hh := round_hv m ((k : Int) + 1) s (stB b0 b1 b2 b3 k).2
      rw [hv] at hh
      have hst : stB b0 b1 b2 b3 (k + 1) = nextS (stB b0 b1 b2 b3 k) := rfl
      have hh' : ((roundM m ((k : Int) + 1) s false (stB b0 b1 b2 b3 k).2).1.hv, (roundM m ((k : Int) + 1) s false (stB b0 b1 b2 b3 k).2).2) = stB b0 b1 b2 b3 (k + 1) := by rw [hst]; exact hh
      obtain ⟨pk, hpk, hk⟩ := ih (k + 1) (roundM m ((k : Int) + 1) s false (stB b0 b1 b2 b3 k).2).1 (roundM m ((k : Int) + 1) s false (stB b0 b1 b2 b3 k).2).2 (done ++ [wantT b0 b1 b2 b3 k s false]) d0 (by simp) (by rw [List.length_cons]; omega)
        (by rw [round_who]; exact hw) (by rw [← hh']) (by rw [← hh']) (fun i t ht => by have := hs (i + 1) t ht; rwa [show k + (i + 1) = k + 1 + i by omega] at this) (by simp [hd])
        (by rw [h, if_neg Bool.false_ne_true, if_neg Bool.false_ne_true])
      refine ⟨pk, hpk, ?_⟩
      show runT (planL (s' :: l) ((k : Int) + 1 + 1) (roundM m ((k : Int) + 1) s (decide (s' :: l = [])) (stB b0 b1 b2 b3 k).2)).1.steps d0 = _
      rw [hd1, show (k : Int) + 1 + 1 = ((k + 1 : Nat) : Int) + 1 by omega, hk]
      rw [show k + 1 + (s' :: l).length = k + (s :: s' :: l).length by simp; omega]
      show _ = some (⟨haveT b0 b1 b2 b3 :: (done ++ (wantT b0 b1 b2 b3 k s (decide (s' :: l = [])) :: wants b0 b1 b2 b3 (k + 1) (s' :: l))), pk, _, 0⟩ : WT)
      rw [hd1]
      simp
theorem waits_run : ∀ (n : Nat) (m : MkD) (d0 : WT) (fds : List FdT) (pk : Nat) (E : List Int) (W : Nat), m.who = 0 → fds ≠ [] → (∀ e ∈ E, 0 < e) → runT m.steps d0 = some ⟨fds, pk, E, W⟩ → runT (waitsM m n).steps d0 = some ⟨fds, pk, E, W + n⟩ := by
  intro n
  induction n with
  | zero => intro m d0 fds pk E W hw hf hE hr; exact hr
  | succ n ih =>
    intro m d0 fds pk E W hw hf hE hr
    have hl : 0 < fds.length := List.length_pos_iff.2 hf
    have h1 : runT (stepM m ⟨4, 0, 0, 0, []⟩).steps d0 = some ⟨fds, pk, E, W + 1⟩ := by
      show runT (m.steps ++ [⟨m.who, ⟨4, 0, 0, 0, []⟩⟩]) d0 = _
      rw [runT_app, hr, hw, Option.bind_some]
      show (stpT ⟨0, ⟨4, 0, 0, 0, []⟩⟩ ⟨fds, pk, E, W⟩).bind _ = _
      unfold stpT
      rw [if_pos ⟨Int.le_refl _, by show (0 : Int) < (fds.length : Int); omega, fun h => by have := hE 0 h; omega⟩]
      rfl
    have := ih (stepM m ⟨4, 0, 0, 0, []⟩) d0 fds pk E (W + 1) hw hf hE h1
    rw [show W + (n + 1) = W + 1 + n by omega]
    exact this
theorem planL_who : ∀ (l : List SimD) (k : Int) (m : MkD) (x : Int), (planL l k (m, x)).1.who = m.who := by
  intro l
  induction l with
  | nil => intro k m x; rfl
  | cons s l ih =>
    intro k m x
    show (planL l (k + 1) (roundM m k s (decide (l = [])) x)).1.who = m.who
    have := ih (k + 1) (roundM m k s (decide (l = [])) x).1 (roundM m k s (decide (l = [])) x).2
    rw [round_who] at this
    exact this
theorem planL_len : ∀ (l : List SimD) (k : Int) (m : MkD) (x : Int), (planL l k (m, x)).1.steps.length ≤ m.steps.length + 18 * l.length := by
  intro l
  induction l with
  | nil => intro k m x; show m.steps.length ≤ _; omega
  | cons s l ih =>
    intro k m x
    have h1 := ih (k + 1) (roundM m k s (decide (l = [])) x).1 (roundM m k s (decide (l = [])) x).2
    have h2 := round_len m k s (decide (l = [])) x
    rw [List.length_cons]
    show (planL l (k + 1) (roundM m k s (decide (l = [])) x)).1.steps.length ≤ _
    have h3 : (planL l (k + 1) (roundM m k s (decide (l = [])) x)).1.steps.length ≤ (roundM m k s (decide (l = [])) x).1.steps.length + 18 * l.length := h1
    omega
theorem waits_len : ∀ (n : Nat) (m : MkD), (waitsM m n).steps.length = m.steps.length + n := by
  intro n
  induction n with
  | zero => intro m; rfl
  | succ n ih => intro m; show (waitsM (stepM m _) n).steps.length = _; rw [ih, step_len]; omega
/-- The law ShellPlan. -/
theorem plan_law (l : List SimD) (h1 : l ≠ []) (h6 : l.length ≤ 6) (hs : ∀ i s, l[i]? = some s → IsSim i s) :
    (planM l (opB b0 b1 b2 b3)).steps.length ≤ 200 ∧ ∃ pk, pk ≤ 5 ∧ runT (planM l (opB b0 b1 b2 b3)).steps ⟨[haveT b0 b1 b2 b3], 0, [], 0⟩ = some ⟨haveT b0 b1 b2 b3 :: wants b0 b1 b2 b3 0 l, pk, whos l.length, l.length⟩ := by
  refine ⟨?_, ?_⟩
  · unfold planM
    rw [waits_len]
    have := planL_len l 1 ⟨0, haveH (opB b0 b1 b2 b3), []⟩ (-1)
    simp only [List.length_nil] at this
    omega
  · obtain ⟨pk, hpk, hk⟩ := rounds b0 b1 b2 b3 l 0 ⟨0, haveH (opB b0 b1 b2 b3), []⟩ (-1) [] ⟨[haveT b0 b1 b2 b3], 0, [], 0⟩ h1 (by omega) rfl rfl rfl (fun i s h => by rw [Nat.zero_add]; exact hs i s h) rfl rfl
    refine ⟨pk, hpk, ?_⟩
    have h := waits_run l.length (planL l 1 (⟨0, haveH (opB b0 b1 b2 b3), []⟩, -1)).1 ⟨[haveT b0 b1 b2 b3], 0, [], 0⟩ _ pk (whos (0 + l.length)) 0 (planL_who l 1 _ _) (by simp) (fun e he => (whos_lt _ e he).1) hk
    rw [Nat.zero_add, List.nil_append] at h
    exact h
end
end Go.Proofs.Ytikpdhkjkmbomaa
