/- What deeds do to a line, as plain data; what is read at one end is a beginning of what was written at the other one; what is done later changes nothing of it. Plain laws. -/
import Derived.Test.YtacfffegmmdgfaaLine
import Derived.Test.YtacfffegmmdgfaaFlowP
namespace Go.Proofs.Ytacfffegmmdgfaa
open Go.RowKit
set_option linter.unusedVariables false

structure DeedD where
  kind : Int
  end_ : Int
  n : Int
  data : List UInt8
def lay (y : List (Nat × SegD)) (i : Nat) (l : List SegD) : List (Nat × SegD) := y ++ (l.map fun s => (1 - i, s)).take (64 - y.length)
def sendI (d : LineD) (i : Nat) : LineD := { d with e := upd d.e i (outE (d.e i)).1, y := lay d.y i (outE (d.e i)).2 }
def sendP (d : LineD) : LineD := sendI (sendI d 0) 1
def putI (d : LineD) (i : Nat) (ds : List UInt8) : LineD := { d with e := upd d.e i (writeE (d.e i) ds).1, p := upd d.p i (d.p i ++ ds.take (writeE (d.e i) ds).2.1) }
def takeI (d : LineD) (i n : Nat) : LineD :=
  match readErr (d.e i) n with
  | some _ => d
  | none => { d with e := upd d.e i (readTo (d.e i) n), g := upd d.g i (d.g i ++ (d.e i).inn.take (readN (d.e i) n)) }
def shutI (d : LineD) (i : Nat) : LineD := { d with e := upd d.e i (shutE (d.e i)).1 }
def tickL (d : LineD) (i : Nat) : LineD := { d with e := upd d.e i (tickE (d.e i)) }
def ownP (d : LineD) (i : Nat) (k : Int) (n : Nat) (ds : List UInt8) : LineD := if k = 1 then putI d i ds else if k = 2 then takeI d i n else if k = 3 then shutI d i else d
def copyP (d : LineD) (n : Nat) : LineD := if d.y.length < 64 then { d with y := d.y ++ ((d.y)[n]?).toList } else d
def loseP (d : LineD) (n : Nat) : LineD := { d with y := d.y.eraseIdx n }
def heardP (d : LineD) (n : Nat) : LineD :=
  match (d.y)[n]? with
  | some x => { d with e := upd d.e x.1 (comeS (d.e x.1) x.2) }
  | none => d
def deedP (d : LineD) (k : Int) (n : Nat) : LineD := if k = 6 then copyP d n else if k = 4 then loseP (heardP d n) n else loseP d n
def doneP (d : LineD) (x : DeedD) : LineD :=
  if 1 ≤ x.kind ∧ x.kind ≤ 3 ∧ (x.end_ = 0 ∨ x.end_ = 1) then ownP d x.end_.toNat x.kind x.n.toNat x.data
  else if 4 ≤ x.kind ∧ x.kind ≤ 6 ∧ 0 ≤ x.n ∧ x.n < d.y.length then deedP d x.kind x.n.toNat
  else if x.kind = 7 then tickL (tickL d 0) 1
  else d
def stepL (d : LineD) (x : DeedD) : LineD := sendP (doneP d x)
def line0 (a b : Int) : LineD := ⟨fun i => if i = 0 then beginE 2 a else beginE 1 b, fun _ => [], fun _ => [], []⟩
def runL (a b : Int) (l : List DeedD) : LineD := l.foldl stepL (sendP (line0 a b))

/-- What every deed keeps. -/
def SafeL (iss : Nat → Int) (d : LineD) : Prop := Safe iss d.e d.p d.g (fun i s => (i, s) ∈ d.y)
def PutL (d : LineD) (B : Nat) : Prop := ∀ i, i < 2 → (d.p i).length ≤ B
section
variable {iss : Nat → Int} {d : LineD} {B : Nat}
theorem safe_sendI (h : SafeL iss d) (hp : PutL d 100000) {i : Nat} (hi : i < 2) : SafeL iss (sendI d i) := by
  refine (Safe.out h hp hi).less (fun j hj s hs => ?_)
  have hs : (j, s) ∈ d.y ++ ((outE (d.e i)).2.map fun s => (1 - i, s)).take (64 - d.y.length) := hs
  rcases List.mem_append.1 hs with h1 | h1
  · exact .inl h1
  · obtain ⟨x, hx, he⟩ := List.mem_map.1 (List.mem_of_mem_take h1)
    injection he with e1 e2
    subst e1 e2
    exact .inr ⟨rfl, hx⟩
theorem safe_sendP (h : SafeL iss d) (hp : PutL d 100000) : SafeL iss (sendP d) := safe_sendI (safe_sendI h hp (by omega)) hp (by omega)
theorem safe_own (h : SafeL iss d) {i : Nat} (hi : i < 2) (k : Int) (n : Nat) (ds : List UInt8) : SafeL iss (ownP d i k n ds) := by
  unfold ownP
  split
  · exact Safe.write h hi ds
  split
  · unfold takeI
    split
    · exact h
    · exact Safe.read h hi n
  split
  · exact Safe.shut h hi
  · exact h
theorem safe_lose (h : SafeL iss d) (n : Nat) : SafeL iss (loseP d n) := Safe.less h (fun j hj s hs => List.mem_of_mem_eraseIdx hs)
theorem safe_deed (h : SafeL iss d) (hp : PutL d 100000) (hto : ∀ x ∈ d.y, x.1 < 2) (k : Int) (n : Nat) : SafeL iss (deedP d k n) := by
  unfold deedP
  split
  · unfold copyP
    split
    · refine Safe.less h (fun j hj s hs => ?_)
      rcases List.mem_append.1 hs with h1 | h1
      · exact h1
      · exact List.mem_of_getElem? (Option.mem_toList.1 h1)
    · exact h
  split
  · refine safe_lose ?_ n
    unfold heardP
    split
    · rename_i x hx
      have hm := List.mem_of_getElem? hx
      obtain ⟨j, s⟩ := x
      exact Safe.come h hp (hto _ hm) hm
    · exact h
  · exact safe_lose h n
theorem to_send (h : ∀ x ∈ d.y, x.1 < 2) (i : Nat) : ∀ x ∈ (sendI d i).y, x.1 < 2 := by
  intro x hx
  have hx : x ∈ d.y ++ ((outE (d.e i)).2.map fun s => (1 - i, s)).take (64 - d.y.length) := hx
  rcases List.mem_append.1 hx with h1 | h1
  · exact h x h1
  · obtain ⟨s, -, rfl⟩ := List.mem_map.1 (List.mem_of_mem_take h1)
    show 1 - i < 2
    omega
theorem heard_y (d : LineD) (n : Nat) : (heardP d n).y = d.y ∧ (heardP d n).p = d.p ∧ (heardP d n).g = d.g := by
  unfold heardP
  split <;> exact ⟨rfl, rfl, rfl⟩
theorem own_y (d : LineD) (i : Nat) (k : Int) (n : Nat) (ds : List UInt8) : (ownP d i k n ds).y = d.y := by
  unfold ownP
  split
  · rfl
  split
  · unfold takeI
    split <;> rfl
  split <;> rfl
theorem to_done (h : ∀ x ∈ d.y, x.1 < 2) (x : DeedD) : ∀ z ∈ (doneP d x).y, z.1 < 2 := by
  unfold doneP
  split
  · rw [own_y]; exact h
  split
  · unfold deedP
    split
    · unfold copyP
      split
      · intro z hz
        rcases List.mem_append.1 hz with h1 | h1
        · exact h z h1
        · exact h z (List.mem_of_getElem? (Option.mem_toList.1 h1))
      · exact h
    split
    · intro z hz
      have hz : z ∈ (heardP d x.n.toNat).y.eraseIdx x.n.toNat := hz
      rw [(heard_y d _).1] at hz
      exact h z (List.mem_of_mem_eraseIdx hz)
    · exact fun z hz => h z (List.mem_of_mem_eraseIdx hz)
  split
  · exact h
  · exact h
theorem safe_done (h : SafeL iss d) (hp : PutL d 100000) (hto : ∀ x ∈ d.y, x.1 < 2) (x : DeedD) : SafeL iss (doneP d x) := by
  unfold doneP
  split
  · rename_i hc
    exact safe_own h (by have := hc.2.2; omega) _ _ _
  split
  · exact safe_deed h hp hto _ _
  split
  · exact Safe.tick (Safe.tick h (i := 0) (by omega)) (i := 1) (by omega)
  · exact h
/-- What was written and read only grows. -/
structure Later (d d' : LineD) : Prop where
  p : ∀ i, i < 2 → d.p i <+: d'.p i
  g : ∀ i, i < 2 → d.g i <+: d'.g i
theorem Later.refl (d : LineD) : Later d d := ⟨fun _ _ => List.prefix_refl _, fun _ _ => List.prefix_refl _⟩
theorem Later.trans {a b c : LineD} (h : Later a b) (k : Later b c) : Later a c := ⟨fun i hi => (h.p i hi).trans (k.p i hi), fun i hi => (h.g i hi).trans (k.g i hi)⟩
theorem later_upd {f : Nat → List UInt8} {i : Nat} {x : List UInt8} : ∀ j, f j <+: upd f i (f i ++ x) j := fun j => by
  unfold upd
  split
  · rename_i e
    subst e
    exact List.prefix_append _ _
  · exact List.prefix_refl _
theorem later_done (d : LineD) (x : DeedD) : Later d (doneP d x) := by
  unfold doneP
  split
  · unfold ownP
    split
    · exact ⟨fun j _ => later_upd j, fun _ _ => List.prefix_refl _⟩
    split
    · unfold takeI
      split
      · exact Later.refl d
      · exact ⟨fun _ _ => List.prefix_refl _, fun j _ => later_upd j⟩
    split <;> exact ⟨fun _ _ => List.prefix_refl _, fun _ _ => List.prefix_refl _⟩
  split
  · unfold deedP
    split
    · unfold copyP
      split <;> exact ⟨fun _ _ => List.prefix_refl _, fun _ _ => List.prefix_refl _⟩
    split
    · refine ⟨fun j _ => ?_, fun j _ => ?_⟩
      · show _ <+: (heardP d x.n.toNat).p j
        rw [(heard_y d _).2.1]
        exact List.prefix_refl _
      · show _ <+: (heardP d x.n.toNat).g j
        rw [(heard_y d _).2.2]
        exact List.prefix_refl _
    · exact ⟨fun _ _ => List.prefix_refl _, fun _ _ => List.prefix_refl _⟩
  split <;> exact ⟨fun _ _ => List.prefix_refl _, fun _ _ => List.prefix_refl _⟩
theorem later_step (d : LineD) (x : DeedD) : Later d (stepL d x) := ⟨(later_done d x).p, (later_done d x).g⟩
theorem later_fold (l : List DeedD) : ∀ d : LineD, Later d (l.foldl stepL d) := by
  induction l with
  | nil => exact fun d => Later.refl d
  | cons x l ih => exact fun d => (later_step d x).trans (ih (stepL d x))
/-- The law WireLate. -/
theorem late (a b : Int) (l : List DeedD) (k : Nat) : Later (runL a b (l.take k)) (runL a b l) := by
  have h := later_fold (l.drop k) (runL a b (l.take k))
  unfold runL at h ⊢
  rw [← List.foldl_append, List.take_append_drop] at h
  exact h
/-- How much is written at most. -/
theorem put_done (hp : PutL d B) (x : DeedD) {K : Nat} (hx : x.data.length ≤ K) : PutL (doneP d x) (B + K) := by
  have base : PutL d (B + K) := fun i hi => Nat.le_trans (hp i hi) (by omega)
  unfold doneP
  split
  · unfold ownP
    split
    · intro j hj
      have h1 := hp j hj
      simp only [putI, upd]
      split
      · rename_i e
        rw [← e, List.length_append, List.length_take]
        omega
      · omega
    split
    · unfold takeI
      split <;> exact base
    split <;> exact base
  split
  · unfold deedP
    split
    · unfold copyP
      split <;> exact base
    split
    · intro j hj
      show ((heardP d x.n.toNat).p j).length ≤ _
      rw [(heard_y d _).2.1]
      exact base j hj
    · exact base
  split <;> exact base
theorem safe_fold {K : Nat} (l : List DeedD) : ∀ (d : LineD) (B : Nat), SafeL iss d → PutL d B → (∀ x ∈ d.y, x.1 < 2) → (∀ x ∈ l, x.data.length ≤ K) → B + K * l.length ≤ 100000 → SafeL iss (l.foldl stepL d) := by
  induction l with
  | nil => exact fun d B h _ _ _ _ => h
  | cons x l ih =>
    intro d B h hp hto hd hB
    rw [List.length_cons, Nat.mul_succ] at hB
    have h1 := safe_done h (fun i hi => Nat.le_trans (hp i hi) (by omega)) hto x
    have p1 := put_done hp x (hd x (List.mem_cons_self ..))
    refine ih (stepL d x) (B + K) (safe_sendP h1 (fun i hi => Nat.le_trans (p1 i hi) (by omega))) p1 ?_ (fun y hy => hd y (List.mem_cons_of_mem _ hy)) (by omega)
    exact to_send (to_send (to_done hto x) 0) 1
end
theorem run_safe (a b : Int) (l : List DeedD) (hd : ∀ x ∈ l, x.data.length ≤ 50) (hl : l.length ≤ 200) : SafeL (issF a b) (runL a b l) := by
  have h0 : SafeL (issF a b) (line0 a b) := (safe_begin a b rfl rfl (fun _ => rfl) (fun _ => rfl)).less (fun _ _ s hs => by simp [line0] at hs)
  have hp : PutL (line0 a b) 0 := fun i hi => by simp [line0]
  refine safe_fold l _ 0 (safe_sendP h0 (fun i hi => by simp [line0])) hp (to_send (to_send (fun x hx => by simp [line0] at hx) 0) 1) hd (by omega)
end Go.Proofs.Ytacfffegmmdgfaa
