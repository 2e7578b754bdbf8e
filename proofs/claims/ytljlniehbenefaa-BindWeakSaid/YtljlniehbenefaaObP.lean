/- Parts of programs in plain words: what may be, how they are written, how they are read; and the laws. Plain theorems, no program in sight. -/
import Derived.Test.YtljlniehbenefaaMapSB
namespace Go.Proofs.Ytljlniehbenefaa
set_option linter.unusedVariables false

structure NmD where
  name : Bs
  wh : Int
  pos : Int
  weak : Bool
structure NeD where
  pos : Int
  name : Bs
  kind : Int
structure ObD where
  code : List Nat
  data : Bs
  names : List NmD
  needs : List NeD
/-- A register's name; a name that may be. -/
def regB (s : Bs) : Bool := decide (s.length = 2 ∧ (s.getD 0 0).toNat = 114 ∧ 48 ≤ (s.getD 1 0).toNat ∧ (s.getD 1 0).toNat < 56)
def chB (i : Nat) (c : UInt8) : Bool := decide ((97 ≤ c.toNat ∧ c.toNat ≤ 122) ∨ c.toNat = 95 ∨ (i ≠ 0 ∧ 48 ≤ c.toNat ∧ c.toNat ≤ 57))
def chsB : Nat → Bs → Bool
  | _, [] => true
  | i, c :: s => chB i c && chsB (i + 1) s
def nameB (s : Bs) : Bool := decide (1 ≤ s.length ∧ s.length ≤ 12) && (!regB s && chsB 0 s)
def sizeW (o : ObD) (wh : Int) : Int := if wh = 1 then 4 * (o.code.length : Int) else if wh = 2 then (o.data.length : Int) else -1
def nmOk (o : ObD) (n : NmD) : Prop := nameB n.name = true ∧ 0 ≤ n.pos ∧ n.pos ≤ sizeW o n.wh ∧ (n.wh = 1 → n.pos % 4 = 0)
def neOk (o : ObD) (n : NeD) : Prop := nameB n.name = true ∧ 1 ≤ n.kind ∧ n.kind ≤ 3 ∧ 0 ≤ n.pos ∧ n.pos < 4 * (o.code.length : Int) ∧ n.pos % 4 = 0
/-- A part that may be. -/
structure ChkOk (o : ObD) : Prop where
  code : o.code.length ≤ 128
  data : o.data.length ≤ 256
  nms : o.names.length ≤ 24
  nds : o.needs.length ≤ 40
  names : ∀ n ∈ o.names, nmOk o n
  nodup : (o.names.map NmD.name).Nodup
  needs : ∀ n ∈ o.needs, neOk o n
  rising : o.needs.Pairwise fun a b => a.pos < b.pos
/-- Bytes of a part. -/
def u8N (n : Nat) : UInt8 := UInt8.ofNat (n % 256)
def halfL (n : Nat) : Bs := [u8N n, u8N (n / 256)]
def textL (s : Bs) : Bs := u8N s.length :: s
def wordL (x : Nat) : Bs := halfL (x % 65536) ++ halfL (x / 65536)
def nmL (n : NmD) : Bs := textL n.name ++ (halfL (n.wh + (if n.weak = true then 4 else 0)).toNat ++ halfL n.pos.toNat)
def neL (n : NeD) : Bs := textL n.name ++ (halfL n.kind.toNat ++ halfL n.pos.toNat)
def signL : Bs := [82, 79, 49]
def bodyL (o : ObD) : Bs := halfL o.code.length ++ (o.code.flatMap wordL ++ (halfL o.data.length ++ (o.data ++ (halfL o.names.length ++ (o.names.flatMap nmL ++ (halfL o.needs.length ++ o.needs.flatMap neL))))))
def encL (o : ObD) : Bs := signL ++ bodyL o
/-- Reading. -/
def halfR : Bs → Option (Nat × Bs)
  | a :: b :: r => some (a.toNat + 256 * b.toNat, r)
  | _ => none
def takeR (n : Nat) (r : Bs) : Option (Bs × Bs) := if r.length < n then none else some (r.take n, r.drop n)
def textR : Bs → Option (Bs × Bs)
  | [] => none
  | a :: r => takeR a.toNat r
def manyR {α : Type} (f : Bs → Option (α × Bs)) : Nat → Bs → Option (List α × Bs)
  | 0, r => some ([], r)
  | k + 1, r => (f r).bind fun x => (manyR f k x.2).map fun y => (x.1 :: y.1, y.2)
def wordR (r : Bs) : Option (Nat × Bs) := (halfR r).bind fun x => (halfR x.2).map fun y => (x.1 + 65536 * y.1, y.2)
def nmR (r : Bs) : Option (NmD × Bs) := (textR r).bind fun x => (halfR x.2).bind fun y => (halfR y.2).map fun z => (⟨x.1, ((y.1 % 4 : Nat) : Int), (z.1 : Int), decide (4 ≤ y.1)⟩, z.2)
def neR (r : Bs) : Option (NeD × Bs) := (textR r).bind fun x => (halfR x.2).bind fun y => (halfR y.2).map fun z => (⟨(z.1 : Int), x.1, (y.1 : Int)⟩, z.2)
def restR (r : Bs) : Option (ObD × Bs) := (halfR r).bind fun a => (manyR wordR a.1 a.2).bind fun cs => (halfR cs.2).bind fun b => (takeR b.1 b.2).bind fun ds => (halfR ds.2).bind fun c => (manyR nmR c.1 c.2).bind fun ns => (halfR ns.2).bind fun d => (manyR neR d.1 d.2).map fun es => (⟨cs.1, ds.1, ns.1, es.1⟩, es.2)
section
variable {α : Type}
theorem u8N_nat (n : Nat) : (u8N n).toNat = n % 256 := by simp [u8N]
theorem halfR_L (n : Nat) (h : n < 65536) (t : Bs) : halfR (halfL n ++ t) = some (n, t) := by
  simp only [halfL, List.cons_append, List.nil_append, halfR, u8N_nat, Option.some.injEq, Prod.mk.injEq, and_true]
  omega
theorem takeR_L (s t : Bs) : takeR s.length (s ++ t) = some (s, t) := by simp [takeR]
theorem textR_L (s t : Bs) (h : s.length < 256) : textR (textL s ++ t) = some (s, t) := by
  simp only [textL, List.cons_append, textR, u8N_nat, Nat.mod_eq_of_lt h, takeR_L]
theorem manyR_L {f : Bs → Option (α × Bs)} {g : α → Bs} : ∀ (l : List α) (t : Bs), (∀ x ∈ l, ∀ t, f (g x ++ t) = some (x, t)) → manyR f l.length (l.flatMap g ++ t) = some (l, t) := by
  intro l
  induction l with
  | nil => intro t _; rfl
  | cons x l ih =>
    intro t h
    rw [List.length_cons, manyR, List.flatMap_cons, List.append_assoc, h x (by simp)]
    simp only [Option.bind_some]
    rw [ih t (fun y hy => h y (by simp [hy]))]
    rfl
theorem wordR_L (x : Nat) (h : x < 4294967296) (t : Bs) : wordR (wordL x ++ t) = some (x, t) := by
  unfold wordR wordL
  rw [List.append_assoc, halfR_L _ (by omega)]
  simp only [Option.bind_some]
  rw [halfR_L _ (by omega)]
  simp only [Option.map_some, Option.some.injEq, Prod.mk.injEq, and_true]
  omega
theorem nameB_len {s : Bs} (h : nameB s = true) : 1 ≤ s.length ∧ s.length ≤ 12 := by
  unfold nameB at h
  simp only [Bool.and_eq_true, decide_eq_true_eq] at h
  exact h.1
theorem sizeW_lt {o : ObD} (h : ChkOk o) (wh : Int) : sizeW o wh ≤ 512 := by
  have h1 := h.code
  have h2 := h.data
  unfold sizeW
  split
  · omega
  · split <;> omega
theorem whN (wh : Int) (weak : Bool) (h : wh = 1 ∨ wh = 2) : (wh + (if weak = true then 4 else 0)).toNat < 65536 ∧ (((wh + (if weak = true then 4 else 0)).toNat % 4 : Nat) : Int) = wh ∧ decide (4 ≤ (wh + (if weak = true then 4 else 0)).toNat) = weak := by
  rcases h with rfl | rfl <;> cases weak <;> decide
theorem nmR_L {o : ObD} (h : ChkOk o) (n : NmD) (hn : n ∈ o.names) (t : Bs) : nmR (nmL n ++ t) = some (n, t) := by
  obtain ⟨h1, h2, h3, h4⟩ := h.names n hn
  have hl := nameB_len h1
  have hs := sizeW_lt h n.wh
  have hw : n.wh = 1 ∨ n.wh = 2 := by
    unfold sizeW at h3
    split at h3
    · exact .inl (by assumption)
    · split at h3
      · exact .inr (by assumption)
      · omega
  obtain ⟨nm, wh, pos, weak⟩ := n
  dsimp only at h1 h2 h3 h4 hl hs hw
  obtain ⟨w1, w2, w3⟩ := whN wh weak hw
  show (textR (textL nm ++ (halfL (wh + (if weak = true then 4 else 0)).toNat ++ halfL pos.toNat) ++ t)).bind _ = _
  rw [List.append_assoc, textR_L _ _ (by omega)]
  simp only [Option.bind_some]
  rw [List.append_assoc, halfR_L _ w1]
  simp only [Option.bind_some]
  rw [halfR_L _ (by omega)]
  simp only [Option.map_some, Option.some.injEq, Prod.mk.injEq, and_true, NmD.mk.injEq, true_and]
  exact ⟨w2, by omega, w3⟩
theorem neR_L {o : ObD} (h : ChkOk o) (n : NeD) (hn : n ∈ o.needs) (t : Bs) : neR (neL n ++ t) = some (n, t) := by
  obtain ⟨h1, h2, h3, h4, h5, h6⟩ := h.needs n hn
  have hl := nameB_len h1
  have hc := h.code
  obtain ⟨pos, nm, kind⟩ := n
  dsimp only at h1 h2 h3 h4 h5 h6 hl
  show (textR (textL nm ++ (halfL kind.toNat ++ halfL pos.toNat) ++ t)).bind _ = _
  rw [List.append_assoc, textR_L _ _ (by omega)]
  simp only [Option.bind_some]
  rw [List.append_assoc, halfR_L _ (by omega)]
  simp only [Option.bind_some]
  rw [halfR_L _ (by omega)]
  simp only [Option.map_some, Option.some.injEq, Prod.mk.injEq, and_true, NeD.mk.injEq, true_and]
  omega
/-- What is written is read so. -/
theorem restR_L (o : ObD) (h : ChkOk o) (hc : ∀ x ∈ o.code, x < 4294967296) (t : Bs) : restR (bodyL o ++ t) = some (o, t) := by
  have h1 := h.code
  have h2 := h.data
  have h3 := h.nms
  have h4 := h.nds
  unfold restR bodyL
  simp only [List.append_assoc]
  rw [halfR_L _ (by omega)]
  simp only [Option.bind_some]
  rw [manyR_L o.code _ (fun x hx t => wordR_L x (hc x hx) t)]
  simp only [Option.bind_some]
  rw [halfR_L _ (by omega)]
  simp only [Option.bind_some]
  rw [takeR_L]
  simp only [Option.bind_some]
  rw [halfR_L _ (by omega)]
  simp only [Option.bind_some]
  rw [manyR_L o.names _ (fun x hx t => nmR_L h x hx t)]
  simp only [Option.bind_some]
  rw [halfR_L _ (by omega)]
  simp only [Option.bind_some]
  rw [manyR_L o.needs _ (fun x hx t => neR_L h x hx t)]
  rfl
/-- Reading takes from the front alone. -/
def Front (f : Bs → Option (α × Bs)) : Prop := ∀ r t x s, f r = some (x, s) → f (r ++ t) = some (x, s ++ t)
theorem half_front : Front halfR := by
  intro r t x s h
  match r, h with
  | a :: b :: r, h =>
    simp only [halfR, Option.some.injEq, Prod.mk.injEq] at h
    obtain ⟨rfl, rfl⟩ := h
    rfl
theorem take_front (n : Nat) : Front (takeR n) := by
  intro r t x s h
  unfold takeR at h ⊢
  split at h
  · cases h
  · rename_i hn
    cases h
    rw [if_neg (by simp; omega), List.take_append_of_le_length (by omega), List.drop_append_of_le_length (by omega)]
theorem text_front : Front textR := by
  intro r t x s h
  cases r with
  | nil => cases h
  | cons a r => exact take_front a.toNat r t x s h
theorem many_front {f : Bs → Option (α × Bs)} (hf : Front f) : ∀ k, Front (manyR f k) := by
  intro k
  induction k with
  | zero => intro r t x s h; simp only [manyR, Option.some.injEq, Prod.mk.injEq] at h; obtain ⟨rfl, rfl⟩ := h; rfl
  | succ k ih =>
    intro r t x s h
    simp only [manyR] at h ⊢
    cases h1 : f r with
    | none => rw [h1] at h; cases h
    | some y =>
      rw [h1] at h
      simp only [Option.bind_some] at h
      rw [hf r t y.1 y.2 h1]
      simp only [Option.bind_some]
      cases h2 : manyR f k y.2 with
      | none => rw [h2] at h; cases h
      | some z =>
        rw [h2] at h
        simp only [Option.map_some, Option.some.injEq, Prod.mk.injEq] at h
        obtain ⟨rfl, rfl⟩ := h
        rw [ih y.2 t z.1 z.2 h2]
        rfl
theorem bind_front {β : Type} {f : Bs → Option (α × Bs)} {g : α → Bs → Option (β × Bs)} (hf : Front f) (hg : ∀ a, Front (g a)) : Front fun r => (f r).bind fun x => g x.1 x.2 := by
  intro r t x s h
  dsimp only at h ⊢
  cases h1 : f r with
  | none => rw [h1] at h; cases h
  | some y =>
    rw [h1] at h
    rw [hf r t y.1 y.2 h1]
    exact hg y.1 y.2 t x s h
theorem map_front {β : Type} {f : Bs → Option (α × Bs)} {g : α → β} (hf : Front f) : Front fun r => (f r).map fun x => (g x.1, x.2) := by
  intro r t x s h
  dsimp only at h ⊢
  cases h1 : f r with
  | none => rw [h1] at h; cases h
  | some y =>
    rw [h1] at h
    simp only [Option.map_some, Option.some.injEq, Prod.mk.injEq] at h
    obtain ⟨rfl, rfl⟩ := h
    rw [hf r t y.1 y.2 h1]
    rfl
theorem word_front : Front wordR := bind_front (f := halfR) (g := fun a r => (halfR r).map fun y => (a + 65536 * y.1, y.2)) half_front fun a => map_front (f := halfR) (g := fun y => a + 65536 * y) half_front
theorem nm_front : Front nmR := bind_front (f := textR) (g := fun a r => (halfR r).bind fun y => (halfR y.2).map fun z => ((⟨a, ((y.1 % 4 : Nat) : Int), (z.1 : Int), decide (4 ≤ y.1)⟩ : NmD), z.2)) text_front fun a => bind_front (f := halfR) (g := fun b r => (halfR r).map fun z => ((⟨a, ((b % 4 : Nat) : Int), (z.1 : Int), decide (4 ≤ b)⟩ : NmD), z.2)) half_front fun b => map_front (f := halfR) (g := fun (z : Nat) => (⟨a, ((b % 4 : Nat) : Int), (z : Int), decide (4 ≤ b)⟩ : NmD)) half_front
theorem ne_front : Front neR := bind_front (f := textR) (g := fun a r => (halfR r).bind fun (y : Nat × Bs) => (halfR y.2).map fun (z : Nat × Bs) => ((⟨(z.1 : Int), a, (y.1 : Int)⟩ : NeD), z.2)) text_front fun a => bind_front (f := halfR) (g := fun b r => (halfR r).map fun (z : Nat × Bs) => ((⟨(z.1 : Int), a, (b : Int)⟩ : NeD), z.2)) half_front fun b => map_front (f := halfR) (g := fun (z : Nat) => (⟨(z : Int), a, (b : Int)⟩ : NeD)) half_front
theorem rest_front : Front restR := bind_front half_front fun a => bind_front (many_front word_front a) fun cs => bind_front half_front fun b => bind_front (take_front b) fun ds => bind_front half_front fun c => bind_front (many_front nm_front c) fun ns => bind_front half_front fun d => map_front (g := fun es => (⟨cs, ds, ns, es⟩ : ObD)) (many_front ne_front d)
/-- What Decode says of bytes. -/
inductive DecIs (b : Bs) : Option ObD → Int → Prop
  | form : (∀ o s, restR (b.drop 3) = some (o, s) → ChkOk o → encL o ≠ b) → DecIs b none 3
  | short : restR (b.drop 3) = none → DecIs b none 21
  | ok {o : ObD} {s : Bs} : restR (b.drop 3) = some (o, s) → ChkOk o → encL o = b → DecIs b (some o) 0
theorem enc_drop (o : ObD) : (encL o).drop 3 = bodyL o := rfl
theorem rest_enc (o : ObD) (h : ChkOk o) (hc : ∀ x ∈ o.code, x < 4294967296) : restR ((encL o).drop 3) = some (o, []) := by
  have := restR_L o h hc []
  rw [List.append_nil] at this
  exact this
theorem dec_back (o : ObD) (h : ChkOk o) (hc : ∀ x ∈ o.code, x < 4294967296) {X : Option ObD} {e : Int} (hd : DecIs (encL o) X e) : X = some o ∧ e = 0 := by
  have hr := rest_enc o h hc
  cases hd with
  | form hf => exact absurd rfl (hf o [] hr h)
  | short hs => rw [hr] at hs; cases hs
  | ok h1 h2 h3 =>
    rw [hr] at h1
    cases h1
    exact ⟨rfl, rfl⟩
theorem dec_torn (o : ObD) (h : ChkOk o) (hc : ∀ x ∈ o.code, x < 4294967296) (n : Nat) (hn : n < (encL o).length) {X : Option ObD} {e : Int} (hd : DecIs ((encL o).take n) X e) : e = 21 ∨ e = 3 := by
  cases hd with
  | form hf => exact .inr rfl
  | short hs => exact .inl rfl
  | @ok o' s h1 h2 h3 =>
    have hr := rest_enc o h hc
    have h4 : (encL o').length = n := by rw [h3, List.length_take]; omega
    have h5 : 3 ≤ n := by
      rw [← h4]
      show 3 ≤ (signL ++ bodyL o').length
      rw [List.length_append]
      exact Nat.le_add_right _ _
    have h6 := rest_front _ ((encL o).drop n) o' s h1
    have h7 : ((encL o).take n).drop 3 ++ (encL o).drop n = (encL o).drop 3 := by
      conv => rhs; rw [← List.take_append_drop n (encL o)]
      rw [List.drop_append_of_le_length (by rw [List.length_take]; omega)]
    rw [h7, hr] at h6
    have h8 : s ++ (encL o).drop n = [] := by injection h6 with h6; injection h6 with _ h6; exact h6.symm
    have h9 := congrArg List.length h8
    simp only [List.length_append, List.length_drop, List.length_nil] at h9
    omega
theorem dec_more (o : ObD) (h : ChkOk o) (hc : ∀ x ∈ o.code, x < 4294967296) (c : UInt8) {X : Option ObD} {e : Int} (hd : DecIs (encL o ++ [c]) X e) : e = 3 := by
  have hr : restR ((encL o ++ [c]).drop 3) = some (o, [c]) := restR_L o h hc [c]
  cases hd with
  | form hf => rfl
  | short hs => rw [hr] at hs; cases hs
  | ok h1 h2 h3 =>
    rw [hr] at h1
    cases h1
    have := congrArg List.length h3
    simp at this
theorem enc_len (o : ObD) : 11 ≤ (encL o).length := by
  simp only [encL, bodyL, signL, halfL, List.length_append, List.length_cons, List.length_nil]
  omega
end
end Go.Proofs.Ytljlniehbenefaa
