/- The law AsmShown in plain words: what a word is shown as, and that it is read as that word. Plain theorems, no program in sight. -/
import Derived.Test.YtikbfmjhmjkkgaaDoorAmLines
import Derived.Test.YtikbfmjhmjkkgaaDoorAmText
import Derived.Test.YtikbfmjhmjkkgaaDoorAmEnc
namespace Go.Proofs.YtikbfmjhmjkkgaaDoor
set_option linter.unusedVariables false

def opN (w : Nat) : Nat := w / 16777216
def aN (w : Nat) : Nat := w / 1048576 % 16
def bN (w : Nat) : Nat := w / 65536 % 16
def cI (w : Nat) : Int := if w % 65536 < 32768 then ((w % 65536 : Nat) : Int) else ((w % 65536 : Nat) : Int) - 65536
def okW (w : Nat) : Prop := encOk (opN w) (aN w) (bN w) (cI w)
instance (w : Nat) : Decidable (okW w) := by unfold okW encOk; infer_instance
theorem opW_back (w : Nat) : opW (opN w) (aN w) (bN w) (cI w) = w := by
  unfold opW opN aN bN cI
  split <;> omega
theorem cI_range (w : Nat) : -32768 ≤ cI w ∧ cI w ≤ 32767 := by unfold cI; split <;> omega
def fN (w : Nat) : Nat := (rowN (opN w)).2
def tokA (w : Nat) : List Bs := if fN w % 2 = 1 then [114 :: Lib.itoa (aN w)] else []
def tokB (w : Nat) : List Bs := if fN w / 2 % 2 = 1 then [114 :: Lib.itoa (bN w)] else []
def tokC (w : Nat) : List Bs := if fN w / 4 % 2 = 1 then [Lib.itoa (cI w)] else []
def sp (l : List Bs) : Bs := l.flatMap fun t => 32 :: t
def wordB : Bs := [119, 111, 114, 100]
def headW (w : Nat) : Bs := if okW w then (rowN (opN w)).1 else wordB
def tailW (w : Nat) : List Bs := if okW w then tokA w ++ (tokB w ++ tokC w) else [Lib.itoa w]
def showL (w : Nat) : Bs := headW w ++ sp (tailW w)
/-- A byte of a word in a line. -/
def tokC1 (c : UInt8) : Bool := decide (33 ≤ c.toNat ∧ c.toNat ≤ 126 ∧ c.toNat ≠ 59)
def tok (t : Bs) : Bool := !t.isEmpty && t.all tokC1
theorem tokC1_sp {c : UInt8} (h : tokC1 c = true) : Lib.isSp c = false ∧ okCh c = true ∧ c ≠ 59 ∧ c ≠ 10 := by
  have h := of_decide_eq_true h
  refine ⟨?_, ?_, ?_, ?_⟩
  · unfold Lib.isSp
    simp only [Bool.or_eq_false_iff, beq_eq_false_iff_ne, ne_eq, ← UInt8.toNat_inj]
    refine ⟨⟨⟨⟨⟨?_, ?_⟩, ?_⟩, ?_⟩, ?_⟩, ?_⟩ <;> (intro e; have := h.1; simp at e; omega)
  · unfold okCh; exact decide_eq_true (Or.inr ⟨by omega, by omega⟩)
  · intro e; subst e; exact absurd h.2.2 (by decide)
  · intro e; subst e; exact absurd h.1 (by decide)
theorem fieldsGo_tok : ∀ (t cur r : Bs), t.all tokC1 = true → Lib.fieldsGo cur (t ++ r) = Lib.fieldsGo (cur ++ t) r := by
  intro t
  induction t with
  | nil => intro cur r h; simp
  | cons c t ih =>
    intro cur r h
    rw [List.all_cons, Bool.and_eq_true] at h
    rw [List.cons_append, Lib.fieldsGo_more _ _ _ (tokC1_sp h.1).1, ih _ _ h.2, List.append_assoc]
    rfl
theorem fields_sp : ∀ (l : List Bs) (cur : Bs), cur ≠ [] → (∀ t ∈ l, tok t = true) → Lib.fieldsGo cur (sp l) = cur :: l := by
  intro l
  induction l with
  | nil =>
    intro cur h _
    show Lib.fieldsGo cur [] = [cur]
    unfold Lib.fieldsGo
    rw [if_neg (by simp [h])]
  | cons t l ih =>
    intro cur h hl
    have ht := hl t (by simp)
    unfold tok at ht
    rw [Bool.and_eq_true] at ht
    show Lib.fieldsGo cur (32 :: t ++ sp l) = _
    rw [List.cons_append, Lib.fieldsGo_end _ _ _ (by decide) h, fieldsGo_tok t [] _ ht.2, List.nil_append, ih t (by intro e; rw [e] at ht; simp at ht) (fun x hx => hl x (by simp [hx]))]
theorem fields_line (a : Bs) (l : List Bs) (ha : tok a = true) (hl : ∀ t ∈ l, tok t = true) : Lib.fields (a ++ sp l) = a :: l := by
  unfold tok at ha
  rw [Bool.and_eq_true] at ha
  unfold Lib.fields
  rw [fieldsGo_tok a [] _ ha.2, List.nil_append, fields_sp l a (by intro e; rw [e] at ha; simp at ha) hl]
theorem sp_ch (l : List Bs) (hl : ∀ t ∈ l, tok t = true) (c : UInt8) (h : c ∈ sp l) : c = 32 ∨ tokC1 c = true := by
  unfold sp at h
  obtain ⟨t, ht, hc⟩ := List.mem_flatMap.1 h
  rcases List.mem_cons.1 hc with rfl | hc
  · exact .inl rfl
  · have := hl t ht
    unfold tok at this
    rw [Bool.and_eq_true] at this
    exact .inr (List.all_eq_true.1 this.2 c hc)
theorem line_ch (a : Bs) (l : List Bs) (ha : tok a = true) (hl : ∀ t ∈ l, tok t = true) (c : UInt8) (h : c ∈ a ++ sp l) : c = 32 ∨ tokC1 c = true := by
  rcases List.mem_append.1 h with h | h
  · unfold tok at ha
    rw [Bool.and_eq_true] at ha
    exact .inr (List.all_eq_true.1 ha.2 c h)
  · exact sp_ch l hl c h
theorem index_none : ∀ (s : Bs), (59 : UInt8) ∉ s → Lib.index s [59] = -1 := by
  intro s
  induction s with
  | nil => intro _; rfl
  | cons b l ih =>
    intro h
    unfold Lib.index
    have h1 : ([59] : Bs).isPrefixOf (b :: l) = false := by
      have : (59 : UInt8) ≠ b := fun e => h (by simp [e])
      simp [List.isPrefixOf, this]
    rw [h1, if_neg (by decide), ih (fun e => h (by simp [e])), if_pos (by decide)]
theorem cut_none (s : Bs) (h : (59 : UInt8) ∉ s) : (Lib.cut s [59]).1 = s := by
  unfold Lib.cut
  rw [index_none s h, if_neg (by decide)]
theorem line_facts (a : Bs) (l : List Bs) (ha : tok a = true) (hl : ∀ t ∈ l, tok t = true) : (a ++ sp l).all okCh = true ∧ Lib.fields (Lib.cut (a ++ sp l) [59]).1 = a :: l ∧ (10 : UInt8) ∉ a ++ sp l := by
  have hch := line_ch a l ha hl
  refine ⟨?_, ?_, ?_⟩
  · rw [List.all_eq_true]
    intro c hc
    rcases hch c hc with rfl | h
    · decide
    · exact (tokC1_sp h).2.1
  · rw [cut_none _ (fun h => by rcases hch _ h with e | e; exact absurd e (by decide); exact (tokC1_sp e).2.2.1 rfl), fields_line a l ha hl]
  · intro h
    rcases hch _ h with e | e
    · exact absurd e (by decide)
    · exact (tokC1_sp e).2.2.2 rfl
/- Numerals. -/
theorem dec_ch (u : Nat) : ∀ c ∈ Lib.decDigits u, 48 ≤ c.toNat ∧ c.toNat ≤ 57 := by
  induction u using Nat.strongRecOn with
  | _ u ih =>
    intro c hc
    have hd : ∀ k, k < 10 → (UInt8.ofNat (48 + k)).toNat = 48 + k := fun k hk => by rw [UInt8.toNat_ofNat']; omega
    rw [Lib.decDigits] at hc
    split at hc
    · rename_i h
      rw [List.mem_singleton.1 hc, hd u h]; omega
    · rcases List.mem_append.1 hc with h | h
      · exact ih (u / 10) (by omega) c h
      · rw [List.mem_singleton.1 h, hd (u % 10) (by omega)]; omega
theorem dec_ne (u : Nat) : Lib.decDigits u ≠ [] := by
  intro e
  have := Lib.decDigits_length u
  rw [e] at this
  have := Lib.nDigits_pos u
  simp at *
  omega
theorem nDigits_le : ∀ (k u : Nat), u < 10 ^ (k + 1) → Lib.nDigits u ≤ k + 1
  | 0, u, h => by rw [Lib.nDigits_small (by simpa using h)]; exact Nat.le_refl _
  | k + 1, u, h => by
    by_cases h1 : u < 10
    · rw [Lib.nDigits_small h1]; omega
    · rw [Lib.nDigits_big h1]
      have := nDigits_le k (u / 10) (by rw [Nat.pow_succ] at h; omega)
      omega
theorem parse_dec (u : Nat) : u < 1000000000000000000 → ∀ r : Bs, Lib.parseUint10 0 (Lib.decDigits u ++ r) = Lib.parseUint10 u r := by
  induction u using Nat.strongRecOn with
  | _ u ih =>
    intro hu r
    have hd : ∀ k, k < 10 → (UInt8.ofNat (48 + k)).toNat = 48 + k := fun k hk => by rw [UInt8.toNat_ofNat']; omega
    rw [Lib.decDigits]
    split
    · rename_i h
      rw [List.cons_append, List.nil_append, Lib.parseUint10, hd u h, if_pos (by omega), if_neg (by omega), if_neg (by omega)]
      congr 1
      omega
    · rename_i h
      rw [List.append_assoc, ih (u / 10) (by omega) (by omega), List.cons_append, List.nil_append, Lib.parseUint10, hd (u % 10) (by omega), if_pos (by omega), if_neg (by omega), if_neg (by omega)]
      congr 1
      omega
theorem mag_dec (u : Nat) (h : u < 1000000000000000000) : Lib.parseMag (Lib.decDigits u) = .ok u := by
  unfold Lib.parseMag
  rw [if_neg (dec_ne u)]
  have := parse_dec u h []
  rw [List.append_nil] at this
  rw [this]
  rfl
theorem atoi_itoa (n : Int) (h : -1000000000000000000 < n ∧ n < 1000000000000000000) : Lib.atoiAll (Lib.itoa n) = .ok n := by
  unfold Lib.itoa
  by_cases hn : n < 0
  · rw [if_pos hn]
    unfold Lib.atoiAll
    dsimp only
    rw [if_pos (Or.inr (by decide)), mag_dec _ (by omega)]
    dsimp only
    rw [if_neg (by simp), if_neg (by omega), if_pos (by decide)]
    congr 1
    omega
  · rw [if_neg hn]
    have hc := dec_ch n.toNat
    have hm := mag_dec n.toNat (by omega)
    cases hd : Lib.decDigits n.toNat with
    | nil => exact absurd hd (dec_ne _)
    | cons c r =>
      rw [hd] at hc hm
      have h1 := hc c (by simp)
      unfold Lib.atoiAll
      dsimp only
      rw [if_neg (by omega), hm]
      dsimp only
      rw [if_neg (by omega), if_neg (by omega), if_neg (by omega)]
      congr 1
      omega
theorem numB_itoa (n lo hi : Int) (h : -1000000000000000000 < n ∧ n < 1000000000000000000) (h1 : lo ≤ n) (h2 : n ≤ hi) : numB (Lib.itoa n) lo hi = some n := by
  unfold numB
  rw [atoi_itoa n h]
  dsimp only
  rw [if_pos ⟨rfl, h1, h2⟩]
theorem itoa_tok (n : Int) : tok (Lib.itoa n) = true := by
  have key : ∀ u, (Lib.decDigits u).all tokC1 = true := fun u => by
    rw [List.all_eq_true]
    intro c hc
    have := dec_ch u c hc
    exact decide_eq_true ⟨by omega, by omega, by omega⟩
  unfold Lib.itoa tok
  split
  · simp [key]; decide
  · rw [key, Bool.and_true]
    have := dec_ne n.toNat
    simp [this]
theorem itoa_one (a : Nat) (h : a < 8) : Lib.itoa (a : Int) = [UInt8.ofNat (48 + a)] := by
  unfold Lib.itoa
  rw [if_neg (by omega), Int.toNat_natCast, Lib.decDigits_one (by omega)]
theorem reg_show : ∀ a : Fin 8, regB [114, UInt8.ofNat (48 + a.val)] = true ∧ (UInt8.ofNat (48 + a.val)).toNat - 48 = a.val ∧ tok [114, UInt8.ofNat (48 + a.val)] = true := by decide +kernel
theorem name_show : ∀ k : Fin 27, k.val ≠ 0 → tok (rowN k.val).1 = true ∧ Lib.hasSuffix (rowN k.val).1 [58] = false ∧ (rowN k.val).1 ≠ [119, 111, 114, 100] ∧ (rowN k.val).1.length ≤ 6 := by decide +kernel
theorem op_in {w : Nat} (h : okW w) : 1 ≤ opN w ∧ opN w ≤ 26 := by
  have h1 := h.1
  have h0 : opN w ≠ 0 := fun e => h1 (by rw [e]; rfl)
  refine ⟨by omega, ?_⟩
  by_cases hh : opN w ≤ 26
  · exact hh
  · exfalso
    apply h1
    unfold rowN
    rw [if_neg h0, List.getD_eq_getElem?_getD, List.getElem?_eq_none (by simp [rowsL]; omega)]
    rfl
theorem tok_head (w : Nat) : tok (headW w) = true := by
  unfold headW
  split
  · rename_i h
    have := op_in h
    exact (name_show ⟨opN w, by omega⟩ (by show opN w ≠ 0; omega)).1
  · decide
theorem tok_tail (w : Nat) : ∀ t ∈ tailW w, tok t = true := by
  intro t ht
  unfold tailW at ht
  split at ht
  · rename_i h
    rcases List.mem_append.1 ht with ht | ht
    · unfold tokA at ht
      split at ht
      · rw [List.mem_singleton.1 ht, itoa_one _ h.2.1]; exact (reg_show ⟨aN w, h.2.1⟩).2.2
      · cases ht
    · rcases List.mem_append.1 ht with ht | ht
      · unfold tokB at ht
        split at ht
        · rw [List.mem_singleton.1 ht, itoa_one _ h.2.2.1]; exact (reg_show ⟨bN w, h.2.2.1⟩).2.2
        · cases ht
      · unfold tokC at ht
        split at ht
        · rw [List.mem_singleton.1 ht]; exact itoa_tok _
        · cases ht
  · rw [List.mem_singleton.1 ht]; exact itoa_tok _
theorem regT_show (F k : Nat) (a : Nat) (r : List Bs) (ha : a < 8) (h : F / k % 2 = 1 ∨ a = 0) : regT (bitB F k) ((if F / k % 2 = 1 then [114 :: Lib.itoa (a : Int)] else []) ++ r) = some (a, r) := by
  unfold bitB
  by_cases hb : F / k % 2 = 1
  · rw [if_pos hb, itoa_one a ha]
    have := reg_show ⟨a, ha⟩
    unfold regT
    rw [if_pos (decide_eq_true hb)]
    simp only [List.cons_append, List.nil_append]
    rw [if_pos this.1]
    have e : ([114, UInt8.ofNat (48 + a)] : Bs).getD 1 0 = UInt8.ofNat (48 + a) := rfl
    rw [e, this.2.1]
  · rw [if_neg hb]
    unfold regT
    rw [if_neg (by simp [hb])]
    rcases h with h | h
    · exact absurd h hb
    · subst h; rfl
theorem put_kind (u : UnD) (w k : Nat) : u.put w [] k = u.put w [] 0 := rfl
theorem line_show (u : UnD) (w : Nat) (hw : w ≤ 4294967295) (h : u.code.length ≠ 128) : lineL u (showL w) = .ok (u.put w [] 0) := by
  obtain ⟨e1, e2, -⟩ := line_facts (headW w) (tailW w) (tok_head w) (tok_tail w)
  by_cases ho : okW w
  · have hop := op_in ho
    have hn := name_show ⟨opN w, by omega⟩ (by show opN w ≠ 0; omega)
    have hh : headW w = (rowN (opN w)).1 := by unfold headW; rw [if_pos ho]
    have ht : tailW w = tokA w ++ (tokB w ++ tokC w) := by unfold tailW; rw [if_pos ho]
    refine line_inst (a := (rowN (opN w)).1) (r := tailW w) e1 (by unfold showL; rw [e2, hh]) hn.2.1 h hn.2.2.1 ?_
    have hnum : numOf (rowN (opN w)).1 = opN w := numOf_hit (opN w) hop.1 hop.2 _ rfl
    unfold orderL
    rw [hnum, if_neg (by omega), ht]
    have rA : regT (bitB (fN w) 1) (tokA w ++ (tokB w ++ tokC w)) = some (aN w, tokB w ++ tokC w) := by
      have := regT_show (fN w) 1 (aN w) (tokB w ++ tokC w) ho.2.1 (by rw [Nat.div_one]; exact ho.2.2.2.1)
      rw [Nat.div_one] at this
      exact this
    have rB : regT (bitB (fN w) 2) (tokB w ++ tokC w) = some (bN w, tokC w) := regT_show (fN w) 2 (bN w) (tokC w) ho.2.2.1 ho.2.2.2.2.1
    have rC : lastT (bitB (fN w) 4) (tokC w) = some (cI w, [], []) := by
      unfold tokC bitB lastT
      by_cases hb : fN w / 4 % 2 = 1
      · rw [if_pos hb, if_pos (decide_eq_true hb)]
        have hc := cI_range w
        simp only
        rw [numB_itoa (cI w) _ _ (by omega) hc.1 hc.2]
      · rw [if_neg hb, if_neg (by simp [hb])]
        rcases ho.2.2.2.2.2 with h' | h'
        · exact absurd h' hb
        · rw [h']
    show (regT (bitB (fN w) 1) _).bind _ = _
    rw [rA]
    show (regT (bitB (fN w) 2) _).bind _ = _
    rw [rB]
    show (lastT (bitB (fN w) 4) _).bind _ = _
    rw [rC]
    show (if ([] : List Bs) = [] then some (u.put (opW (opN w) (aN w) (bN w) (cI w)) [] _) else none) = _
    rw [if_pos rfl, opW_back]
    rfl
  · have hh : headW w = [119, 111, 114, 100] := by unfold headW; rw [if_neg ho]; rfl
    have ht : tailW w = [Lib.itoa w] := by unfold tailW; rw [if_neg ho]
    refine line_word (r := tailW w) e1 (by unfold showL; rw [e2, hh]) h ?_
    rw [ht]
    unfold wordL'
    dsimp only
    have hnm : nameB (Lib.itoa (w : Int)) = false := by
      unfold nameB Lib.itoa
      rw [if_neg (by omega), Int.toNat_natCast]
      have hc := dec_ch w
      cases hd : Lib.decDigits w with
      | nil => exact absurd hd (dec_ne _)
      | cons c r =>
        rw [hd] at hc
        have h1 := hc c (by simp)
        have h2 : chB 0 c = false := by unfold chB; exact decide_eq_false (by omega)
        rw [chsB, h2]
        simp
    rw [hnm, if_neg (by decide), numB_itoa (w : Int) _ _ (by omega) (by omega) (by omega)]
    simp only [Int.toNat_natCast]
theorem lines_show : ∀ (l : List Nat) (k : Nat) (u : UnD), (∀ x ∈ l, x ≤ 4294967295) → u.code.length + l.length ≤ 128 → linesL k u (l.map showL) = .ok ⟨u.code ++ l, u.marks, u.needs⟩ := by
  intro l
  induction l with
  | nil => intro k u _ _; show Out.ok u = _; rw [List.append_nil]
  | cons x l ih =>
    intro k u hx hl
    rw [List.length_cons] at hl
    rw [List.map_cons, lines_step (line_show u x (hx x (by simp)) (by omega)), ih (k + 1) (u.put x [] 0) (fun y hy => hx y (by simp [hy])) (by simp [UnD.put]; omega)]
    show Out.ok ⟨u.code ++ [x] ++ l, u.marks, u.needs⟩ = _
    rw [List.append_assoc]
    rfl
theorem itoa_len (n : Int) (h : -100000000000 < n ∧ n < 100000000000) : (Lib.itoa n).length ≤ 12 := by
  have key : ∀ u : Nat, u < 100000000000 → (Lib.decDigits u).length ≤ 11 := fun u hu => by
    rw [Lib.decDigits_length]
    exact nDigits_le 10 u (by simpa using hu)
  unfold Lib.itoa
  split
  · have := key n.natAbs (by omega)
    simp; omega
  · have := key n.toNat (by omega)
    omega
theorem show_len (w : Nat) (hw : w ≤ 4294967295) : (showL w).length ≤ 40 := by
  unfold showL headW tailW
  split
  · rename_i ho
    have hop := op_in ho
    have hn := (name_show ⟨opN w, by omega⟩ (by show opN w ≠ 0; omega)).2.2.2
    have hc := cI_range w
    have hl := itoa_len (cI w) (by omega)
    have ha := congrArg List.length (itoa_one _ ho.2.1)
    have hb := congrArg List.length (itoa_one _ ho.2.2.1)
    simp only [List.length_cons, List.length_nil] at ha hb hn
    unfold tokA tokB tokC sp
    rw [List.length_append]
    split <;> split <;> split <;> simp <;> omega
  · have hl := itoa_len (w : Int) (by omega)
    simp [sp, wordB]
    omega
theorem show_nl (w : Nat) : (10 : UInt8) ∉ showL w := (line_facts (headW w) (tailW w) (tok_head w) (tok_tail w)).2.2
def shText (l : List Nat) : Bs := Lib.join (l.map showL) [10]
theorem shText_len (l : List Nat) (h : l.length ≤ 40) (hx : ∀ x ∈ l, x ≤ 4294967295) : (shText l).length ≤ 2000 := by
  cases l with
  | nil => decide
  | cons x l =>
    unfold shText
    rw [List.map_cons, join_len]
    have h1 := show_len x (hx x (by simp))
    have h2 := lens_le (l.map showL) 40 (fun y hy => by obtain ⟨z, hz, rfl⟩ := List.mem_map.1 hy; exact show_len z (hx z (by simp [hz])))
    simp only [List.length_map, List.length_cons] at h2 h ⊢
    omega
theorem line_empty' (u : UnD) : lineL u [] = .ok u := by rfl
theorem read_show (l : List Nat) (h : l.length ≤ 40) (hx : ∀ x ∈ l, x ≤ 4294967295) : linesL 0 unit0 (linesOf (shText l)) = .ok ⟨l, [], []⟩ ∧ settleL ⟨l, [], []⟩ = ⟨l, [], []⟩ := by
  refine ⟨?_, settle_none _ rfl⟩
  cases l with
  | nil =>
    have : linesOf (shText []) = [[]] := lines_join [] [] (by simp) (by simp)
    rw [this, lines_step (line_empty' unit0)]
    rfl
  | cons x l =>
    have : linesOf (shText (x :: l)) = (x :: l).map showL := lines_join (showL x) (l.map showL) (show_nl x) (fun y hy => by obtain ⟨z, _, rfl⟩ := List.mem_map.1 hy; exact show_nl z)
    rw [this]
    exact lines_show (x :: l) 0 unit0 hx (by show 0 + _ ≤ 128; omega)
def setB : Bs := [115, 101, 116, 32, 114, 49, 32, 53]
theorem read_set : linesL 0 unit0 (linesOf setB) = .ok ⟨[34603013], [], []⟩ ∧ settleL ⟨[34603013], [], []⟩ = ⟨[34603013], [], []⟩ := by
  refine ⟨?_, settle_none _ rfl⟩
  have h1 : linesOf setB = [setB] := lines_join setB [] (by decide) (by simp)
  rw [h1, lines_step (s := setB) (line_setr1 unit0 (by decide))]
  rfl
end Go.Proofs.YtikbfmjhmjkkgaaDoor
