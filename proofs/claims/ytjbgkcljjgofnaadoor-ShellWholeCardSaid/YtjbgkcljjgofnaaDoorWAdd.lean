/- The contract of (*reader).add. -/
import Derived.Test.YtjbgkcljjgofnaaDoorWMem
namespace Go.Proofs.YtjbgkcljjgofnaaDoor
open Go.RowKit
set_option linter.unusedVariables false

set_option maxHeartbeats 8000000 in
set_option maxRecDepth 100000 in
theorem add_any (w0 : World) (gr : Nat) (s r : List UInt8) (ps : List PartD) (bad : Int) (w : World) (h : RdAt w0 gr s r ps bad w) (x : List UInt8) (q : Bool) (hx : x.length ≤ 1000000) (hps : ps.length ≤ 1000000) (hpt : ∀ p ∈ ps, p.text.length ≤ 1000000) :
    Calls Tryd.prog 34 #[.pointer (some ⟨gr, 0, none⟩), .string (str x), .bool q] w fun e w' => e = .returned (.tuple #[]) ∧ RdAt w0 gr s r (addP ps x q) bad w' := by
  obtain ⟨i0, hi0, hz0, hz1, hz2⟩ := info_parts part_info
  obtain ⟨A, c, hb, ho⟩ := h.box
  have c0 : w.cell? ⟨gr, 0, none⟩ = some (.string (str s)) := hb.cell 0
  have c2 : w.cell? ⟨gr, 2, none⟩ = some (.slice A ps.length c) := hb.cell 2
  have hf : w.frozen? ⟨gr, 2, none⟩ = false := hb.frozen 2
  have hsz := h.grown.size
  have HM := hide h
  have HB := hide hb
  have HO := hide ho
  obtain ⟨X, hX⟩ : ∃ X, str x = X := ⟨_, rfl⟩
  have HX := hide hX
  have hXs : X.size ≤ 1000000 := by rw [← hX, str_size]; exact hx
  rcases List.eq_nil_or_concat ps with rfl | ⟨ps0, p, rfl⟩
  · have n1 : some gr ≠ Value.ownBlock (.slice A 0 c) := Ne.symm (own_blk_ne ho hb (by decide))
    have HRS := hide ((Blk.new w 60 #[.string X, .bool false, .bool q]).rowsF 1 3 rfl)
    have HB2 := hide (hb.alloc (.cells #[.string X, .bool false, .bool q] 60))
    have HXA := hide ((Ext.refl w).alloc (.cells #[.string X, .bool false, .bool q] 60))
    rw [hX]
    clear h hb ho hX
    change w.cell? ⟨gr, 2, none⟩ = some (.slice A 0 c) at c2
    go_enter Tryd.func34, Tryd.ntmps34
    go_wp2_with (at_builtin; refine wpList_append_any _ rfl (.tmp 56) (.tmp 60) _ rfl w0.heap.size 60 i0 _ 3 24 Tryd.underlying45 hi0 hz0 hz1 hz2 rfl (by omega) _ 0 [] rfl (HXA.out.own HO.out) _ _ 1 1 [.string X, .bool false, .bool q] rfl HRS.out (by simp [Value.oneCell']) (by simp [maxLen]) (by omega) (by simp; omega) ?_; intro A3 c3 w3 ho3 hg3 ha3; have hf3 : w3.frozen? ⟨gr, 2, none⟩ = false := (HB2.out.grown hg3 n1).frozen 2; have hk3 : w3.cell? ⟨gr, 2, none⟩ = some (.slice A 0 c) := (HB2.out.grown hg3 n1).cell 2)
    have HZ := hide (HM.out.more ⟨x, false, q⟩ HXA.out HB.out HO.out (by rw [← HX.out] at ho3; exact ho3) hg3)
    clear ho3 hg3 ha3 HM HB HO HRS HB2 HXA
    (first | go_end0 | ((try simp only [Exit.inBlock, Exit.then]); refine bodyPost_ret (results_none rfl _ _ _) rfl ?_))
    exact ⟨rfl, HZ.out⟩
  · rw [List.concat_eq_append] at *
    have hl : (ps0 ++ [p]).length = ps0.length + 1 := by simp
    have HL := hide hl
    have hrd := Reads.of_own ho
    obtain ⟨g, rfl, hg0, hg1, hg2, hg3⟩ := own_addr ho (by omega)
    have hj : ∀ (j : Nat) (hj : j < 3) (u : Value), (partC p)[j]? = some u → w.cell? ⟨g, ps0.length * 3 + j, none⟩ = some u := fun j hj u hu => by
      have := Reads.elem partC_len hrd ps0.length (by omega) (by omega) j hj (u := u) (by simpa using hu)
      rwa [Nat.zero_add] at this
    have p0 := hj 0 (by omega) (.string (str p.text)) rfl
    have p1 := hj 1 (by omega) (.bool p.var) rfl
    have p2 := hj 2 (by omega) (.bool p.quoted) rfl
    rw [Nat.add_zero] at p0
    have hpl : p.text.length ≤ 1000000 := hpt p (by simp)
    have HAP := hide (addP_snoc ps0 p x q)
    have hfz : w.frozen? ⟨g, ps0.length * 3, none⟩ = false := (own_cell ho (ps0.length * 3) (u := .string (str p.text)) (by
      have := flat_get (f := partC) (k := 3) partC_len (ps0 ++ [p]) ps0.length 0 (by omega) (by omega)
      rw [Nat.add_zero] at this
      rw [this]
      simp [partC])).2
    obtain ⟨T, hT⟩ : ∃ T, str p.text = T := ⟨_, rfl⟩
    have hTs : T.size ≤ 1000000 := by rw [← hT, str_size]; exact hpl
    have HTX := hide (show T ++ X = str (p.text ++ x) by rw [← hT, ← hX, str_append])
    rw [hT] at p0
    rw [hX]
    have n1 : some gr ≠ Value.ownBlock (.slice (some ⟨g, 0, none⟩) (ps0 ++ [p]).length c) := Ne.symm (own_blk_ne ho hb (by decide))
    have HN1 := hide n1
    have HRS := hide ((Blk.new w 60 #[.string X, .bool false, .bool q]).rowsF 1 3 rfl)
    have HB2 := hide (hb.alloc (.cells #[.string X, .bool false, .bool q] 60))
    have HXA := hide ((Ext.refl w).alloc (.cells #[.string X, .bool false, .bool q] 60))
    have HTL := hide (HM.out.told rfl HB.out HO.out (p.text ++ x))
    rw [hl] at c2 hg2
    obtain ⟨m, hm⟩ : ∃ m, ps0.length = m := ⟨_, rfl⟩
    rw [hm] at p0 p1 p2 hfz hl c2 hg2
    have HMM := hide hm
    have HLM := hide hl
    have hm6 : m + 1 ≤ 1000000 := by omega
    clear h hb ho hX hj hrd hpt hT hm hps n1 hl
    obtain ⟨tx, v, q'⟩ := p
    dsimp only at p1 p2 HAP HTX HTL
    have app : ∀ tq : Bool, tq = q → ¬ (v = false ∧ q' = tq) → Calls Tryd.prog 34 #[.pointer (some ⟨gr, 0, none⟩), .string X, .bool q] w fun e w' => e = .returned (.tuple #[]) ∧ RdAt w0 gr s r (addP (ps0 ++ [(⟨tx, v, q'⟩ : PartD)]) x q) bad w' := by
      intro tq htq hno
      subst htq
      rw [if_neg hno] at HAP
      have HAP2 := hide (HAP.out.trans (show ps0 ++ [(⟨tx, v, q'⟩ : PartD), ⟨x, false, tq⟩] = (ps0 ++ [(⟨tx, v, q'⟩ : PartD)]) ++ [⟨x, false, tq⟩] by simp))
      have HOM := hide (show (w.alloc (.cells #[.string X, .bool false, .bool tq] 60)).ownsRow w0.heap.size 60 3 (.slice (some ⟨g, 0, none⟩) (m + 1) c) (m + 1) ((ps0 ++ [(⟨tx, v, q'⟩ : PartD)]).flatMap partC) from by have h := HXA.out.own HO.out; rw [HLM.out] at h; exact h)
      have hbm : m + 1 + 1 ≤ maxLen := by simp [maxLen]; omega
      have hbs : w0.heap.size ≤ (w.alloc (.cells #[.string X, .bool false, .bool tq] 60)).heap.size := by simp; omega
      have HK3 := hide (fun (w3 : World) (hg3 : (w.alloc (.cells #[.string X, .bool false, .bool tq] 60)).grownBy w3 (Value.ownBlock (.slice (some ⟨g, 0, none⟩) (m + 1) c))) => (show w3.frozen? ⟨gr, 2, none⟩ = false ∧ w3.cell? ⟨gr, 2, none⟩ = some (.slice (some ⟨g, 0, none⟩) (m + 1) c) from by
        rw [← HLM.out] at hg3
        exact ⟨(HB2.out.grown hg3 HN1.out).frozen 2, by have := (HB2.out.grown hg3 HN1.out).cell 2; rw [HLM.out] at this; exact this⟩))
      have hdec : (if v = false then q' == tq else false) = false := by
        cases v
        · simp only [if_true]
          cases q' <;> cases tq <;> simp_all
        · rfl
      cases v
      · have hqq : (q' == tq) = false := by simpa using hdec
        clear hdec hno HAP
        go_enter Tryd.func34, Tryd.ntmps34
        go_wp2_with (at_builtin; refine wpList_append_any _ rfl (.tmp 56) (.tmp 60) _ rfl w0.heap.size 60 i0 _ 3 24 Tryd.underlying45 hi0 hz0 hz1 hz2 rfl (by omega) _ (m + 1) ((ps0 ++ [(⟨tx, false, q'⟩ : PartD)]).flatMap partC) rfl HOM.out _ _ 1 1 [.string X, .bool false, .bool tq] rfl HRS.out (by simp [Value.oneCell']) hbm (by omega) hbs ?_; intro A3 c3 w3 ho3 hg3 ha3; obtain ⟨hf3, hk3⟩ := HK3.out w3 hg3)
        have HZ := hide (show RdAt w0 gr s r (addP (ps0 ++ [(⟨tx, false, q'⟩ : PartD)]) x tq) bad (w3.setCell ⟨gr, 2, none⟩ (.slice A3 (m + 1 + 1) c3)) from by
          have h := HM.out.more (A' := A3) (c' := c3) (W := w3) ⟨x, false, tq⟩ HXA.out HB.out HO.out (by rw [HLM.out]; rw [← HX.out] at ho3; exact ho3) (by rw [HLM.out]; exact hg3)
          rw [HLM.out, ← HAP2.out] at h
          exact h)
        clear ho3 hg3 ha3 HM HB HO HRS HB2 HXA HOM HK3 HTL
        (first | go_end0 | ((try simp only [Exit.inBlock, Exit.then]); refine bodyPost_ret (results_none rfl _ _ _) rfl ?_))
        exact ⟨rfl, HZ.out⟩
      · clear hdec hno HAP
        go_enter Tryd.func34, Tryd.ntmps34
        go_wp2_with (at_builtin; refine wpList_append_any _ rfl (.tmp 56) (.tmp 60) _ rfl w0.heap.size 60 i0 _ 3 24 Tryd.underlying45 hi0 hz0 hz1 hz2 rfl (by omega) _ (m + 1) ((ps0 ++ [(⟨tx, true, q'⟩ : PartD)]).flatMap partC) rfl HOM.out _ _ 1 1 [.string X, .bool false, .bool tq] rfl HRS.out (by simp [Value.oneCell']) hbm (by omega) hbs ?_; intro A3 c3 w3 ho3 hg3 ha3; obtain ⟨hf3, hk3⟩ := HK3.out w3 hg3)
        have HZ := hide (show RdAt w0 gr s r (addP (ps0 ++ [(⟨tx, true, q'⟩ : PartD)]) x tq) bad (w3.setCell ⟨gr, 2, none⟩ (.slice A3 (m + 1 + 1) c3)) from by
          have h := HM.out.more (A' := A3) (c' := c3) (W := w3) ⟨x, false, tq⟩ HXA.out HB.out HO.out (by rw [HLM.out]; rw [← HX.out] at ho3; exact ho3) (by rw [HLM.out]; exact hg3)
          rw [HLM.out, ← HAP2.out] at h
          exact h)
        clear ho3 hg3 ha3 HM HB HO HRS HB2 HXA HOM HK3 HTL
        (first | go_end0 | ((try simp only [Exit.inBlock, Exit.then]); refine bodyPost_ret (results_none rfl _ _ _) rfl ?_))
        exact ⟨rfl, HZ.out⟩
    cases v
    · by_cases hqq : q' = q
      · subst hqq
        rw [if_pos ⟨rfl, rfl⟩] at HAP
        clear app
        have HZ := hide (show RdAt w0 gr s r (addP (ps0 ++ [(⟨tx, false, q'⟩ : PartD)]) x q') bad (w.setCell ⟨g, m * 3, none⟩ (.string (T ++ X))) from by
          rw [HAP.out, HTX.out, ← HMM.out]
          exact HTL.out)
        clear HTL HAP HTX
        go_enter Tryd.func34, Tryd.ntmps34
        go_wp2_with fail
        (first | go_end0 | ((try simp only [Exit.inBlock, Exit.then]); refine bodyPost_ret (results_none rfl _ _ _) rfl ?_))
        exact ⟨rfl, HZ.out⟩
      · exact app q rfl (fun e => hqq e.2)
    · exact app q rfl (fun e => by cases e.1)
end Go.Proofs.YtjbgkcljjgofnaaDoor
