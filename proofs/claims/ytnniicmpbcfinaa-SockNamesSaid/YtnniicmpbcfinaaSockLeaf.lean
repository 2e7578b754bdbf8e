/- Contracts of New, find, Make, named, joined. -/
import Derived.Test.YtnniicmpbcfinaaSock
namespace Go.Proofs.Ytnniicmpbcfinaa
open Go.RowKit
set_option linter.unusedVariables false

section
variable {w0 w w' : World} {gs : Nat} {S : Nat → Option SkD} {M : Nat → MemS}
/-- A new socket in a free place. -/
theorem SkAt.add (h : SkAt w0 gs S M w) (k b : Nat) (d : SkD) (hk : k < 16) (hS : S k = none) (hb : w.heap.size ≤ b) (hg : w.grownBy w' (some gs)) (ht : Arr w' gs 53 16 (updN (ptrS S M) k (.pointer (some ⟨b, 0, none⟩))))
    (hbox : Blk w' b 49 (oneC d nilV nilV)) (hdq : d.queue = []) (hdi : d.inn = []) : SkAt w0 gs (updN S k (some d)) (updN M k ⟨b, nilV, nilV⟩) w' := by
  obtain ⟨cs, hT⟩ := h.blkT
  have oth : ∀ j e, updN S k (some d) j = some e → j ≠ k → S j = some e ∧ updN M k ⟨b, nilV, nilV⟩ j = M j := fun j e he hj => by
    rw [updN_other _ _ _ _ hj] at he ⊢
    exact ⟨he, rfl⟩
  refine ⟨ht.congr (fun o ho => ?_), ?_, ?_, ?_, ?_, ?_, ?_, ?_, h.gsb, ?_, ?_⟩
  · by_cases e : o = k
    · subst e; simp [ptrS, updN]
    · simp [ptrS, updN, e]
  · intro j hj
    rw [updN_other _ _ _ _ (by omega)]
    exact h.far j hj
  · intro j e he
    by_cases hj : j = k
    · subst hj
      rw [updN_same] at he ⊢
      injection he with he
      subst he
      exact hbox
    · obtain ⟨h1, h2⟩ := oth j e he hj
      rw [h2]
      have hbj := h.box j e h1
      exact hbj.grown hg (fun e' => by injection e' with e'; exact Blk.ne_ hbj hT (by decide) e')
  · intro j e he
    by_cases hj : j = k
    · subst hj
      rw [updN_same] at he ⊢
      injection he with he
      subst he
      rw [hdq]
      exact World.ownsRow_nil _ _ _ _
    · obtain ⟨h1, h2⟩ := oth j e he hj
      rw [h2]
      have hqj := h.q j e h1
      exact own_of_keep hqj (fun k' hv => hg.block k' (hqj.lt k' hv).2 (fun e' => own_blk_ne hqj hT (by decide) (by rw [hv, e'])))
  · intro j e he
    by_cases hj : j = k
    · subst hj
      rw [updN_same] at he ⊢
      injection he with he
      subst he
      rw [hdi]
      exact World.ownsRow_nil _ _ _ _
    · obtain ⟨h1, h2⟩ := oth j e he hj
      rw [h2]
      have hqj := h.inn j e h1
      exact own_of_keep hqj (fun k' hv => hg.block k' (hqj.lt k' hv).2 (fun e' => own_blk_ne hqj hT (by decide) (by rw [hv, e'])))
  · intro j l e e' he he' hbe
    by_cases hj : j = k <;> by_cases hl : l = k
    · rw [hj, hl]
    · subst hj
      obtain ⟨h1, h2⟩ := oth l e' he' hl
      rw [updN_same, h2] at hbe
      have := (h.box l e' h1).lt
      dsimp only at hbe
      omega
    · subst hl
      obtain ⟨h1, h2⟩ := oth j e he hj
      rw [updN_same, h2] at hbe
      have := (h.box j e h1).lt
      dsimp only at hbe
      omega
    · obtain ⟨h1, h2⟩ := oth j e he hj
      obtain ⟨h3, h4⟩ := oth l e' he' hl
      rw [h2, h4] at hbe
      exact h.bi j l e e' h1 h3 hbe
  · intro j l e e' q he he' hv hv'
    by_cases hj : j = k
    · subst hj; rw [updN_same] at hv; simp [Value.ownBlock] at hv
    · by_cases hl : l = k
      · subst hl; rw [updN_same] at hv'; simp [Value.ownBlock] at hv'
      · obtain ⟨h1, h2⟩ := oth j e he hj
        obtain ⟨h3, h4⟩ := oth l e' he' hl
        rw [h2] at hv
        rw [h4] at hv'
        exact h.qi j l e e' q h1 h3 hv hv'
  · intro j l e e' q he he' hv hv'
    by_cases hj : j = k
    · subst hj; rw [updN_same] at hv; simp [Value.ownBlock] at hv
    · by_cases hl : l = k
      · subst hl; rw [updN_same] at hv'; simp [Value.ownBlock] at hv'
      · obtain ⟨h1, h2⟩ := oth j e he hj
        obtain ⟨h3, h4⟩ := oth l e' he' hl
        rw [h2] at hv
        rw [h4] at hv'
        exact h.ii j l e e' q h1 h3 hv hv'
  · intro j e he
    by_cases hj : j = k
    · subst hj
      rw [updN_same]
      have := h.ext.size
      dsimp only
      omega
    · obtain ⟨h1, h2⟩ := oth j e he hj
      rw [h2]
      exact h.bb j e h1
  · exact h.ext.grown hg (fun j hj => by injection hj with hj; have := h.gsb; omega)
end

abbrev z16 : Array Value := #[.pointer none, .pointer none, .pointer none, .pointer none, .pointer none, .pointer none, .pointer none, .pointer none, .pointer none, .pointer none, .pointer none, .pointer none, .pointer none, .pointer none, .pointer none, .pointer none]
def MemZ : Nat → MemS := fun _ => ⟨0, nilV, nilV⟩
theorem new_any (w : World) : Calls Try.prog 12 #[] w fun e w' => e = .returned (.pointer (some ⟨w.heap.size, 0, none⟩)) ∧ SkAt w w.heap.size (fun _ => none) MemZ w' := by
  go_enter Try.func12, Try.ntmps12
  go_wp2
  go_ret
  refine ⟨rfl, ⟨?_, fun _ _ => rfl, (fun _ _ h => by cases h), (fun _ _ h => by cases h), (fun _ _ h => by cases h), (fun _ _ _ _ h => by cases h), (fun _ _ _ _ _ h => by cases h), (fun _ _ _ _ _ h => by cases h), Nat.le_refl _, (fun _ _ h => by cases h), (Ext.refl w).alloc _⟩⟩
  exact (Blk.arr (n := 16) (Blk.new w 53 z16) (.pointer none) rfl).congr (fun o _ => by simp [ptrS])
theorem find_at {w0 : World} {gs : Nat} {S : Nat → Option SkD} {M : Nat → MemS} (i : Nat) (w : World) (h : SkAt w0 gs S M w) (hi : i < 16) :
    Calls Try.prog 25 #[.pointer (some ⟨gs, 0, none⟩), .int .i64 ((i : Int) + 1)] w fun e w' => e = .returned (ptrS S M i) ∧ w = w' := by
  have hc : w.cell? ⟨gs, i, none⟩ = some (ptrS S M i) := h.tab.cell i hi
  clear h
  generalize ptrS S M i = p at *
  go_enter Try.func25, Try.ntmps25
  go_wp2
  go_ret
  exact ⟨rfl, rfl⟩
theorem find_zero (gs : Nat) (w : World) :
    Calls Try.prog 25 #[.pointer (some ⟨gs, 0, none⟩), .int .i64 0] w fun e w' => e = .returned (.pointer none) ∧ w = w' := by
  go_enter Try.func25, Try.ntmps25
  go_wp2
  go_ret
  exact ⟨rfl, rfl⟩
theorem nil_equalIn {P : Program} {t e : TypeId} (h : P.underlying t = some (.pointer e)) (w : World) (a : Addr) (d : Nat) : (Op.equalIn (d + 1) t (.pointer none) (.pointer (some a))).run P w = .ok false w := by
  simp [Op.equalIn, run_underlying h]
theorem nil_equal {P : Program} {t e : TypeId} (h : P.underlying t = some (.pointer e)) (w : World) (a : Addr) : (Op.equal t (.pointer none) (.pointer (some a))).run P w = .ok false w := nil_equalIn h w a 9999
theorem nil_eql {P : Program} {t e : TypeId} (h : P.underlying t = some (.pointer e)) (w : World) (a : Addr) : (binOp .eql t (.pointer none) (.pointer (some a))).run P w = .ok (.bool false) w := by
  simp only [binOp]
  simp [nil_equal h w a]
theorem index_at {w0 : World} {gs : Nat} {S : Nat → Option SkD} {M : Nat → MemS} (i : Nat) (w : World) (h : SkAt w0 gs S M w) (hi : i < 16) (hp : S i = none) (hj : ∀ j, j < i → (S j).isSome = true) :
    Calls Try.prog 24 #[.slice (some ⟨gs, 0, none⟩) 16 16, .pointer none] w fun e w' => e = .returned (.int .i64 i) ∧ w = w' := by
  have HT := hide h.tab
  have HP := hide hp
  have HJ := hide hj
  clear h hp hj
  go_enter Try.func24, Try.ntmps24
  go_wp2
  go_loop [8] (fun n => ∃ k : Nat, k ≤ i ∧ n = .int .i64 k) (fun n => 16 - (intOf n).toNat)
  case atStart => exact ⟨0, Nat.zero_le _, rfl⟩
  case round =>
    obtain ⟨k, hk, rfl⟩ := hrel
    by_cases hlt : k < i
    · have hc : w.cell? ⟨gs, k, none⟩ = some (.pointer (some ⟨(M k).b, 0, none⟩)) := by
        have := HT.out.cell k (by omega)
        simpa [ptrS, HJ.out k hlt] using this
      generalize (⟨(M k).b, 0, none⟩ : Addr) = a at *
      have he := fun W => nil_eql Try.underlying45 W a
      go_wp2
      go_round
      case rel => exact ⟨k + 1, by omega, by go_num⟩
      case measure => simp [intOf]; omega
    · obtain rfl : k = i := by omega
      have hc : w.cell? ⟨gs, k, none⟩ = some (.pointer none) := by
        have := HT.out.cell k hi
        simpa [ptrS, HP.out] using this
      go_wp2
      go_ret
      exact ⟨rfl, rfl⟩
abbrev zOne : Array Value := #[.int .i64 0, .int .i64 0, .int .i64 0, .slice none 0 0, .int .i64 0, .slice none 0 0, .bool false]
theorem make_at {w0 : World} {gs : Nat} {S : Nat → Option SkD} {M : Nat → MemS} (i : Nat) (w : World) (h : SkAt w0 gs S M w) (hi : i < 16) (hp : S i = none) (hj : ∀ j, j < i → (S j).isSome = true) :
    Calls Try.prog 13 #[.pointer (some ⟨gs, 0, none⟩)] w fun e w' => e = .returned (.tuple #[.int .i64 ((i : Int) + 1), .int .i64 0]) ∧ SkAt w0 gs (updN S i (some skZero)) (updN M i ⟨w.heap.size, nilV, nilV⟩) w' ∧ w.grownBy w' (some gs) := by
  have HI := hide (index_at i w h hi hp hj)
  have HA := hide (fun w' => h.add (w' := w') i w.heap.size skZero hi hp (Nat.le_refl _))
  have HT := hide h.tab
  have c0 : w.cell? ⟨gs, i, none⟩ = some (.pointer none) := by
    have := h.tab.cell i hi
    simpa [ptrS, hp] using this
  have f0 := h.tab.frozen i
  have hlt := h.tab.lt
  clear h hp hj
  go_enter Try.func13, Try.ntmps13
  go_wp2_with fail
  refine HI.out.mono ?_
  rintro e w' ⟨rfl, rfl⟩
  have h0 : (0 : Int) ≤ (i : Int) := by omega
  have h1 : (i : Int) < 16 := by omega
  have hal := alloc_old w
  have hfa : ∀ (o : Obj) (b o' : Nat), b < w.heap.size → (w.alloc o).frozen? ⟨b, o', none⟩ = w.frozen? ⟨b, o', none⟩ := fun o b o' hb => Below.frozen ((Ext.refl w).alloc o) (p := ⟨b, o', none⟩) hb
  go_wp2_with fail
  go_ret2
  have hg : w.grownBy ((w.setCell ⟨gs, i, none⟩ (.pointer (some ⟨w.heap.size, 0, none⟩))).alloc (.cells zOne 49)) (some gs) :=
    ⟨rfl, rfl, rfl, by simp, fun k hk hne => by rw [Below.heap_alloc _ _ _ (by simpa using hk), Below.heap_setCell _ _ _ _ (by show k ≠ gs; exact fun e => hne (by rw [e]))]⟩
  exact ⟨rfl, HA.out _ hg ((HT.out.set i hi _).alloc _) (Blk.new' _ _ _ (by simp)) rfl rfl, hg⟩

theorem ptr_info : (Try.prog.info? 45).map (fun i => (i.zero, i.size, i.bytes)) = some (some (.pointer none), 1, 8) := by kernel_rfl
def Has (port : Int) (d : SkD) : Prop := d.port = port ∧ d.kind ≠ 3
def NamedRel (m : Nat) (i : Value) : Prop := ∃ k : Nat, k ≤ m ∧ i = .int .i64 k
def namedV (M : Nat → MemS) (m : Nat) : Value := if m = 16 then .tuple #[.int .i64 0, .pointer none] else .tuple #[.int .i64 ((m : Int) + 1), .pointer (some ⟨(M m).b, 0, none⟩)]
theorem namedV_no (M : Nat → MemS) : namedV M 16 = .tuple #[.int .i64 0, .pointer none] := rfl
theorem namedV_at (M : Nat → MemS) (m : Nat) (h : m ≠ 16) : namedV M m = .tuple #[.int .i64 ((m : Int) + 1), .pointer (some ⟨(M m).b, 0, none⟩)] := if_neg h
/-- One round of named at a socket that has not the port. -/
theorem named_at {w0 : World} {gs : Nat} {S : Nat → Option SkD} {M : Nat → MemS} (m : Nat) (port : Int) (w : World) (h : SkAt w0 gs S M w) (hm : m ≤ 16) (hno : ∀ j d, j < m → S j = some d → ¬ Has port d) (hyes : m = 16 ∨ ∃ d, S m = some d ∧ Has port d) :
    Calls Try.prog 26 #[.pointer (some ⟨gs, 0, none⟩), .int .i64 port] w fun e w' => e = .returned (namedV M m) ∧ w = w' := by
  obtain ⟨ip, hip, -, hip1, -⟩ := info_parts ptr_info
  obtain ⟨cs, hcs, hlen, hld⟩ := h.tab.whole
  have HCS := hide hcs
  have HLD := hide hld
  have HSZ := hide (show (Try.prog.info? 51).map (·.size) = some cs.length by rw [hlen]; kernel_rfl)
  have HNO := hide hno
  have HYES := hide hyes
  have HH := hide h
  clear hcs hlen hld hno hyes h
  go_enter Try.func26, Try.ntmps26
  go_wp2_with ((with_reducible refine wpList_load_mid rfl 51 (.tmp 10) rfl gs 0 rfl cs _ HLD.out Try.underlying51 rfl HSZ.out ?_))
  go_loop [12] (NamedRel m) (fun n => 16 - (intOf n).toNat)
  case atStart => exact ⟨0, Nat.zero_le _, rfl⟩
  case round =>
    obtain ⟨k, hk, rfl⟩ := hrel
    by_cases hlt : k < m
    · have hk16 : k < 16 := by omega
      have hix := index_arr (P := Try.prog) Try.underlying51 Try.underlying45 rfl hip hip1 cs.toArray k hk16 (by simpa using HCS.out k hk16) .i64
      cases hS : S k with
      | none =>
        simp only [ptrS, hS, Option.isSome_none] at hix
        clear hS
        go_wp2_with fail
        go_round
        case rel => exact ⟨k + 1, by omega, by go_num⟩
        case measure => simp [intOf]; omega
      | some d =>
        simp only [ptrS, hS, Option.isSome_some, if_true] at hix
        have hb := HH.out.box k d hS
        have hnot := HNO.out k d hlt hS
        have c0 : w.cell? ⟨(M k).b, 0, none⟩ = some (.int .i64 d.kind) := hb.cell 0
        have c1 : w.cell? ⟨(M k).b, 1, none⟩ = some (.int .i64 d.port) := hb.cell 1
        generalize (M k).b = bk at *
        clear hS hb
        by_cases hp : d.port = port
        · have hkd : d.kind = 3 := by
            by_cases e : d.kind = 3
            · exact e
            · exact absurd ⟨hp, e⟩ hnot
          rw [hp] at c1
          rw [hkd] at c0
          have tp : (port == port) = true := by simp
          clear hp hkd hnot
          go_wp2_with fail
          go_round
          case rel => exact ⟨k + 1, by omega, by go_num⟩
          case measure => simp [intOf]; omega
        · have tp : (d.port == port) = false := by simpa using hp
          clear hp hnot
          generalize d.port = dp at *
          generalize d.kind = dk at *
          go_wp2_with fail
          go_round
          case rel => exact ⟨k + 1, by omega, by go_num⟩
          case measure => simp [intOf]; omega
    · obtain rfl : m = k := by omega
      by_cases h16 : m = 16
      · subst h16
        go_wp2_with fail
        go_ret2
        exact ⟨rfl, rfl⟩
      · have hk16 : m < 16 := by omega
        obtain ⟨d, hS, hp, hkd⟩ := HYES.out.resolve_left h16
        have hix := index_arr (P := Try.prog) Try.underlying51 Try.underlying45 rfl hip hip1 cs.toArray m hk16 (by simpa using HCS.out m hk16) .i64
        simp only [ptrS, hS, Option.isSome_some, if_true] at hix
        have hb := HH.out.box m d hS
        have c0 : w.cell? ⟨(M m).b, 0, none⟩ = some (.int .i64 d.kind) := hb.cell 0
        have c1 : w.cell? ⟨(M m).b, 1, none⟩ = some (.int .i64 d.port) := hb.cell 1
        rw [hp] at c1
        have tp : (port == port) = true := by simp
        have tk : (d.kind != 3) = true := by simpa using hkd
        have H16 := hide h16
        clear hS hb hp hkd h16
        generalize d.kind = dk at *
        go_wp2_with fail
        go_ret2
        refine ⟨?_, rfl⟩
        rw [namedV_at _ _ H16.out]
        rfl
theorem joined_at {w0 : World} {gs : Nat} {S : Nat → Option SkD} {M : Nat → MemS} (i : Nat) (d : SkD) (w : World) (h : SkAt w0 gs S M w) (hi : i < 16) (hS : S i = some d) (hk : d.kind = 3) (j : Nat) (hj : j < 16) (hpe : d.peer = (j : Int) + 1) :
    Calls Try.prog 22 #[.pointer (some ⟨gs, 0, none⟩), .int .i64 ((i : Int) + 1)] w fun e w' => e = .returned (.tuple #[.pointer (some ⟨(M i).b, 0, none⟩), ptrS S M j, .int .i64 0]) ∧ w = w' := by
  have HF := hide (find_at i w h hi)
  have HJ := hide (find_at j w h hj)
  have hb := h.box i d hS
  have c0 : w.cell? ⟨(M i).b, 0, none⟩ = some (.int .i64 d.kind) := hb.cell 0
  have c4 : w.cell? ⟨(M i).b, 4, none⟩ = some (.int .i64 d.peer) := hb.cell 4
  rw [hk] at c0
  rw [hpe] at c4
  simp only [ptrS, hS, Option.isSome_some, if_true] at HF
  generalize ptrS S M j = pj at *
  generalize (M i).b = bi at *
  clear h hb hk hpe hS
  go_enter Try.func22, Try.ntmps22
  go_wp2_with fail
  refine HF.out.mono ?_
  rintro e w' ⟨rfl, rfl⟩
  go_wp2_with fail
  refine HJ.out.mono ?_
  rintro e w' ⟨rfl, rfl⟩
  go_wp2_with fail
  go_ret3
  exact ⟨rfl, rfl⟩
theorem joined_lone {w0 : World} {gs : Nat} {S : Nat → Option SkD} {M : Nat → MemS} (i : Nat) (d : SkD) (w : World) (h : SkAt w0 gs S M w) (hi : i < 16) (hS : S i = some d) (hk : d.kind = 3) (hpe : d.peer = 0) :
    Calls Try.prog 22 #[.pointer (some ⟨gs, 0, none⟩), .int .i64 ((i : Int) + 1)] w fun e w' => e = .returned (.tuple #[.pointer (some ⟨(M i).b, 0, none⟩), .pointer none, .int .i64 0]) ∧ w = w' := by
  have HF := hide (find_at i w h hi)
  have hb := h.box i d hS
  have c0 : w.cell? ⟨(M i).b, 0, none⟩ = some (.int .i64 d.kind) := hb.cell 0
  have c4 : w.cell? ⟨(M i).b, 4, none⟩ = some (.int .i64 d.peer) := hb.cell 4
  rw [hk] at c0
  rw [hpe] at c4
  simp only [ptrS, hS, Option.isSome_some, if_true] at HF
  generalize (M i).b = bi at *
  clear h hb hk hpe hS
  go_enter Try.func22, Try.ntmps22
  go_wp2_with fail
  refine HF.out.mono ?_
  rintro e w' ⟨rfl, rfl⟩
  go_wp2_with fail
  refine (find_zero gs w).mono ?_
  rintro e w' ⟨rfl, rfl⟩
  go_wp2_with fail
  go_ret3
  exact ⟨rfl, rfl⟩
end Go.Proofs.Ytnniicmpbcfinaa
