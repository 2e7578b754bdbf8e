/- Contracts of Name, Hear, Accept, Reach. -/
import Derived.Test.YtnniicmpbcfinaaSockLeaf
import Derived.Test.YtnniicmpbcfinaaIntsK
namespace Go.Proofs.Ytnniicmpbcfinaa
open Go.RowKit
set_option linter.unusedVariables false

theorem grown_set {w w' : World} {g : Nat} (h : w.grownBy w' (some g)) (i : Nat) (v : Value) : w.grownBy (w'.setCell ⟨g, i, none⟩ v) (some g) :=
  ⟨h.os, h.tape, h.output, by simpa using h.size, fun k hk hne => (Below.heap_setCell w' ⟨g, i, none⟩ v k (fun e => hne (by rw [e]))).trans (h.block k hk hne)⟩
theorem grown_drewN {w w' : World} {r : Option Nat} (h : w.grownBy w' r) (n : Nat) : w.grownBy (w'.drewN n) r := ⟨h.os, h.tape, h.output, h.size, h.block⟩
section
variable {w0 w w' : World} {gs : Nat} {S : Nat → Option SkD} {M : Nat → MemS}
/-- Cells of one socket's box alone are written, its slices are as they were. -/
theorem SkAt.cells (h : SkAt w0 gs S M w) (i : Nat) (d d' : SkD) (hS : S i = some d) (hg : w.grownBy w' (some (M i).b)) (hbox : Blk w' (M i).b 49 (oneC d' (M i).vq (M i).vi)) (hq : d'.queue = d.queue) (hi : d'.inn = d.inn) :
    SkAt w0 gs (updN S i (some d')) M w' := by
  have hb := h.box i d hS
  have key := h.mod i d d' (M i) hS rfl (Kept3.of_grown hg) hbox
    (by rw [hq]; exact own_of_keep (h.q i d hS) (fun k hv => hg.block k ((h.q i d hS).lt k hv).2 (fun e => own_blk_ne (h.q i d hS) hb (by decide) (by rw [hv, e]))))
    (by rw [hi]; exact own_of_keep (h.inn i d hS) (fun k hv => hg.block k ((h.inn i d hS).lt k hv).2 (fun e => own_blk_ne (h.inn i d hS) hb (by decide) (by rw [hv, e]))))
    (.inl rfl) (.inl rfl)
  have e : updN M i (M i) = M := by
    funext x
    unfold updN
    split
    · subst_vars; rfl
    · rfl
  rwa [e] at key
end

theorem name_ok {w0 : World} {gs : Nat} {S : Nat → Option SkD} {M : Nat → MemS} (i : Nat) (d : SkD) (port : Int) (w : World) (h : SkAt w0 gs S M w) (hi : i < 16) (hS : S i = some d) (hk : d.kind = 0) (hp : 1 ≤ port ∧ port ≤ 99) (hno : ∀ j e, S j = some e → ¬ Has port e) :
    Calls Try.prog 14 #[.pointer (some ⟨gs, 0, none⟩), .int .i64 ((i : Int) + 1), .int .i64 port] w fun e w' => e = .returned (.int .i64 0) ∧ SkAt w0 gs (updN S i (some { d with kind := 1, port := port })) M w' ∧ w.grownBy w' (some (M i).b) := by
  have HF := hide (find_at i w h hi)
  have HN := hide (named_at 16 port w h (Nat.le_refl _) (fun j e _ => hno j e) (.inl rfl))
  rw [namedV_no] at HN
  have hb := h.box i d hS
  have c0 : w.cell? ⟨(M i).b, 0, none⟩ = some (.int .i64 d.kind) := hb.cell 0
  have c1 : w.cell? ⟨(M i).b, 1, none⟩ = some (.int .i64 d.port) := hb.cell 1
  rw [hk] at c0
  have f0 := hb.frozen 0
  have f1 := hb.frozen 1
  have HH := hide h
  have HS := hide hS
  have HB := hide (show Blk ((w.setCell ⟨(M i).b, 0, none⟩ (.int .i64 1)).setCell ⟨(M i).b, 1, none⟩ (.int .i64 port)) (M i).b 49 (oneC { d with kind := 1, port := port } (M i).vq (M i).vi) from (hb.set_ 0 _).set_ 1 _)
  have HG := hide (grown_set (grown_set (World.grownBy.refl w (some (M i).b)) 0 (.int .i64 1)) 1 (.int .i64 port))
  simp only [ptrS, hS, Option.isSome_some, if_true] at HF
  obtain ⟨p1, p2⟩ := hp
  clear h hS hk hno hb
  obtain ⟨bi, hbi⟩ : ∃ b, (M i).b = b := ⟨_, rfl⟩
  rw [hbi] at c0 c1 f0 f1 HF
  have HBI := hide hbi
  clear hbi
  go_enter Try.func14, Try.ntmps14
  go_wp2_with fail
  refine HF.out.mono ?_
  rintro e w' ⟨rfl, rfl⟩
  go_wp2_with fail
  refine HN.out.mono ?_
  rintro e w' ⟨rfl, rfl⟩
  go_wp2_with fail
  go_ret
  rw [← HBI.out]
  exact ⟨rfl, HH.out.cells i d _ HS.out HG.out HB.out rfl rfl, HG.out⟩
theorem hear_ok {w0 : World} {gs : Nat} {S : Nat → Option SkD} {M : Nat → MemS} (i : Nat) (d : SkD) (many : Int) (w : World) (h : SkAt w0 gs S M w) (hi : i < 16) (hS : S i = some d) (hk : d.kind = 1) (hp : 1 ≤ many ∧ many ≤ 4) :
    Calls Try.prog 15 #[.pointer (some ⟨gs, 0, none⟩), .int .i64 ((i : Int) + 1), .int .i64 many] w fun e w' => e = .returned (.int .i64 0) ∧ SkAt w0 gs (updN S i (some { d with kind := 2, many := many })) M w' ∧ w.grownBy w' (some (M i).b) := by
  have HF := hide (find_at i w h hi)
  have hb := h.box i d hS
  have c0 : w.cell? ⟨(M i).b, 0, none⟩ = some (.int .i64 d.kind) := hb.cell 0
  have c2 : w.cell? ⟨(M i).b, 2, none⟩ = some (.int .i64 d.many) := hb.cell 2
  rw [hk] at c0
  have f0 := hb.frozen 0
  have f2 := hb.frozen 2
  have HH := hide h
  have HS := hide hS
  have HB := hide (show Blk ((w.setCell ⟨(M i).b, 0, none⟩ (.int .i64 2)).setCell ⟨(M i).b, 2, none⟩ (.int .i64 many)) (M i).b 49 (oneC { d with kind := 2, many := many } (M i).vq (M i).vi) from (hb.set_ 0 _).set_ 2 _)
  have HG := hide (grown_set (grown_set (World.grownBy.refl w (some (M i).b)) 0 (.int .i64 2)) 2 (.int .i64 many))
  simp only [ptrS, hS, Option.isSome_some, if_true] at HF
  obtain ⟨p1, p2⟩ := hp
  clear h hS hk hb
  obtain ⟨bi, hbi⟩ : ∃ b, (M i).b = b := ⟨_, rfl⟩
  rw [hbi] at c0 c2 f0 f2 HF
  have HBI := hide hbi
  clear hbi
  go_enter Try.func15, Try.ntmps15
  go_wp2_with fail
  refine HF.out.mono ?_
  rintro e w' ⟨rfl, rfl⟩
  go_wp2_with fail
  go_ret
  rw [← HBI.out]
  exact ⟨rfl, HH.out.cells i d _ HS.out HG.out HB.out rfl rfl, HG.out⟩
def AccPost (w0 : World) (gs : Nat) (S : Nat → Option SkD) (M : Nat → MemS) (i : Nat) (d : SkD) (n : Int) (rest : List Int) (w : World) (e : Ending) (w' : World) : Prop :=
  e = .returned (.tuple #[.int .i64 n, .int .i64 0]) ∧ ∃ vq', SkAt w0 gs (updN S i (some { d with queue := rest })) (updN M i ⟨(M i).b, vq', (M i).vi⟩) w' ∧ w.grownBy w' (some (M i).b)
theorem accept_ok {w0 : World} {gs : Nat} {S : Nat → Option SkD} {M : Nat → MemS} (i : Nat) (d : SkD) (n : Int) (rest : List Int) (w : World) (h : SkAt w0 gs S M w) (hi : i < 16) (hS : S i = some d) (hk : d.kind = 2) (hq : d.queue = n :: rest) (hl : rest.length ≤ 100) :
    Calls Try.prog 17 #[.pointer (some ⟨gs, 0, none⟩), .int .i64 ((i : Int) + 1)] w (AccPost w0 gs S M i d n rest w) := by
  have HF := hide (find_at i w h hi)
  have hb := h.box i d hS
  have hoq := h.q i d hS
  rw [hq] at hoq
  obtain ⟨g1, hA, hg1, hg1', -, -⟩ : ∃ g1, (M i).vq.ownBlock = some g1 ∧ w0.heap.size ≤ g1 ∧ g1 < w.heap.size ∧ True ∧ True := by
    obtain ⟨g, cap, hv, h1, h2⟩ := hoq.form (by simp)
    exact ⟨g, by rw [hv]; rfl, h1, h2, trivial, trivial⟩
  obtain ⟨c, hv⟩ : ∃ c, (M i).vq = .slice (some ⟨g1, 0, none⟩) (rest.length + 1) c := by
    obtain ⟨g, cap, hv, h1, h2⟩ := hoq.form (by simp)
    rw [hv] at hA
    simp [Value.ownBlock] at hA
    subst hA
    exact ⟨cap, by simpa using hv⟩
  have c0 : w.cell? ⟨(M i).b, 0, none⟩ = some (.int .i64 d.kind) := hb.cell 0
  have c3 : w.cell? ⟨(M i).b, 3, none⟩ = some (M i).vq := hb.cell 3
  rw [hk] at c0
  rw [hv] at c3 hoq
  have hcap := own_le hoq
  have hcm := hcap.2
  unfold maxLen at hcm
  have hcl : rest.length + 1 ≤ c := hcap.1
  have hq0 := (own_cell hoq 0 (u := .int .i64 n) rfl).1
  obtain ⟨i0, hi0, hz0, hz1, hz2⟩ := info_parts int_info
  obtain ⟨A', hcut0, hrd, hnil⟩ := cut_from (P := Try.prog) Try.underlying41 hi0 hz1 (Reads.of_own hoq) 1 c (by omega) hcl .i64
  obtain ⟨m, hm⟩ : ∃ m, rest.length + 1 = m := ⟨_, rfl⟩
  rw [hm] at hcut0 hrd c3 hcl
  have hcut : ∀ W, (Instr.slice 41 (.slice (some ⟨g1, 0, none⟩) m c) (some (.int .i64 1)) none none).run Try.prog W = .ok (.slice A' (m - 1) (c - 1)) W := hcut0
  have hrd' : Reads w w.heap.size 1 A' (m - 1) (intsV rest) := hrd
  have hm1 : 1 ≤ m := by omega
  have hm2 : m ≤ 101 := by omega
  have HRD := hide hrd'
  have HM := hide hm
  have HNIL := hide hnil
  have HH := hide h
  have HS := hide hS
  have HB := hide hb
  have f3 := hb.frozen 3
  simp only [ptrS, hS, Option.isSome_some, if_true] at HF
  clear h hS hk hb hoq hq hv hcut0 hrd hrd' hnil hm hcap hA
  obtain ⟨bi, hbi⟩ : ∃ b, (M i).b = b := ⟨_, rfl⟩
  rw [hbi] at c0 c3 f3 HF HB
  have HBI := hide hbi
  clear hbi
  go_enter Try.func17, Try.ntmps17
  go_wp2_with fail
  refine HF.out.mono ?_
  rintro e w' ⟨rfl, rfl⟩
  go_wp2_with fail
  refine (iclone_any A' (m - 1) (c - 1) w.heap.size (intsV rest) w HRD.out (intsV_one _) (Nat.le_refl _) (by omega) (fun h0 => absurd (HNIL.out h0) (by simp))).mono ?_
  rintro e w1 ⟨A1, c1, rfl, ho1, hx1⟩
  have d3 : w1.cell? ⟨bi, 3, none⟩ = some _ := hx1.cell c3
  have g3 : w1.frozen? ⟨bi, 3, none⟩ = false := (hx1.frozen c3).trans f3
  have HO1 := hide ho1
  have HX1 := hide hx1
  clear ho1 hx1 c0 c3 f3
  go_wp2_with fail
  go_ret2
  have hg : w.grownBy (w1.setCell ⟨bi, 3, none⟩ (.slice A1 (m - 1) c1)) (some bi) := grown_set ⟨HX1.out.os, HX1.out.tape, HX1.out.output, HX1.out.size, fun k hk _ => HX1.out.block k hk⟩ 3 _
  have hbw := HB.out.ext HX1.out
  refine ⟨rfl, .slice A1 (m - 1) c1, ?_, by rw [HBI.out]; exact hg⟩
  have hlen : m - 1 = rest.length := by have := HM.out; omega
  refine HH.out.mod i d { d with queue := rest } ⟨(M i).b, .slice A1 (m - 1) c1, (M i).vi⟩ HS.out rfl (by rw [HBI.out]; exact Kept3.of_grown hg) (by rw [HBI.out]; exact hbw.set_ 3 _) ?_ ?_ (.inr (fun k hk => (HO1.out.lt k hk).1)) (.inl rfl)
  · have h2 := own_mono (own_far (p := ⟨bi, 3, none⟩) HO1.out (own_blk_ne HO1.out hbw (by decide)) (.slice A1 (m - 1) c1)) HH.out.ext.size
    dsimp only
    rw [← hlen]
    exact h2
  · have hin := HH.out.inn i d HS.out
    exact own_of_keep hin (fun k hv => hg.block k (hin.lt k hv).2 (fun e => own_blk_ne hin HB.out (by decide) (by rw [hv, e])))
def ReachPost (w0 : World) (gs : Nat) (S : Nat → Option SkD) (M : Nat → MemS) (i m k : Nat) (di dm : SkD) (port : Int) (w : World) (e : Ending) (w' : World) : Prop :=
  e = .returned (.int .i64 0) ∧ ∃ bk vq', SkAt w0 gs (updN (updN (updN S k (some { skZero with kind := 3, port := port, peer := (i : Int) + 1 })) i (some { di with kind := 3, port := port, peer := (k : Int) + 1 })) m (some { dm with queue := dm.queue ++ [(k : Int) + 1] })) (updN (updN M k ⟨bk, nilV, nilV⟩) m ⟨(M m).b, vq', (M m).vi⟩) w'
theorem reach_ok {w0 : World} {gs : Nat} {S : Nat → Option SkD} {M : Nat → MemS} (i m k : Nat) (di dm : SkD) (port : Int) (w : World) (h : SkAt w0 gs S M w) (hi : i < 16) (hSi : S i = some di) (hki : di.kind = 0) (hp : 1 ≤ port ∧ port ≤ 99)
    (hm : m < 16) (hSm : S m = some dm) (hpm : dm.port = port) (hkm : dm.kind = 2) (hno : ∀ j d, j < m → S j = some d → ¬ Has port d) (hmany : (dm.queue.length : Int) < dm.many) (hql : dm.queue.length ≤ 100) (hk : k < 16) (hSk : S k = none) (hocc : ∀ j, j < k → (S j).isSome = true) :
    Calls Try.prog 16 #[.pointer (some ⟨gs, 0, none⟩), .int .i64 ((i : Int) + 1), .int .i64 port] w (ReachPost w0 gs S M i m k di dm port w) := by
  have him : i ≠ m := fun e => by subst e; rw [hSi] at hSm; injection hSm with hSm; subst hSm; omega
  have hik : i ≠ k := fun e => by subst e; rw [hSk] at hSi; cases hSi
  have hmk : m ≠ k := fun e => by subst e; rw [hSk] at hSm; cases hSm
  have HF := hide (find_at i w h hi)
  have HN := hide (named_at m port w h (by omega) hno (.inr ⟨dm, hSm, hpm, by omega⟩))
  rw [namedV_at M m (by omega)] at HN
  have HMK := hide (fun d => make_at k (w.drewN d) (h.more ((Ext.refl w).drewN d)) hk hSk hocc)
  have hbi := h.box i di hSi
  have hbm := h.box m dm hSm
  obtain ⟨Aq, cq, hvq, -, -, -⟩ := own_form (h.q m dm hSm)
  have c0 : w.cell? ⟨(M i).b, 0, none⟩ = some (.int .i64 di.kind) := hbi.cell 0
  have m0 : w.cell? ⟨(M m).b, 0, none⟩ = some (.int .i64 dm.kind) := hbm.cell 0
  have m2 : w.cell? ⟨(M m).b, 2, none⟩ = some (.int .i64 dm.many) := hbm.cell 2
  have m3 : w.cell? ⟨(M m).b, 3, none⟩ = some (M m).vq := hbm.cell 3
  rw [hki] at c0
  rw [hkm] at m0
  rw [hvq] at m3
  have tq : ((dm.queue.length : Int) == dm.many) = false := by simp; omega
  simp only [ptrS, hSi, Option.isSome_some, if_true] at HF
  obtain ⟨p1, p2⟩ := hp
  have HH := hide h
  have HSI := hide hSi
  have HSM := hide hSm
  have HSK := hide hSk
  have HVQ := hide hvq
  clear h hSi hSm hSk hki hkm hpm hno hocc hvq
  obtain ⟨bi, hbi'⟩ : ∃ b, (M i).b = b := ⟨_, rfl⟩
  obtain ⟨bm, hbm'⟩ : ∃ b, (M m).b = b := ⟨_, rfl⟩
  rw [hbi'] at c0 HF
  rw [hbm'] at m0 m2 m3 HN
  have HBI := hide hbi'
  have HBM := hide hbm'
  clear hbi hbm hbi' hbm'
  obtain ⟨ql, hqle⟩ : ∃ x, dm.queue.length = x := ⟨_, rfl⟩
  rw [hqle] at m3 tq hmany hql
  have HQL := hide hqle
  clear hqle
  generalize dm.many = mn at *
  go_enter Try.func16, Try.ntmps16
  go_wp2_with fail
  refine HF.out.mono ?_
  rintro e w' ⟨rfl, rfl⟩
  go_wp2_with fail
  refine HN.out.mono ?_
  rintro e w' ⟨rfl, rfl⟩
  go_upto_region 11 with fail
  go_quiet (fail)
  go_wp2_with fail
  refine (HMK.out _).mono ?_
  rintro e w2 ⟨rfl, h2, hg2⟩
  clear c0 m0 m2 m3
  obtain ⟨bk, hbk⟩ : ∃ b, (w.drewN nq).heap.size = b := ⟨_, rfl⟩
  rw [hbk] at h2
  have H2 := hide h2
  clear h2 hg2 hbk
  have s2k : updN S k (some skZero) k = some skZero := updN_same _ _ _
  have hbK := H2.out.box k skZero s2k
  rw [updN_same] at hbK
  dsimp only at hbK
  have t0 : w2.cell? ⟨gs, k, none⟩ = some (.pointer (some ⟨bk, 0, none⟩)) := by
    have := H2.out.tab.cell k hk
    simpa [ptrS, updN] using this
  have k0 : w2.cell? ⟨bk, 0, none⟩ = some (.int .i64 0) := hbK.cell 0
  have k1 : w2.cell? ⟨bk, 1, none⟩ = some (.int .i64 0) := hbK.cell 1
  have k2 : w2.cell? ⟨bk, 2, none⟩ = some (.int .i64 0) := hbK.cell 2
  have k3 : w2.cell? ⟨bk, 3, none⟩ = some nilV := hbK.cell 3
  have k4 : w2.cell? ⟨bk, 4, none⟩ = some (.int .i64 0) := hbK.cell 4
  have k5 : w2.cell? ⟨bk, 5, none⟩ = some nilV := hbK.cell 5
  have k6 : w2.cell? ⟨bk, 6, none⟩ = some (.bool false) := hbK.cell 6
  have f0 := hbK.frozen 0
  have f1 := hbK.frozen 1
  have f2 := hbK.frozen 2
  have f3 := hbK.frozen 3
  have f4 := hbK.frozen 4
  have f5 := hbK.frozen 5
  have f6 := hbK.frozen 6
  have hk0 : (0 : Int) ≤ (k : Int) := by omega
  have hk1 : (k : Int) < 16 := by omega
  obtain ⟨W3, hW3⟩ : ∃ W3, W3 = ((((((w2.setCell ⟨bk, 0, none⟩ (.int .i64 3)).setCell ⟨bk, 1, none⟩ (.int .i64 port)).setCell ⟨bk, 2, none⟩ (.int .i64 0)).setCell ⟨bk, 3, none⟩ nilV).setCell ⟨bk, 4, none⟩ (.int .i64 ((i : Int) + 1))).setCell ⟨bk, 5, none⟩ nilV).setCell ⟨bk, 6, none⟩ (.bool false) := ⟨_, rfl⟩
  have H3 := hide (show SkAt w0 gs (updN (updN S k (some skZero)) k (some { skZero with kind := 3, port := port, peer := (i : Int) + 1 })) (updN M k ⟨bk, nilV, nilV⟩) W3 by
    have hgr : w2.grownBy W3 (some (updN M k ⟨bk, nilV, nilV⟩ k).b) := by
      rw [updN_same, hW3]
      exact grown_set (grown_set (grown_set (grown_set (grown_set (grown_set (grown_set (World.grownBy.refl w2 (some bk)) _ _) _ _) _ _) _ _) _ _) _ _) _ _
    refine H2.out.cells k skZero _ s2k hgr ?_ rfl rfl
    rw [updN_same, hW3]
    exact ((((((hbK.set_ 0 _).set_ 1 _).set_ 2 _).set_ 3 _).set_ 4 _).set_ 5 _).set_ 6 _)
  go_upto_region 17 with fail
  rw [← hW3]
  clear hW3 t0 k0 k1 k2 k3 k4 k5 k6 f0 f1 f2 f3 f4 f5 f6 hbK s2k H2
  have e3 : ∀ (x : Option SkD), updN (updN S k (some skZero)) k x = updN S k x := fun x => by funext y; unfold updN; split <;> rfl
  rw [e3] at H3
  clear e3
  have s3i : updN S k (some { skZero with kind := 3, port := port, peer := (i : Int) + 1 }) i = some di := by rw [updN_other _ _ _ _ hik]; exact HSI.out
  have hbI := H3.out.box i di s3i
  rw [updN_other _ _ _ _ hik, HBI.out] at hbI
  have i0' : W3.cell? ⟨bi, 0, none⟩ = some (.int .i64 di.kind) := hbI.cell 0
  have i1' : W3.cell? ⟨bi, 1, none⟩ = some (.int .i64 di.port) := hbI.cell 1
  have i4' : W3.cell? ⟨bi, 4, none⟩ = some (.int .i64 di.peer) := hbI.cell 4
  have f0 := hbI.frozen 0
  have f1 := hbI.frozen 1
  have f4 := hbI.frozen 4
  obtain ⟨W4, hW4⟩ : ∃ W4, W4 = ((W3.setCell ⟨bi, 0, none⟩ (.int .i64 3)).setCell ⟨bi, 1, none⟩ (.int .i64 port)).setCell ⟨bi, 4, none⟩ (.int .i64 ((k : Int) + 1)) := ⟨_, rfl⟩
  have H4 := hide (show SkAt w0 gs (updN (updN S k (some { skZero with kind := 3, port := port, peer := (i : Int) + 1 })) i (some { di with kind := 3, port := port, peer := (k : Int) + 1 })) (updN M k ⟨bk, nilV, nilV⟩) W4 by
    have hgr : W3.grownBy W4 (some (updN M k ⟨bk, nilV, nilV⟩ i).b) := by
      rw [updN_other _ _ _ _ hik, HBI.out, hW4]
      exact grown_set (grown_set (grown_set (World.grownBy.refl W3 (some bi)) _ _) _ _) _ _
    refine H3.out.cells i di _ s3i hgr ?_ rfl rfl
    rw [updN_other _ _ _ _ hik, HBI.out, hW4]
    exact ((hbI.set_ 0 _).set_ 1 _).set_ 4 _)
  go_upto_region 18 with fail
  rw [← hW4]
  clear hW4 i0' i1' i4' f0 f1 f4 hbI s3i H3
  obtain ⟨j0, hj0, hz0, hz1, hz2⟩ := info_parts int_info
  have s4m : updN (updN S k (some { skZero with kind := 3, port := port, peer := (i : Int) + 1 })) i (some { di with kind := 3, port := port, peer := (k : Int) + 1 }) m = some dm := by rw [updN_other _ _ _ _ (Ne.symm him), updN_other _ _ _ _ hmk]; exact HSM.out
  have H5 := hide (H4.out.more ((Ext.refl W4).alloc (.cells #[.int .i64 ((k : Int) + 1)] 3)))
  have hbM := H5.out.box m dm s4m
  have hoM := H5.out.q m dm s4m
  have hoI := H5.out.inn m dm s4m
  have hbM4 := H4.out.box m dm s4m
  rw [updN_other _ _ _ _ hmk, HBM.out, HVQ.out, HQL.out] at hbM hbM4
  rw [updN_other _ _ _ _ hmk, HVQ.out, HQL.out] at hoM
  rw [updN_other _ _ _ _ hmk] at hoI
  have m3 : W4.cell? ⟨bm, 3, none⟩ = some (.slice Aq ql cq) := hbM4.cell 3
  have HBM5 := hide hbM
  have HOM := hide hoM
  have HOI := hide hoI
  have HB6 := hide (Blk.new W4 3 #[.int .i64 ((k : Int) + 1)])
  have hs0 : w0.heap.size ≤ W4.heap.size := H4.out.ext.size
  have hbmlt : bm < W4.heap.size := hbM4.lt
  clear hbM hoM hoI hbM4
  go_wp2_with (at_builtin; refine wpList_append_any _ rfl (.tmp 91) (.tmp 93) _ rfl w0.heap.size 3 j0 _ 1 8 Try.underlying41 hj0 hz0 hz1 hz2 rfl (by omega) _ ql _ rfl HOM.out _ _ 1 1 _ rfl HB6.out.reads (by simp [Value.oneCell']) (by simp only [maxLen]; omega) (by omega) (by simp; omega) ?_; intro A7 c7 w7 ho7 hg7 ha7; have n3 : w7.cell? ⟨bm, 3, none⟩ = some (.slice Aq ql cq) := hg7.cell (HBM5.out.cell 3) (fun e => own_blk_ne HOM.out HBM5.out (by decide) e.symm); have nf : w7.frozen? ⟨bm, 3, none⟩ = false := (HBM5.out.grown hg7 (fun e => own_blk_ne HOM.out HBM5.out (by decide) e.symm)).frozen 3)
  go_ret
  have hb7 : Blk w7 bm 49 _ := HBM5.out.grown hg7 (fun e => own_blk_ne HOM.out HBM5.out (by decide) e.symm)
  refine ⟨rfl, bk, .slice A7 (ql + 1) c7, ?_⟩
  have key := H5.out.mod (w' := w7.setCell ⟨bm, 3, none⟩ (.slice A7 (ql + 1) c7)) m dm { dm with queue := dm.queue ++ [(k : Int) + 1] } ⟨(M m).b, .slice A7 (ql + 1) c7, (M m).vi⟩ s4m
    (by rw [updN_other _ _ _ _ hmk])
    (by
      rw [updN_other _ _ _ _ hmk, HBM.out, HVQ.out, HQL.out]
      refine ⟨hg7.os, hg7.tape, hg7.output, by simpa using hg7.size, fun x hx h1 h2 _ => ?_⟩
      rw [Below.heap_setCell _ _ _ _ (by show x ≠ bm; exact h1)]
      exact hg7.block x hx h2)
    (by rw [updN_other _ _ _ _ hmk, HBM.out]; exact hb7.set_ 3 _)
    (by
      have h2 := own_far (p := ⟨bm, 3, none⟩) ho7 (own_blk_ne ho7 hb7 (by decide)) (.slice A7 (ql + 1) c7)
      rw [List.length_append, HQL.out, intsV_append]
      exact h2)
    (by
      have hnb := own_blk_ne HOI.out HBM5.out (by decide)
      refine own_of_keep HOI.out (fun x hv => ?_)
      rw [Below.heap_setCell _ _ _ _ (by show x ≠ bm; exact fun e => hnb (by rw [hv, e]))]
      exact hg7.block x (HOI.out.lt x hv).2 (fun e => own_ne_own HOI.out HOM.out (by decide) hv e.symm))
    (by
      rw [updN_other _ _ _ _ hmk, HVQ.out, HQL.out]
      rcases ha7 with ha7 | ha7
      · exact .inl ha7
      · refine .inr (fun x hx => ?_)
        rw [ha7] at hx
        injection hx with hx
        omega)
    (by rw [updN_other _ _ _ _ hmk]; exact .inl rfl)
  exact key
end Go.Proofs.Ytnniicmpbcfinaa
