/- The contract of (*reader).single. -/
import Derived.Test.YtjbgkcljjgofnaaDoorWVar
namespace Go.Proofs.YtjbgkcljjgofnaaDoor
open Go.RowKit
set_option linter.unusedVariables false

theorem idx39 (l : List UInt8) (w : World) : Calls Tryd.prog 40 #[.string (str l), .int .u8 39] w fun e w' => e = .returned (.int .i64 (Lib.indexByte l 39)) ∧ w' = w := (idx_any l 39 w).mono fun _ _ ⟨a, b⟩ => ⟨a, b.symm⟩
def sglPs (t : List UInt8) (ps : List PartD) : List PartD := if (sglL t).length < t.length then addP ps (sglL t) true else ps
def sglR (c : UInt8) (t : List UInt8) : List UInt8 := if (sglL t).length < t.length then t.drop ((sglL t).length + 1) else c :: t
def sglBad (s : List UInt8) (c : UInt8) (t : List UInt8) (bad : Int) : Int := if (sglL t).length < t.length then bad else ((s.length - (c :: t).length : Nat) : Int)
set_option maxHeartbeats 8000000 in
set_option maxRecDepth 100000 in
theorem single_any (w0 : World) (gr : Nat) (s t : List UInt8) (c : UInt8) (ps : List PartD) (bad : Int) (w : World) (h : RdAt w0 gr s (c :: t) ps bad w) (hs : s.length ≤ 1000000) (hf : Fit ps (c :: t) s) :
    Calls Tryd.prog 31 #[.pointer (some ⟨gr, 0, none⟩)] w fun e w' => e = .returned (.tuple #[]) ∧ RdAt w0 gr s (sglR c t) (sglPs t ps) (sglBad s c t bad) w' := by
  obtain ⟨A, cp, hb, ho⟩ := h.box
  obtain ⟨p, hp, hpl, hpd⟩ := suf_pos h.suf
  have hst : t <:+ s := (List.suffix_cons c t).trans h.suf
  have hpdt : s.drop (p + 1) = t := by rw [← List.drop_drop, hpd]; rfl
  have hpl2 : p + t.length + 1 = s.length := by simp at hpl; omega
  have HP := hide hp
  rw [hp] at hb
  have c0 : w.cell? ⟨gr, 0, none⟩ = some (.string (str s)) := hb.cell 0
  have c1 : w.cell? ⟨gr, 1, none⟩ = some (.int .i64 (p : Int)) := hb.cell 1
  have c3 : w.cell? ⟨gr, 3, none⟩ = some (.int .i64 bad) := hb.cell 3
  have hfz : w.frozen? ⟨gr, 3, none⟩ = false := hb.frozen 3
  have HM := hide h
  have HPD := hide hpdt
  obtain ⟨hps, hpt⟩ := hf.small hs
  have hfrom : ∀ W, (Instr.slice 9 (.string (str s)) (some (.int .i64 ((p : Int) + 1))) none none).run Tryd.prog W = .ok (.string (str t)) W := fun W => by
    have := str_from (P := Tryd.prog) (T := 9) Tryd.underlying9 s (k := p + 1) (by omega) W
    rw [hpdt] at this
    exact this
  have hw1 : IntKind.i64.wrap ((p : Int) + 1) = (p : Int) + 1 := by rw [IntKind.wrap_i64]; omega
  have HIX := hide (fun W => idx39 t W)
  rw [idx_sgl] at HIX
  have hle := sglL_le t
  obtain ⟨k, hk⟩ : ∃ k, (sglL t).length = k := ⟨_, rfl⟩
  have HA := hide (show sglPs t ps = if (sglL t).length < t.length then addP ps (sglL t) true else ps from rfl)
  have HR := hide (show sglR c t = if (sglL t).length < t.length then t.drop ((sglL t).length + 1) else c :: t from rfl)
  have HBD := hide (show sglBad s c t bad = if (sglL t).length < t.length then bad else ((s.length - (c :: t).length : Nat) : Int) from rfl)
  rw [hk] at HIX HA HR HBD hle
  have HK := hide hk
  have hp6 : p + t.length + 1 ≤ 1000000 := by omega
  have HPL := hide hpl2
  clear h hb ho hp hpl hpd hpdt hpl2 hk
  by_cases hlt : k < t.length
  · rw [if_pos hlt] at HIX HA HR HBD
    have HADD := hide (fun W (hx : Ext w W) => add_any w0 gr s (c :: t) ps bad W (HM.out.extend hx) (sglL t) true (by rw [HK.out]; omega) hps hpt)
    have hcutr : ∀ W, (Instr.slice 9 (.string (str s)) (some (.int .i64 ((p : Int) + 1))) (some (.int .i64 ((p : Int) + 1 + (k : Int)))) none).run Tryd.prog W = .ok (.string (str (sglL t))) W := fun W => by
      have := str_cut (P := Tryd.prog) (T := 9) Tryd.underlying9 s (j := p + 1) (k := p + 1 + k) (by omega) (by have := HPL.out; omega) W
      rw [HPD.out, show p + 1 + k - (p + 1) = k by omega] at this
      have e : t.take k = sglL t := by
        rw [← HK.out]
        exact (List.prefix_iff_eq_take.1 (List.takeWhile_prefix _)).symm
      rw [e] at this
      exact this
    have hw2 : IntKind.i64.wrap ((p : Int) + 1 + (k : Int)) = (p : Int) + 1 + (k : Int) := by rw [IntKind.wrap_i64]; omega
    have HSF := hide (show t.drop (k + 1) <:+ s from (List.drop_suffix _ t).trans hst)
    have HPM := hide (show (p : Int) + ((k : Int) + 2) = ((s.length - (t.drop (k + 1)).length : Nat) : Int) by have := HPL.out; simp; omega)
    go_enter Tryd.func31, Tryd.ntmps31
    go_upto_region 0 with fail
    go_quiet ((go_at_call 40; exact Calls.quiet_of_same (HIX.out _)))
    have HXQ := hide ((Ext.refl w).drewN nq)
    have d0 := HXQ.out.cell c0
    have d1 := HXQ.out.cell c1
    generalize w.drewN nq = W at *
    clear c0 c1 c3 hfz hfrom HIX
    go_upto_region 3 with fail
    go_still_tail 18, (by kernel_rfl)
    go_wp2_with fail
    refine (HADD.out _ (by first | exact HXQ.out.drew | exact HXQ.out.drewN _ | exact HXQ.out)).mono ?_
    rintro e w2 ⟨rfl, hm2⟩
    have HM2 := hide hm2
    obtain ⟨A2, c2, hb2, ho2⟩ := hm2.box
    rw [HP.out] at hb2
    have e1 : w2.cell? ⟨gr, 1, none⟩ = some (.int .i64 (p : Int)) := hb2.cell 1
    have ef : w2.frozen? ⟨gr, 1, none⟩ = false := hb2.frozen 1
    have HZ := hide (HM2.out.move HSF.out HPM.out)
    clear hm2 hb2 ho2 hcutr hw1 hw2 d0 d1
    go_wp2_with fail
    (first | go_end0 | ((try simp only [Exit.inBlock, Exit.then]); refine bodyPost_ret (results_none rfl _ _ _) rfl ?_))
    exact ⟨rfl, by rw [HA.out, HR.out, HBD.out]; exact HZ.out⟩
  · rw [if_neg hlt] at HIX HA HR HBD
    rw [HP.out] at HBD
    go_enter Tryd.func31, Tryd.ntmps31
    go_upto_region 0 with fail
    go_quiet ((go_at_call 40; exact Calls.quiet_of_same (HIX.out _)))
    have HXQ := hide ((Ext.refl w).drewN nq)
    have d1 := HXQ.out.cell c1
    have d4 := HXQ.out.cell c3
    have d3 : (w.drewN nq).frozen? ⟨gr, 3, none⟩ = false := hfz
    have HZ := hide ((HM.out.extend HXQ.out).spoil (p : Int))
    generalize w.drewN nq = W at *
    clear c0 c1 c3 hfz hfrom HIX
    go_wp2_with fail
    (first | go_end0 | ((try simp only [Exit.inBlock, Exit.then]); refine bodyPost_ret (results_none rfl _ _ _) rfl ?_))
    exact ⟨rfl, by rw [HA.out, HR.out, HBD.out]; exact HZ.out⟩
end Go.Proofs.YtjbgkcljjgofnaaDoor
