/- The contracts of (*maker).file and maker.child. -/
import Derived.Test.YtikpdhkjkmbomaaMkOps
namespace Go.Proofs.Ytikpdhkjkmbomaa
open Go.RowKit
set_option linter.unusedVariables false

theorem str_some {l : List UInt8} (h : l ≠ []) : (str l).toList.isEmpty = false := by
  show (ByteArray.mk l.toArray).toList.isEmpty = false
  rw [ByteArray.toList_mk]
  cases l with
  | nil => exact absurd rfl h
  | cons a l => rfl
theorem str_none {l : List UInt8} (h : l = []) : (str l).toList.isEmpty = true := by
  show (ByteArray.mk l.toArray).toList.isEmpty = true
  rw [ByteArray.toList_mk, h]
  rfl
theorem freeM_lo (h : Nat → Bool) : -1 ≤ freeI h := (freeI_ge h).1
theorem freeM_hi (h : Nat → Bool) : freeI h < 8 := (freeI_ge h).2
set_option maxHeartbeats 8000000 in
set_option maxRecDepth 100000 in
theorem file_any (w0 : World) (gs gm : Nat) (T : Track) (m : MkD) (w : World) (h : MkAt w0 gs gm T m w) (hl : m.steps.length ≤ 700) (name : List UInt8) (y : Nat) (hy : y < 8) (mode flags : Int) :
    Calls Try.prog 18 #[.pointer (some ⟨gm, 0, none⟩), .string (str name), .int .i64 y, .int .i64 mode, .int .i64 flags] w fun r w' => r = .returned (.tuple #[]) ∧ MkAt w0 gs gm T (fileM m name y mode flags) w' := by
  have HM := hide h
  have HN := hide (shut_len m (y : Int))
  clear h
  go_enter Try.func18, Try.ntmps18
  go_wp2_with fail
  refine (shut_any w0 gs gm T m w HM.out (by omega) y (by omega) (by omega)).mono ?_
  rintro r w1 ⟨rfl, hm1⟩
  have HL := hide (show fileM m name y mode flags = turnM (leastM (stepM (shutM m y) ⟨5, mode, flags, if flags ≠ 0 then 438 else 0, name⟩)) (freeI (shutM m y).hv) y from rfl)
  generalize shutM m y = m1 at *
  have HM1 := hide hm1
  have hxa : ∀ v, Ext w1 (w1.alloc v) := fun v => (Ext.refl w1).alloc v
  obtain ⟨g, hg⟩ : ∃ x, w1.heap.size = x := ⟨_, rfl⟩
  have HG := hide hg
  have hlo := hm1.ext.size
  clear hm1
  have hfin : ∀ (c : Int) (W : World), MkAt w0 gs gm T m1 W → Calls Try.prog 10 #[.pointer (some ⟨gm, 0, none⟩), .agg #[.int .i64 5, .int .i64 mode, .int .i64 flags, .int .i64 c, .string (str name), .string ⟨#[]⟩, .slice none 0 0]] W fun r w' => r = .returned (.tuple #[]) ∧ MkAt w0 gs gm T (stepM m1 ⟨5, mode, flags, c, name⟩) w' :=
    fun c W hW => step_any w0 gs gm T m1 W hW (by have := HN.out; omega) 5 mode flags c name
  have HF := hide hfin
  clear hfin
  by_cases hf : flags = 0
  · subst hf
    go_wp2_with fail
    refine (HF.out 0 _ (HM1.out.extend (hxa _))).mono ?_
    rintro r w2 ⟨rfl, hm2⟩
    have HM2 := hide hm2
    clear hm2 hxa
    go_wp2_with fail
    refine (least_any w0 gs gm T _ w2 HM2.out).mono ?_
    rintro r w3 ⟨rfl, hm3⟩
    have HM3 := hide hm3
    clear hm3
    go_wp2_with fail
    refine (turn_any w0 gs gm T _ w3 HM3.out (by rw [least_steps, step_len]; have := HN.out; omega) _ y (freeM_lo _) (freeM_hi _) hy).mono ?_
    rintro r w4 ⟨rfl, hm4⟩
    have HM4 := hide hm4
    clear hm4
    go_wp2_with fail
    (first | go_end0 | ((try simp only [Exit.inBlock, Exit.then]); refine bodyPost_ret (results_none rfl _ _ _) rfl ?_))
    exact ⟨rfl, by rw [HL.out]; exact HM4.out⟩
  · rw [if_pos hf] at HL
    clear hg HG
    go_wp2_with fail
    refine (HF.out 438 _ (HM1.out.extend (hxa _))).mono ?_
    rintro r w2 ⟨rfl, hm2⟩
    have HM2 := hide hm2
    clear hm2 hxa
    go_wp2_with fail
    refine (least_any w0 gs gm T _ w2 HM2.out).mono ?_
    rintro r w3 ⟨rfl, hm3⟩
    have HM3 := hide hm3
    clear hm3
    go_wp2_with fail
    refine (turn_any w0 gs gm T _ w3 HM3.out (by rw [least_steps, step_len]; have := HN.out; omega) _ y (freeM_lo _) (freeM_hi _) hy).mono ?_
    rintro r w4 ⟨rfl, hm4⟩
    have HM4 := hide hm4
    clear hm4
    go_wp2_with fail
    (first | go_end0 | ((try simp only [Exit.inBlock, Exit.then]); refine bodyPost_ret (results_none rfl _ _ _) rfl ?_))
    exact ⟨rfl, by rw [HL.out]; exact HM4.out⟩
/-- A simple command, its arguments behind a slice. -/
def SimAt (w : World) (s : SimD) (va : Value) : Prop := ∃ A k c xs, va = .slice A (k + 1) c ∧ k + 1 ≤ maxLen ∧ Reads w w.heap.size 1 A (k + 1) (.string (str s.arg) :: xs)
set_option maxHeartbeats 8000000 in
set_option maxRecDepth 100000 in
theorem child_any (w0 : World) (gs gm : Nat) (T : Track) (m : MkD) (w : World) (h : MkAt w0 gs gm T m w) (hl : m.steps.length ≤ 600) (who : Int) (s : SimD) (va : Value) (hs : SimAt w0 s va) (x y z : Int)
    (hx : -1 ≤ x ∧ x < 8) (hy : -1 ≤ y ∧ y < 8) (hz : -1 ≤ z ∧ z < 8) :
    Calls Try.prog 12 #[.agg (makerC gs m), .int .i64 who, .agg #[va, .string (str s.inn), .string (str s.out), .bool s.more], .int .i64 x, .int .i64 y, .int .i64 z] w fun r w' => r = .returned (.tuple #[]) ∧ MkAt w0 gs gm T (childM m who s x y z) w' := by
  obtain ⟨A, k, c, xs, rfl, hk, hr⟩ := hs
  have HM := hide h
  have HR := hide hr
  clear h hr
  unfold maxLen at hk
  have h0 : MkAt w0 gs w.heap.size (updN (mkT T gs gm m) (w.alloc (.cells (makerC gs { m with who := who }) 60)).heap.size (some (28, #[.slice A (k + 1) c, .string (str s.inn), .string (str s.out), .bool s.more]))) { m with who := who } ((w.alloc (.cells (makerC gs { m with who := who }) 60)).alloc (.cells #[.slice A (k + 1) c, .string (str s.inn), .string (str s.out), .bool s.more] 28)) := by
    have hA : StM w0 gs (mkT T gs gm m) m.steps (w.alloc (.cells (makerC gs { m with who := who }) 60)) := StM.extend HM.out ((Ext.refl w).alloc _)
    have hB := hA.extend ((Ext.refl _).alloc (.cells #[.slice A (k + 1) c, .string (str s.inn), .string (str s.out), .bool s.more] 28))
    have hlo := HM.out.ext.size
    obtain ⟨_, _, hgs, _⟩ := HM.out.box
    have hgl := hgs.lt
    have b1 := (Blk.new w 60 (makerC gs { m with who := who })).alloc (.cells #[.slice A (k + 1) c, .string (str s.inn), .string (str s.out), .bool s.more] 28)
    have b2 := Blk.new (w.alloc (.cells (makerC gs { m with who := who }) 60)) 28 #[.slice A (k + 1) c, .string (str s.inn), .string (str s.out), .bool s.more]
    exact (hB.put b2 (by simp; omega) (by decide) (by simp; omega)).put b1 (by omega) (by decide) hlo
  have hless : ∀ g x, mkT T gs gm m g = some x → g ≠ w.heap.size ∧ g ≠ (w.alloc (.cells (makerC gs { m with who := who }) 60)).heap.size := fun g x e => by
    obtain ⟨t, cs⟩ := x
    have := (HM.out.tr g t cs e).1.lt
    refine ⟨by omega, by simp; omega⟩
  have hsz : (w.alloc (.cells (makerC gs { m with who := who }) 60)).heap.size = w.heap.size + 1 := by simp
  rw [hsz] at h0 hless
  have HL := hide hless
  have H0 := hide h0
  clear h0 hless hsz
  unfold makerC at H0 HL ⊢
  dsimp only at H0 HL
  go_enter Try.func12, Try.ntmps12
  go_wp2_with fail
  generalize (w.alloc (.cells #[.pointer (some ⟨gs, 0, none⟩), .int .i64 who, .bool (m.hv 0), .bool (m.hv 1), .bool (m.hv 2), .bool (m.hv 3), .bool (m.hv 4), .bool (m.hv 5), .bool (m.hv 6), .bool (m.hv 7)] 60)).alloc (.cells #[.slice A (k + 1) c, .string (str s.inn), .string (str s.out), .bool s.more] 28) = W at *
  obtain ⟨gc, hgc⟩ : ∃ x, w.heap.size = x := ⟨_, rfl⟩
  rw [hgc] at H0 HL ⊢
  clear hgc
  obtain ⟨gb, hgb⟩ : ∃ x, gc + 1 = x := ⟨_, rfl⟩
  have HNE := hide (show gb ≠ gc by omega)
  rw [hgb] at H0 HL ⊢
  clear hgb
  have HT := hide (show ∀ T1 : Track, updN T1 gb (some (28, #[.slice A (k + 1) c, .string (str s.inn), .string (str s.out), .bool s.more])) gb = some (28, #[.slice A (k + 1) c, .string (str s.inn), .string (str s.out), .bool s.more]) from fun T1 => updN_same _ _ _)
  obtain ⟨T1, hT1⟩ : ∃ T1, updN (mkT T gs gm m) gb (some (28, #[.slice A (k + 1) c, .string (str s.inn), .string (str s.out), .bool s.more])) = T1 := ⟨_, rfl⟩
  have HTB := hide (show T1 gb = some (28, #[.slice A (k + 1) c, .string (str s.inn), .string (str s.out), .bool s.more]) by rw [← hT1]; exact updN_same _ _ _)
  have HL2 := hide (show ∀ g x, mkT T gs gm m g = some x → g ≠ gc ∧ T1 g = some x from fun g x e => ⟨(HL.out g x e).1, by rw [← hT1, updN_other _ _ _ _ (HL.out g x e).2]; exact e⟩)
  rw [hT1] at H0
  clear hT1 HL HT
  have hbx : ∀ (m' : MkD) (W' : World), MkAt w0 gs gc T1 m' W' → Blk W' gb 28 #[.slice A (k + 1) c, .string (str s.inn), .string (str s.out), .bool s.more] := fun m' W' h' => (h'.tr gb _ _ ((updN_other _ gc _ _ HNE.out).trans HTB.out)).1
  have HBX := hide hbx
  clear hbx HTB HNE
  have h1 : ({ m with who := who } : MkD).steps.length ≤ 600 := hl
  have HK := hide (show childM m who s x y z = { m with steps := (stepM (ownOut (ownIn (turnM (turnM (shutM { m with who := who } z) x 0) y 1) s) s) ⟨3, 0, 0, 0, s.arg⟩).steps } from rfl)
  generalize ({ m with who := who } : MkD) = m0 at *
  refine (shut_any w0 gs gc T1 m0 W H0.out (by omega) z hz.1 hz.2).mono ?_
  rintro r w1 ⟨rfl, hm1⟩
  have HM1 := hide hm1
  have h2 := shut_len m0 z
  generalize shutM m0 z = m1 at *
  clear hm1 H0
  go_wp2_with fail
  refine (turn_any w0 gs gc T1 m1 w1 HM1.out (by omega) x 0 hx.1 hx.2 (by omega)).mono ?_
  rintro r w2 ⟨rfl, hm2⟩
  have HM2 := hide hm2
  have h3 := turn_len m1 x 0
  generalize turnM m1 x 0 = m2 at *
  clear hm2 HM1
  go_wp2_with fail
  refine (turn_any w0 gs gc T1 m2 w2 HM2.out (by omega) y 1 hy.1 hy.2 (by omega)).mono ?_
  rintro r w3 ⟨rfl, hm3⟩
  have HM3 := hide hm3
  have h4 := turn_len m2 y 1
  generalize turnM m2 y 1 = m3 at *
  clear hm3 HM2
  have a1 : w3.cell? ⟨gb, 1, none⟩ = some (.string (str s.inn)) := (HBX.out _ _ HM3.out).cell 1
  have HIN := hide (show ownIn m3 s = if s.inn ≠ [] then fileM m3 s.inn 0 1 0 else m3 from rfl)
  have h5 := ownIn_len m3 s
  obtain ⟨bi, hbi⟩ : ∃ b, (str s.inn).toList.isEmpty = b := ⟨_, rfl⟩
  have HBI := hide hbi
  go_upto_if 23 with fail
  clear hbi
  go_cut [] (fun wx => MkAt w0 gs gc T1 (ownIn m3 s) wx)
  case first =>
    by_cases hi : s.inn = []
    · rw [if_neg (fun e => e hi)] at HIN
      have t1 := str_none hi
      obtain rfl : bi = true := HBI.out.symm.trans t1
      clear hi t1
      go_wp2_with fail
      go_meet
      rw [HIN.out]
      exact HM3.out
    · rw [if_pos hi] at HIN
      have t1 := str_some hi
      obtain rfl : bi = false := HBI.out.symm.trans t1
      clear hi t1
      go_wp2_with fail
      refine (file_any w0 gs gc T1 m3 w3 HM3.out (by omega) s.inn 0 (by omega) 1 0).mono ?_
      rintro r w4 ⟨rfl, hm4⟩
      have HM4 := hide hm4
      clear hm4
      go_wp2_with fail
      go_meet
      rw [HIN.out]
      exact HM4.out
  case rest =>
  have HM4 := hide hcut
  clear hcut HIN HM3 a1
  generalize ownIn m3 s = m4 at *
  have a2 : wc.cell? ⟨gb, 2, none⟩ = some (.string (str s.out)) := (HBX.out _ _ HM4.out).cell 2
  have a3 : wc.cell? ⟨gb, 3, none⟩ = some (.bool s.more) := (HBX.out _ _ HM4.out).cell 3
  have HOU := hide (show ownOut m4 s = if s.out ≠ [] then fileM m4 s.out 1 2 (if s.more = true then 9 else 5) else m4 from rfl)
  have h6 := ownOut_len m4 s
  obtain ⟨bo, hbo⟩ : ∃ b, (str s.out).toList.isEmpty = b := ⟨_, rfl⟩
  have HBO := hide hbo
  obtain ⟨mo, hmo⟩ : ∃ b, s.more = b := ⟨_, rfl⟩
  rw [hmo] at a3 HOU
  clear hmo
  go_upto_if 29 with fail
  clear hbo
  go_cut [] (fun wx => MkAt w0 gs gc T1 (ownOut m4 s) wx)
  case first =>
    by_cases hi : s.out = []
    · rw [if_neg (fun e => e hi)] at HOU
      have t1 := str_none hi
      obtain rfl : bo = true := HBO.out.symm.trans t1
      clear hi t1
      go_wp2_with fail
      go_meet
      rw [HOU.out]
      exact HM4.out
    · rw [if_pos hi] at HOU
      have t1 := str_some hi
      obtain rfl : bo = false := HBO.out.symm.trans t1
      clear hi t1
      cases mo
      · go_wp2_with fail
        refine (file_any w0 gs gc T1 m4 wc HM4.out (by omega) s.out 1 (by omega) 2 5).mono ?_
        rintro r w5 ⟨rfl, hm5⟩
        have HM5 := hide hm5
        clear hm5
        go_wp2_with fail
        go_meet
        rw [HOU.out]
        exact HM5.out
      · go_wp2_with fail
        refine (file_any w0 gs gc T1 m4 wc HM4.out (by omega) s.out 1 (by omega) 2 9).mono ?_
        rintro r w5 ⟨rfl, hm5⟩
        have HM5 := hide hm5
        clear hm5
        go_wp2_with fail
        go_meet
        rw [HOU.out]
        exact HM5.out
  case rest =>
  have HM5 := hide hcut
  clear hcut HOU HM4 a2 a3
  generalize ownOut m4 s = m5 at *
  have a0 : wc.cell? ⟨gb, 0, none⟩ = some (.slice A (k + 1) c) := (HBX.out _ _ HM5.out).cell 0
  obtain ⟨b, off, rfl, hb, hcl⟩ := HR.out.at1 (by omega)
  have a9 : wc.cell? ⟨b, off, none⟩ = some (.string (str s.arg)) := HM5.out.ext.cell (by simpa using hcl 0 (by omega))
  go_wp2_with fail
  refine (step_any w0 gs gc T1 m5 _ HM5.out (by omega) 3 0 0 0 s.arg).mono ?_
  rintro r w6 ⟨rfl, hm6⟩
  have HM6 := hide hm6
  clear hm6
  go_wp2_with fail
  (first | go_end0 | ((try simp only [Exit.inBlock, Exit.then]); refine bodyPost_ret (results_none rfl _ _ _) rfl ?_))
  refine ⟨rfl, ?_⟩
  rw [HK.out]
  exact StM.less HM6.out (fun g x e => (updN_other _ gc _ _ (HL2.out g x e).1).trans (HL2.out g x e).2)
end Go.Proofs.Ytikpdhkjkmbomaa
