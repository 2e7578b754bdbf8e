/- The contract of shell.Parse. -/
import Derived.Test.YtjbgkcljjgofnaaDoorShJob
namespace Go.Proofs.YtjbgkcljjgofnaaDoor
open Go.RowKit
set_option linter.unusedVariables false

theorem job_info : (Tryd.prog.info? 29).map (fun i => (i.zero, i.size, i.bytes)) = some (some (.agg #[.slice none 0 0, .bool false]), 2, 32) := by kernel_rfl
/-- A job and where its rows lie. -/
structure JobV where
  j : JobJ Tk
  A : Option Addr
  n : Nat
  c : Nat
  vs : List PipeV
def jobVC (x : JobV) : List Value := [.slice x.A x.n x.c, .bool x.j.back]
theorem jobVC_len (x : JobV) : (jobVC x).length = 2 := rfl
def JobV.At (w : World) (B : Nat) (x : JobV) : Prop := PipesAt w B x.j.pipes x.A x.n x.c x.vs ∧ x.n ≤ 6
structure JobsAt (w : World) (B : Nat) (js : List (JobJ Tk)) (A : Option Addr) (n c : Nat) (vs : List JobV) : Prop where
  row : w.ownsRow B jobT 2 (.slice A n c) n (vs.flatMap jobVC)
  each : ∀ v ∈ vs, v.At w B
  map : vs.map (·.j) = js
theorem JobsAt.grown {w w' : World} {B : Nat} {cs : List (JobJ Tk)} {A : Option Addr} {n c : Nat} {vs : List JobV} {row : Option Nat} (h : JobsAt w B cs A n c vs) (hg : w.grownBy w' row) (hr : ∀ j, row = some j → j < B) : JobsAt w' B cs A n c vs where
  row := own_kept' h.row hg (fun j hj e => by have := hr j e; have := (h.row.lt j hj).1; omega)
  each := fun v hv => ⟨PipesAt.grown (h.each v hv).1 hg hr, (h.each v hv).2⟩
  map := h.map
theorem JobsAt.ext {w w' : World} {B : Nat} {cs : List (JobJ Tk)} {A : Option Addr} {n c : Nat} {vs : List JobV} (h : JobsAt w B cs A n c vs) (hx : Ext w w') : JobsAt w' B cs A n c vs := h.grown (grown_of_ext hx none) (by simp)
theorem JobsAt.lower {w : World} {B B' : Nat} {cs : List (JobJ Tk)} {A : Option Addr} {n c : Nat} {vs : List JobV} (h : JobsAt w B cs A n c vs) (hB : B' ≤ B) : JobsAt w B' cs A n c vs := ⟨own_mono h.row hB, fun v hv => ⟨PipesAt.lower (h.each v hv).1 hB, (h.each v hv).2⟩, h.map⟩
section
variable {w w' : World} {B base s : Nat} {e : TypeId} {v : Value} {n : Nat} {xs : List Value}
/-- A command's rows behind an append to a row of another kind. -/
theorem CmdAt.aside {c : CmdJ Tk} {A1 A2 : Option Addr} {n1 c1 n2 c2 : Nat} (h : CmdAt w B c A1 n1 c1 A2 n2 c2) (hrow : w.ownsRow base e s v n xs) (he1 : 47 ≠ e) (he2 : 54 ≠ e) (hg : w.grownBy w' v.ownBlock) : CmdAt w' B c A1 n1 c1 A2 n2 c2 where
  words := own_kept' h.words hg (fun j hj k => own_own_ne h.words hrow he1 j hj k)
  reds := own_kept' h.reds hg (fun j hj k => own_own_ne h.reds hrow he2 j hj k)
  lw := h.lw
  lr := h.lr
theorem CmdsAt.aside {cs : List (CmdJ Tk)} {A : Option Addr} {n0 c0 : Nat} {vs : List CmdV} (h : CmdsAt w B cs A n0 c0 vs) (hrow : w.ownsRow base e s v n xs) (he0 : cmdT ≠ e) (he1 : 47 ≠ e) (he2 : 54 ≠ e) (hg : w.grownBy w' v.ownBlock) : CmdsAt w' B cs A n0 c0 vs where
  row := own_kept' h.row hg (fun j hj k => own_own_ne h.row hrow he0 j hj k)
  each := fun x hx => CmdAt.aside (h.each x hx) hrow he1 he2 hg
  map := h.map
theorem PipesAt.aside {cs : List (PipeJ Tk)} {A : Option Addr} {n0 c0 : Nat} {vs : List PipeV} (h : PipesAt w B cs A n0 c0 vs) (hrow : w.ownsRow base e s v n xs) (he : pipeT ≠ e) (he0 : cmdT ≠ e) (he1 : 47 ≠ e) (he2 : 54 ≠ e) (hg : w.grownBy w' v.ownBlock) : PipesAt w' B cs A n0 c0 vs where
  row := own_kept' h.row hg (fun j hj k => own_own_ne h.row hrow he j hj k)
  each := fun x hx => ⟨CmdsAt.aside (h.each x hx).1 hrow he0 he1 he2 hg, (h.each x hx).2⟩
  map := h.map
end
section
variable {w w' : World} {B g : Nat} {e : TypeId} {cur : Array Value}
/-- Rows behind a write to a block of another kind. -/
theorem CmdAt.off {c : CmdJ Tk} {A1 A2 : Option Addr} {n1 c1 n2 c2 : Nat} (h : CmdAt w B c A1 n1 c1 A2 n2 c2) (hb : Blk w g e cur) (he1 : 47 ≠ e) (he2 : 54 ≠ e) (hg : w.grownBy w' (some g)) : CmdAt w' B c A1 n1 c1 A2 n2 c2 where
  words := own_kept' h.words hg (fun j hj k => own_blk_ne h.words hb he1 (hj.trans k.symm))
  reds := own_kept' h.reds hg (fun j hj k => own_blk_ne h.reds hb he2 (hj.trans k.symm))
  lw := h.lw
  lr := h.lr
theorem CmdsAt.off {cs : List (CmdJ Tk)} {A : Option Addr} {n0 c0 : Nat} {vs : List CmdV} (h : CmdsAt w B cs A n0 c0 vs) (hb : Blk w g e cur) (he0 : cmdT ≠ e) (he1 : 47 ≠ e) (he2 : 54 ≠ e) (hg : w.grownBy w' (some g)) : CmdsAt w' B cs A n0 c0 vs where
  row := own_kept' h.row hg (fun j hj k => own_blk_ne h.row hb he0 (hj.trans k.symm))
  each := fun x hx => CmdAt.off (h.each x hx) hb he1 he2 hg
  map := h.map
theorem PipesAt.off {cs : List (PipeJ Tk)} {A : Option Addr} {n0 c0 : Nat} {vs : List PipeV} (h : PipesAt w B cs A n0 c0 vs) (hb : Blk w g e cur) (he : pipeT ≠ e) (he0 : cmdT ≠ e) (he1 : 47 ≠ e) (he2 : 54 ≠ e) (hg : w.grownBy w' (some g)) : PipesAt w' B cs A n0 c0 vs where
  row := own_kept' h.row hg (fun j hj k => own_blk_ne h.row hb he (hj.trans k.symm))
  each := fun x hx => ⟨CmdsAt.off (h.each x hx).1 hb he0 he1 he2 hg, (h.each x hx).2⟩
  map := h.map
end
/-- What Parse gives: jobs, or none and a reason. -/
def ParsePost (w : World) (X : Option (List (JobJ Tk))) (e : Ending) (w' : World) : Prop :=
  ∃ (Ac : Option Addr) (nc cc : Nat) (q r : Int), e = .returned (.tuple #[.slice Ac nc cc, .int .i64 q, .int .i64 r]) ∧ (r == 0) = X.isSome ∧ Ext w w' ∧ ∀ js, X = some js → ∃ vs, JobsAt w' w.heap.size js Ac nc cc vs ∧ nc ≤ 8
def ParseRel (w : World) (gp : Nat) (A : Option Addr) (n cp : Nat) (ls : List Tk) (G : Nat) (X : Option (List (JobJ Tk))) (g : Nat) (v6 v8 : Value) (wr : World) : Prop :=
  ∃ (F k : Nat) (js : List (JobJ Tk)) (Ac : Option Addr) (nc cc : Nat) (vs : List JobV), F = g ∧ v6 = .slice Ac nc cc ∧ parseP oT G F (ls.drop k) js = X ∧ n - k < F ∧ ParAt wr gp A n cp ls k ∧ JobsAt wr (gp + 1) js Ac nc cc vs ∧ vs.length = nc ∧ nc ≤ 8 ∧ Ext w wr
theorem some_isSome_false {α : Type} {X : Option α} (h : X = none) : X.isSome = false := by rw [h]; rfl
set_option maxHeartbeats 8000000 in
set_option maxRecDepth 100000 in
theorem parse_any (A : Option Addr) (n cp : Nat) (ls : List Tk) (G : Nat) (w : World) (hn : n ≤ 1000) (hG : n < G) (hr : Reads w w.heap.size 3 A n (ls.flatMap tokC)) (hl : ls.length = n) (hvals : ∀ x ∈ ls, ∃ A' n' c', x.2 = .slice A' n' c') :
    Calls Tryd.prog 10 #[.slice A n cp] w (ParsePost w (parseP oT G G ls [])) := by
  obtain ⟨i0, hi0, hz0, hz1, hz2⟩ := info_parts job_info
  obtain ⟨X, hX⟩ : ∃ X, parseP oT G G ls [] = X := ⟨_, rfl⟩
  rw [hX]
  have HX := hide hX
  have HP0 := hide (show ParAt (w.alloc (.cells #[.slice A n cp, .int .i64 0] parT)) w.heap.size A n cp ls 0 from ⟨Blk.new w parT #[.slice A n cp, .int .i64 0], hr.alloc (Nat.le_refl _) _, hl, Nat.zero_le _, hvals⟩)
  have HX0 := hide ((Ext.refl w).alloc (.cells #[.slice A n cp, .int .i64 0] parT))
  clear hX hr hvals
  go_enter Tryd.func10, Tryd.ntmps10
  go_wp2_with fail
  go_loopg [6, 8] G (ParseRel w w.heap.size A n cp ls G X)
  case atStart => exact ⟨G, 0, [], none, 0, 0, [], rfl, rfl, HX.out, by omega, HP0.out, ⟨World.ownsRow_nil _ _ _ _, by simp, rfl⟩, rfl, by omega, HX0.out⟩
  case round =>
    obtain ⟨F, k, js, Ac, nc, cc, vs, rfl, rfl, hpm, hF, hp, hcs, hvl, hn8, hxw⟩ := hrel
    have HPM := hide hpm
    have HP := hide hp
    have HCS := hide hcs
    have HVL := hide hvl
    have HXW := hide hxw
    have hkn := hp.le
    have hgc := hp.blk.lt
    obtain ⟨F, rfl⟩ : ∃ F', F = F' + 1 := ⟨F - 1, by omega⟩
    have q1 : wr.cell? ⟨w.heap.size, 1, none⟩ = some (.int .i64 (k : Int)) := hp.blk.cell 1
    clear hpm hp hcs hvl hxw HP0 HX0 HX
    by_cases hlt : k < n
    · have hkl : k < ls.length := by omega
      have hdr : ls.drop k = ls[k] :: ls.drop (k + 1) := List.drop_eq_getElem_cons hkl
      have HDR := hide hdr
      clear hdr
      go_wp2_with fail
      refine (job_any w.heap.size A n cp ls k G wr hn hG HP.out).mono ?_
      rintro e w5 ⟨k', A1, n1, c1, rfl, hr2, hp5, hg5, hc5⟩
      have HP5 := hide hp5
      have HCS5 := hide (HCS.out.grown hg5 (fun j hj => by injection hj with hj; omega))
      have HXW5 := hide (HXW.out.grown hg5 (fun j hj => by injection hj with hj; omega))
      have hs5 := hg5.size
      have HC5 := hide hc5
      have HR2 := hide hr2
      have hkn' := hp5.le
      clear hp5 hg5 hc5 hr2 HP HCS HXW q1
      cases hx : jobP oT G G (ls.drop k) [] [] with
      | mk x r' =>
        rw [hx] at HC5 HR2
        dsimp only at HC5 HR2
        have HXX := hide hx
        have HXA := hide ((Ext.refl w5).alloc (.cells #[.slice A1 n1 c1, .bool false] jobT))
        have hb9 := Blk.new w5 jobT #[.slice A1 n1 c1, .bool false]
        obtain ⟨W6, hW6⟩ : ∃ W6, W6 = w5.alloc (.cells #[.slice A1 n1 c1, .bool false] jobT) := ⟨_, rfl⟩
        rw [← hW6] at HXA hb9
        have HP6 := hide (HP5.out.ext HXA.out)
        have HCS6 := hide (HCS5.out.grown (grown_of_ext HXA.out none) (by simp))
        have HXW6 := hide (HXW5.out.trans HXA.out)
        have HB6 := hide hb9
        have q6 : W6.cell? ⟨w.heap.size, 1, none⟩ = some (.int .i64 (k' : Int)) := HP6.out.blk.cell 1
        have HW6 := hide hW6
        clear hb9
        cases x with
        | none =>
          have HXN := hide (show X = none by
            rw [← HPM.out, HDR.out, parseP, ← HDR.out, HXX.out])
          go_upto_region 6 with fail
          rw [← hW6]
          clear hW6
          go_region
          go_wp2_with fail
          go_ret3
          exact ⟨none, 0, 0, (k' : Int), 22, rfl, (some_isSome_false HXN.out).symm, HXW6.out.drewN _, fun d hd => by rw [HXN.out] at hd; cases hd⟩
        | some ps =>
          have hkk : k ≤ k' := by
            obtain ⟨-, -, -, m, hm⟩ := jobP_ok oT (fun _ => True) (ls.drop k).length G G _ _ _ ps r' (fun _ _ => trivial) (Nat.le_refl _) (by simp) (by simp) (by simp) (by simp) (by simp) hx
            have e := congrArg List.length hm
            rw [HR2.out] at e
            simp only [List.length_drop, HP5.out.len] at e
            omega
          obtain ⟨hn6, us, hus⟩ := HC5.out ps rfl
          have HC6 := hide ((PipesAt.lower hus (show w.heap.size + 1 ≤ wr.heap.size by omega)).grown (grown_of_ext HXA.out none) (by simp))
          have HPN := hide (show (if (r'.isEmpty || (isT oT [59] r' || isT oT [38] r')) = false then none else if js.length = 8 then none else parseP oT G F (r'.drop 1) (js ++ [⟨ps, isT oT [38] r'⟩])) = X by
            rw [← HPM.out, HDR.out, parseP, ← HDR.out, HXX.out])
          have HRL := hide (fun j (hj : Value.ownBlock (.slice Ac nc cc) = some j) => (HCS5.out.row.lt j hj).2)
          clear hus HP5 HCS5 HXW5 HC5
          go_upto_region 5 with fail
          rw [← hW6]
          clear hW6 HW6 HXA
          generalize w5.heap.size = g9 at *
          have hkn2 : k' ≤ n := hkn'
          by_cases hend : k' = n
          case' pos =>
            have hr' : r' = [] := by rw [HR2.out]; exact List.drop_of_length_le (by omega)
            have HPF := hide (show (if js.length = 8 then none else parseP oT G F (ls.drop k') (js ++ [⟨ps, false⟩])) = X by
              have := HPN.out
              rw [hr'] at this
              rw [← HR2.out, hr']
              simpa [isT] using this)
            have hcmp : ¬ ((k' : Int) < (n : Int)) := by omega
            have HXW9 := HXW6
            have HCS9 := HCS6
            have HC9 := HC6
            have HB9 := HB6
            have HP9 := HP6
            have HFN := hide (show n - k' < F by omega)
            obtain ⟨kk, hkk9⟩ : ∃ kk, kk = k' := ⟨_, rfl⟩
            obtain ⟨bb, hbb9⟩ : ∃ bb, bb = false := ⟨_, rfl⟩
            rw [← hkk9] at HPF HP9 HFN
            rw [← hbb9] at HPF HB9
            clear hr' hend hkk9 hbb9
            go_upto_region 9 with fail
            generalize W6 = W9 at *
          case' neg =>
            have hcmp : ((k' : Int) < (n : Int)) := by omega
            obtain ⟨bs, hbs⟩ : ∃ b, isT oT [59] (ls.drop k') = b := ⟨_, rfl⟩
            obtain ⟨ba, hba⟩ : ∃ b, isT oT [38] (ls.drop k') = b := ⟨_, rfl⟩
            have HI1 := hide (fun (W' : World) (hp : ParAt W' w.heap.size A n cp ls k') => is_any [59] w.heap.size A n cp ls k' W' hn hp)
            have HI2 := hide (fun (W' : World) (hp : ParAt W' w.heap.size A n cp ls k') => is_any [38] w.heap.size A n cp ls k' W' hn hp)
            rw [hbs] at HI1
            rw [hba] at HI2
            have HBS := hide hbs
            have HBA := hide hba
            clear hbs hba
            go_wp2_with fail
            refine (HI1.out W6 HP6.out).mono ?_
            rintro e w9 ⟨rfl, d9, rfl⟩
            have HX9 := hide ((Ext.refl W6).drewN d9)
            generalize W6.drewN d9 = W85 at *
            cases bs
            case' true =>
              have HXV := HX9
              have HGO := hide (show isT oT [59] (ls.drop k') = true ∨ isT oT [38] (ls.drop k') = true from .inl HBS.out)
              generalize W85 = W8 at *
            case' false =>
              go_wp2_with fail
              refine (HI2.out W85 (HP6.out.ext HX9.out)).mono ?_
              rintro e w9 ⟨rfl, d9, rfl⟩
              have HXV := hide (HX9.out.drewN d9)
              generalize W85.drewN d9 = W8 at *
              cases ba
              case' true =>
                have HGO := hide (show isT oT [59] (ls.drop k') = true ∨ isT oT [38] (ls.drop k') = true from .inr HBA.out)
              case' false =>
                have HXN := hide (show X = none by
                  have hne : r'.isEmpty = false := by
                    rw [HR2.out, List.drop_eq_getElem_cons (show k' < ls.length by omega)]
                    rfl
                  rw [← HPN.out, if_pos (by rw [hne, HR2.out, HBS.out, HBA.out]; rfl)])
                have q8 : W8.cell? ⟨w.heap.size, 1, none⟩ = some (.int .i64 (k' : Int)) := HXV.out.cell q6
                have HXE := hide (HXW6.out.trans HXV.out)
                go_upto_region 6 with fail
                go_region
                go_wp2_with fail
                go_ret3
                exact ⟨none, 0, 0, (k' : Int), 22, rfl, (some_isSome_false HXN.out).symm, HXE.out.drewN _, fun d hd => by rw [HXN.out] at hd; cases hd⟩
            all_goals
              have hkl' : k' < ls.length := by omega
              have HP8 := hide (HP6.out.ext HXV.out)
              obtain ⟨bb, hbb⟩ : ∃ b, isT oT [38] (ls.drop k') = b := ⟨_, rfl⟩
              have HPF := hide (show (if js.length = 8 then none else parseP oT G F (ls.drop (k' + 1)) (js ++ [⟨ps, bb⟩])) = X by
                have hne : r'.isEmpty = false := by
                  rw [HR2.out, List.drop_eq_getElem_cons (show k' < ls.length by omega)]
                  rfl
                have hsg : (isT oT [59] r' || isT oT [38] r') = true := by
                  rw [HR2.out]
                  rcases HGO.out with e | e <;> rw [e] <;> simp
                have := HPN.out
                rw [hne, hsg, if_neg (by decide), HR2.out, hbb, List.drop_drop] at this
                exact this)
              obtain ⟨A', n', c', hv⟩ := HP8.out.vals ls[k'] (List.getElem_mem hkl')
              have HT := hide (take_any w.heap.size A n cp ls k' W8 hn hkl' HP8.out)
              rw [hv] at HT
              have hs := str_same ls[k'].1.op [38]
              rw [isT_at [38] ls k' hkl'] at hbb
              rw [hbb] at hs
              have HB8 := hide (HB6.out.ext HXV.out)
              have HCS8 := hide (HCS6.out.ext HXV.out)
              have HC8 := hide (HC6.out.grown (grown_of_ext HXV.out none) (by simp))
              have HXW8 := hide (HXW6.out.trans HXV.out)
              generalize ls[k'].1.op = oy at *
              generalize ls[k'].1.at_ = zy at *
              generalize hoy : str oy = OY at *
              have hfd : ∀ W' : World, (Instr.field 47 (.agg #[.string OY, .slice A' n' c', .int .i64 (zy : Int)]) 0).run Tryd.prog W' = .ok (.string OY) W' := fun _ => by kernel_rfl
              have hss : (str [38] : ByteArray) = ⟨#[38]⟩ := rfl
              rw [hss, show (⟨#[38]⟩ : ByteArray).toList = [38] by rw [Lib.toList_data]] at hs
              have HSB := hide hs
              clear hs
              clear hv hoy hbb hss
              have q8 : W8.cell? ⟨w.heap.size, 1, none⟩ = some (.int .i64 (k' : Int)) := HXV.out.cell q6
              go_wp2_with fail
              refine HT.out.mono ?_
              rintro e w10 ⟨rfl, hp10, hg10⟩
              have HP10 := hide hp10
              have hb10 := HB8.out.grown hg10 (fun e => by injection e with e; omega)
              have HB10 := hide hb10
              have HCS10 := hide (HCS8.out.grown hg10 (fun j hj => by injection hj with hj; omega))
              have HC10 := hide (HC8.out.grown hg10 (fun j hj => by injection hj with hj; omega))
              have HXW10 := hide (HXW8.out.grown hg10 (fun j hj => by injection hj with hj; omega))
              have f1 : w10.frozen? ⟨g9, 1, none⟩ = false := hb10.frozen 1
              have x1 : w10.cell? ⟨g9, 1, none⟩ = some (.bool false) := hb10.cell 1
              clear hp10 hg10 hb10
              go_upto_region 9 with fail
              have HX9 := hide (HXW10.out.setCell (p := ⟨g9, 1, none⟩) (by show w.heap.size ≤ g9; omega) (.bool bb))
              have hgs : w10.grownBy (w10.setCell ⟨g9, 1, none⟩ (.bool bb)) (some g9) := grown_set (grown_of_ext (Ext.refl w10) _) (.inl rfl) _
              have HB9 := hide (HB10.out.set_ 1 (.bool bb))
              have HP9 := hide (HP10.out.grown hgs (fun j hj => by injection hj with hj; omega))
              rw [HSB.out]
              have HC9 := hide (HC10.out.off HB10.out (by decide) (by decide) (by decide) (by decide) hgs)
              have HCS9 := hide (show JobsAt (w10.setCell ⟨g9, 1, none⟩ (.bool bb)) (w.heap.size + 1) js Ac nc cc vs from ⟨own_kept' HCS10.out.row hgs (fun j hj e => by injection e with e; have := HRL.out j hj; omega), fun x hx => ⟨PipesAt.off (HCS10.out.each x hx).1 HB10.out (by decide) (by decide) (by decide) (by decide) hgs, (HCS10.out.each x hx).2⟩, HCS10.out.map⟩)
              have HXW9 := HX9
              have HFN := hide (show n - (k' + 1) < F by omega)
              clear HX9 hgs f1 x1 q8 HT
              generalize w10.setCell ⟨g9, 1, none⟩ (.bool bb) = W9 at *
              generalize k' + 1 = kk at *
          all_goals
            have hpl : js.length = nc := by rw [← HCS9.out.map, List.length_map]; exact HVL.out
            by_cases h8 : nc = 8
            · have t1 : ((nc : Int) == 8) = true := by rw [h8]; rfl
              have HXN := hide (show X = none by rw [← HPF.out, if_pos (by omega)])
              go_wp2_with fail
              go_ret3
              exact ⟨none, 0, 0, 0, 2, rfl, (some_isSome_false HXN.out).symm, HXW9.out, fun d hd => by rw [HXN.out] at hd; cases hd⟩
            · have t1 : ((nc : Int) == 8) = false := by simp; omega
              have HXN := hide (show parseP oT G F (ls.drop kk) (js ++ [⟨ps, bb⟩]) = X by rw [← HPF.out, if_neg (by omega)])
              have x0 : W9.cell? ⟨g9, 0, none⟩ = some (.slice A1 n1 c1) := HB9.out.cell 0
              have x1 : W9.cell? ⟨g9, 1, none⟩ = some (.bool bb) := HB9.out.cell 1
              have hs9 := HB9.out.lt
              have HN := hide (Blk.new W9 jobT #[.slice A1 n1 c1, .bool bb])
              have HROW := hide (HCS9.out.row.alloc (.cells #[.slice A1 n1 c1, .bool bb] jobT))
              have HRD := hide (HN.out.rowsF 1 2 rfl)
              have HSZ := hide (show w.heap.size + 1 ≤ (W9.alloc (.cells #[.slice A1 n1 c1, .bool bb] jobT)).heap.size by simp; omega)
              have HXA9 := hide ((Ext.refl W9).alloc (.cells #[.slice A1 n1 c1, .bool bb] jobT))
              go_wp2_with (at_builtin; refine wpList_append_any _ rfl (.tmp 64) (.tmp 66) _ rfl (w.heap.size + 1) jobT i0 _ 2 32 Tryd.underlying23 hi0 hz0 hz1 hz2 rfl (by omega) (.slice Ac nc cc) nc _ rfl HROW.out _ _ 1 1 _ rfl HRD.out (by simp [Value.oneCell']) (by simp only [maxLen]; omega) (by omega) HSZ.out ?_; intro A7 c7 w7 ho7 hg7 ha7)
              obtain ⟨v, hv⟩ : ∃ v : JobV, v = ⟨⟨ps, bb⟩, A1, n1, c1, us⟩ := ⟨_, rfl⟩
              have hvc : jobVC v = [.slice A1 n1 c1, .bool bb] := by rw [hv]; rfl
              have hrow8 : w7.ownsRow (w.heap.size + 1) jobT 2 (.slice A7 (nc + 1) c7) (nc + 1) ((vs ++ [v]).flatMap jobVC) := by
                rw [List.flatMap_append, List.flatMap_cons, List.flatMap_nil, List.append_nil, hvc]
                exact ho7
              have hrw : ∀ j, Value.ownBlock (.slice Ac nc cc) = some j → w.heap.size + 1 ≤ j := fun j hj => (HROW.out.lt j hj).1
              have HXWE := hide ((HXW9.out.trans HXA9.out).grown hg7 (fun j hj => by have := hrw j hj; omega))
              have HPE := hide ((HP9.out.ext HXA9.out).grown hg7 (fun j hj => by have := hrw j hj; omega))
              have HCE := hide (show JobsAt w7 (w.heap.size + 1) (js ++ [⟨ps, bb⟩]) A7 (nc + 1) c7 (vs ++ [v]) from ⟨hrow8, fun x hx => by
                rcases List.mem_append.1 hx with hx | hx
                · exact ⟨PipesAt.aside (PipesAt.grown (HCS9.out.each x hx).1 (grown_of_ext HXA9.out none) (by simp)) HROW.out (by decide) (by decide) (by decide) (by decide) hg7, (HCS9.out.each x hx).2⟩
                · rw [List.mem_singleton] at hx
                  rw [hx, hv]
                  exact ⟨PipesAt.aside (PipesAt.grown HC9.out (grown_of_ext HXA9.out none) (by simp)) HROW.out (by decide) (by decide) (by decide) (by decide) hg7, hn6⟩, by rw [List.map_append, HCS9.out.map, hv]; rfl⟩)
              have HVL8 := hide (show (vs ++ [v]).length = nc + 1 by rw [List.length_append, HVL.out]; rfl)
              clear hrow8 hrw ho7 hg7 ha7 hv hvc
              go_roundg F
              case rel => exact ⟨F, kk, js ++ [⟨ps, bb⟩], A7, nc + 1, c7, vs ++ [v], rfl, rfl, HXN.out, HFN.out, HPE.out, HCE.out, HVL8.out, by omega, HXWE.out⟩
              case measure => omega
    · obtain rfl : k = n := by omega
      have HXE := hide (show X = some js by
        rw [← HPM.out, List.drop_of_length_le (by omega), parseP])
      go_wp2_with fail
      go_ret3
      exact ⟨Ac, nc, cc, 0, 0, rfl, by rw [HXE.out]; rfl, HXW.out, fun d hd => by
        rw [HXE.out] at hd
        cases hd
        exact ⟨vs, HCS.out.lower (by omega), hn8⟩⟩
end Go.Proofs.YtjbgkcljjgofnaaDoor
