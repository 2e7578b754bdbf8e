/- The walk of ShellPlan. -/
import Derived.Test.YtikpdhkjkmbomaaPlWP
namespace Go.Proofs.Ytikpdhkjkmbomaa
open Go.RowKit Go.Maps
set_option linter.unusedVariables false

theorem sim_infoP : (Try.prog.info? 28).map (fun i => (i.zero, i.size, i.bytes)) = some (some (.agg #[.slice none 0 0, .string ⟨#[]⟩, .string ⟨#[]⟩, .bool false]), 4, 64) := by kernel_rfl
abbrev rsT : TypeId := 42
def NewSim (W9 : World) (k : Nat) (mo : Bool) (s : Value) (wx : World) : Prop := ∃ g ga, s = .pointer (some ⟨g, 0, none⟩) ∧ Blk wx g smT #[.slice (some ⟨ga, 0, none⟩) 1 1, .string ⟨#[]⟩, .string ⟨#[]⟩, .bool mo] ∧ Blk wx ga 9 #[.string (str (nameP k))] ∧ W9.heap.size ≤ g ∧ Ext W9 wx
theorem NewSim.drew {W9 : World} {k : Nat} {mo : Bool} {s : Value} {wx : World} (h : NewSim W9 k mo s wx) : NewSim W9 k mo s wx.drew := by
  obtain ⟨g, ga, h1, h2, h3, h5, h4⟩ := h
  exact ⟨g, ga, h1, h2.drew, h3.drew, h5, h4.drew⟩
abbrev smZ : Array Value := #[.slice none 0 0, .string ⟨#[]⟩, .string ⟨#[]⟩, .bool false]
theorem newSimA {W9 U : World} {k : Nat} {mo : Bool} {g ga : Nat} {z0 z1 z2 z3 : Value} (hb : Blk U g smT #[z0, z1, z2, z3]) (ha : Blk U ga 9 #[.string (str (nameP k))]) (hg : W9.heap.size ≤ g) (hx : Ext W9 U) :
    NewSim W9 k mo (.pointer (some ⟨g, 0, none⟩)) ((((U.setCell ⟨g, 0, none⟩ (.slice (some ⟨ga, 0, none⟩) 1 1)).setCell ⟨g, 1, none⟩ (.string ⟨#[]⟩)).setCell ⟨g, 2, none⟩ (.string ⟨#[]⟩)).setCell ⟨g, 3, none⟩ (.bool mo)) := by
  have hne : ga ≠ g := Blk.ne_ ha hb (by decide)
  exact ⟨g, ga, rfl, (((hb.set_ 0 _).set_ 1 _).set_ 2 _).set_ 3 _, (((ha.far (p := ⟨g, 0, none⟩) hne _).far (p := ⟨g, 1, none⟩) hne _).far (p := ⟨g, 2, none⟩) hne _).far (p := ⟨g, 3, none⟩) hne _, hg,
    ((((hx.setCell (p := ⟨g, 0, none⟩) hg _).setCell (p := ⟨g, 1, none⟩) hg _).setCell (p := ⟨g, 2, none⟩) hg _).setCell (p := ⟨g, 3, none⟩) hg _)⟩
theorem newSimC {W9 V : World} {k : Nat} {mo : Bool} (hx : Ext W9 V) :
    NewSim W9 k mo (.pointer (some ⟨V.heap.size + 1, 0, none⟩)) ((V.alloc (.cells #[.string (str (nameP k))] 9)).alloc (.cells #[.slice (some ⟨V.heap.size, 0, none⟩) 1 1, .string ⟨#[]⟩, .string ⟨#[]⟩, .bool mo] smT)) :=
  ⟨V.heap.size + 1, V.heap.size, rfl, Blk.new' _ _ _ (by simp), (Blk.new _ _ _).alloc _, Nat.le_succ_of_le hx.size, (hx.alloc _).alloc _⟩
theorem newSimB {W9 U : World} {k : Nat} {mo : Bool} (hx : Ext W9 U) :
    NewSim W9 k mo (.pointer (some ⟨U.heap.size, 0, none⟩)) ((U.alloc (.cells #[.slice (some ⟨U.heap.size + 1, 0, none⟩) 1 1, .string ⟨#[]⟩, .string ⟨#[]⟩, .bool mo] smT)).alloc (.cells #[.string (str (nameP k))] 9)) :=
  ⟨U.heap.size, U.heap.size + 1, rfl, (Blk.new _ _ _).alloc _, Blk.new' _ _ _ (by simp), hx.size, (hx.alloc _).alloc _⟩
theorem CmSt.set8 {w wr : World} {ls : List (SimD × Value)} {N c g : Nat} {A : Option Addr} (h : CmSt w ls N A c wr) (hg : w.heap.size ≤ g) (hn : Value.ownBlock (.slice A N c) ≠ some g) (ha : ∀ x ∈ ls, ∀ b, x.2 = .slice (some ⟨b, 0, none⟩) 1 1 → b ≠ g) (i : Nat) (u : Value) : CmSt w ls N A c (wr.setCell ⟨g, i, none⟩ u) :=
  ⟨h.ln, own_far h.row (p := ⟨g, i, none⟩) hn u, fun x hx => by
    obtain ⟨b, e, hb⟩ := h.each x hx
    exact ⟨b, e, hb.far (p := ⟨g, i, none⟩) (ha x hx b e) u⟩, h.ext.setCell (p := ⟨g, i, none⟩) hg u⟩
def CmRel (w : World) (n : Nat) (v5 v26 : Value) (wr : World) : Prop := ∃ (k : Nat) (ls : List (SimD × Value)) (A : Option Addr) (c : Nat), k ≤ n ∧ k ≤ 6 ∧ v26 = .int .i64 k ∧ v5 = .slice A k c ∧ SimsOk ls ∧ CmSt w ls k A c wr
def CmOut (w : World) (v5 : Value) (wr : World) : Prop := ∃ (N : Nat) (ls : List (SimD × Value)) (A : Option Addr) (c : Nat), N ≤ 6 ∧ v5 = .slice A N c ∧ SimsOk ls ∧ CmSt w ls N A c wr
set_option maxHeartbeats 16000000 in
set_option maxRecDepth 100000 in
theorem plan_walk (A : Option Addr) (n c : Nat) (l : List RawS) (B : Option Addr) (m d : Nat) (bs : List Bool) (w : World) (hl : Reads w w.heap.size 3 A n (l.flatMap rawC)) (hn : n ≤ maxLen) (hb : Reads w w.heap.size 1 B m (boolsV bs)) (hm : m ≤ maxLen) :
    Calls Try.prog 4 #[.slice A n c, .slice B m d] w fun r w' => r = .returned (.bool true) ∧ Ext w w' := by
  obtain ⟨i0, hi0, hz0, hz1, hz2⟩ := info_parts sim_infoP
  obtain ⟨i1, hi1, hz3, hz4, hz5⟩ := info_parts int_infoT
  have HLN := hide (flat_len rawC_len (by omega) hl)
  have HLR := hide hl
  have HBR := hide hb
  have HBL := hide (show bs.length = m by have := hb.1; simpa [boolsV] using this)
  unfold maxLen at hn hm
  clear hl hb
  go_enter Try.func4, Try.ntmps4
  go_upto_block 0 with fail
  go_cut [5] (fun s5 wx => CmOut w s5 wx)
  case first =>
    as_aux_lemma =>
    go_wp2_with fail
    go_loopw [5, 26] (CmRel w n) (fun _ i _ => n - (intOf i).toNat)
    case atStart => exact ⟨0, [], none, 0, Nat.zero_le _, Nat.zero_le _, rfl, rfl, fun i x h => (by cases h), ⟨rfl, World.ownsRow_nil _ _ _ _, fun x hx => (by cases hx), Ext.refl _⟩⟩
    case round =>
      obtain ⟨k, ls, A5, c5, hk, hk6, rfl, rfl, hls, hst⟩ := hrel
      have HLS := hide hls
      have HST := hide hst
      clear hls hst
      by_cases hlt : k < n
      · have hkl : k < l.length := by rw [HLN.out]; exact hlt
        obtain ⟨b, off, rfl, -⟩ := HLR.out.addr (by omega) (by omega)
        have q0 := HST.out.ext.cell (Reads.elem rawC_len HLR.out k hkl (by omega) 0 (by omega) rfl)
        have q1 := HST.out.ext.cell (Reads.elem rawC_len HLR.out k hkl (by omega) 1 (by omega) rfl)
        have q2 := HST.out.ext.cell (Reads.elem rawC_len HLR.out k hkl (by omega) 2 (by omega) rfl)
        rw [Nat.add_zero] at q0
        generalize l[k] = r at *
        obtain ⟨ri, ro, rm⟩ := r
        dsimp only at q0 q1 q2
        have hb9 := Blk.new wr rsT #[.bool ri, .bool ro, .bool rm]
        have HST9 := hide (HST.out.to ((Ext.refl wr).alloc (.cells #[.bool ri, .bool ro, .bool rm] rsT)))
        clear HST hkl
        go_upto_region 5 with fail
        generalize wr.alloc (.cells #[.bool ri, .bool ro, .bool rm] rsT) = W9 at *
        generalize wr.heap.size = g7 at *
        have HB9 := hide hb9
        have p0 : W9.cell? ⟨g7, 0, none⟩ = some (.bool ri) := hb9.cell 0
        have p1 : W9.cell? ⟨g7, 1, none⟩ = some (.bool ro) := hb9.cell 1
        have p2 : W9.cell? ⟨g7, 2, none⟩ = some (.bool rm) := hb9.cell 2
        clear q0 q1 q2 hb9
        by_cases h6 : k < 6
        · have t1 : decide ((6 : Int) ≤ (k : Int)) = false := decide_eq_false (by omega)
          have t2 : decide (6 ≤ k) = false := decide_eq_false (by omega)
          go_upto_region 6 with fail
          go_cut [8, 26] from 26 to 54 (fun s8 s26 wx => s26 = .int .i64 k ∧ NewSim W9 k (rm && ro) s8 wx)
          case first =>
            have HIT := hide (fun W => itoa_digit k (by omega) W)
            have hs0 : ∀ W : World, (Op.stringOp .add (⟨#[112]⟩ : ByteArray) (str (digit k))).run Try.prog W = .ok (.string (str (nameP k))) W := fun W => by
              rw [show str (nameP k) = (⟨#[112]⟩ : ByteArray) ++ str (digit k) from (str_append [112] (digit k)).symm]
              exact run_string_add_sum W _ _ (by rw [str_size]; show 1 + 1 ≤ 9223372036854775807; omega)
            cases rm with
            | false =>
              refine wp_region_held_drew (S := fun w' => w'.cell? ⟨g7, 1, none⟩ = some (.bool ro) ∧ w'.cell? ⟨g7, 2, none⟩ = some (.bool false)) (by kernel_rfl) ?_ (fun hHeld => ?_)
              · exact ⟨p1, p2⟩
              refine wpAnyH_take (i := 0) (oi := { dst := some 33, op := Op.move (Operand.tmp 6), type := 3, pos := "shell.go:261", after := #[], guard := none }) (v := ?_) rfl (by kernel_rfl) (by kernel_rfl) (by kernel_rfl) (fun _ _ _ h => h) (Or.inl ⟨by rfl, ?_⟩) (by assumption) ?_
              rotate_left
              · intro wq hSw; (try dsimp only at hSw); go_simp; (try with_reducible rfl)
              (try simp only [Act.put, List.setIfInBounds_toArray, List.set_cons_zero, List.set_cons_succ])
              refine wpAnyH_take (i := 4) (oi := { dst := some 37, op := Op.fieldAddr rsT (Operand.tmp 7) 2, type := 0, pos := "shell.go:261", after := #[], guard := none }) (v := ?_) rfl (by kernel_rfl) (by kernel_rfl) (by kernel_rfl) (fun _ _ _ h => h) (Or.inl ⟨by rfl, ?_⟩) (by assumption) ?_
              rotate_left
              · intro wq hSw; (try dsimp only at hSw); go_simp; (try with_reducible rfl)
              (try simp only [Act.put, List.setIfInBounds_toArray, List.set_cons_zero, List.set_cons_succ])
              refine wpAnyH_take (i := 5) (oi := { dst := some 38, op := Op.load 4 (Operand.tmp 37), type := 4, pos := "shell.go:261", after := #[{ on := 4, ground := Ground.data }], guard := none }) (v := ?_) rfl (by kernel_rfl) (by kernel_rfl) (by kernel_rfl) (fun _ _ _ h => h) (Or.inl ⟨by rfl, ?_⟩) (by assumption) ?_
              rotate_left
              · intro wq hSw; (try dsimp only at hSw); go_simp; (try with_reducible rfl)
              (try simp only [Act.put, List.setIfInBounds_toArray, List.set_cons_zero, List.set_cons_succ])
              refine wpAnyH_ready (rs := [1, 11]) (by kernel_rfl) (by simp) ?_
              refine AllReadyH.cons (o := { dst := some 34, op := Op.call { callee := Callee.value (Operand.func 6), args := #[Operand.tmp 33], argTypes := #[3] }, type := 9, pos := "shell.go:261", after := #[{ on := 0, ground := Ground.data }], guard := none }) rfl (fun K hK => ?_) ?_
              · go_simp
                go_at_call_of 6 (Value.int IntKind.i64 (k : Int)); refine (HIT.out _).mono ?_; rintro e w6 ⟨rfl, hx6⟩
                have HX6 := hide (Ext.trans (a := W9) (by ((repeat (first | with_reducible exact Ext.refl _ | with_reducible assumption | with_reducible refine Ext.alloc ?_ _ | with_reducible refine Ext.drew ?_ | with_reducible refine Ext.drewN ?_ _ | with_reducible refine Ext.setCell ?_ (by first | exact Nat.le_refl _ | assumption | (simp; done) | omega) _ | with_reducible refine Ext.trans ?_ (by with_reducible assumption))); done)) hx6)
                first
                  | (have HBY := hide ((Blk.new W9 smT smZ).ext hx6))
                  | (have HBY := hide ((Blk.new W9 smT smZ).drew.ext hx6))
                  | (have HBY := hide ((Blk.new W9.drew smT smZ).ext hx6))
                  | (have HBY := hide (show Blk (w6.alloc (.cells smZ smT)) w6.heap.size smT smZ from Blk.new _ _ _))
                have hy := fun (o : Obj) (i : Nat) => (HBY.out.alloc o).cell i
                have fy := fun (o : Obj) (i : Nat) => (HBY.out.alloc o).frozen i
                go_wp2_with fail
                refine hK.out _ _ ?_ (fun hHeld => ?_)
                · (try dsimp only); (first | exact ⟨p1, p2⟩ | (refine ⟨Ext.cell (w := W9) ?_ p1, Ext.cell (w := W9) ?_ p2⟩ <;> ((repeat (first | with_reducible exact Ext.refl _ | with_reducible assumption | with_reducible refine Ext.alloc ?_ _ | with_reducible refine Ext.drew ?_ | with_reducible refine Ext.drewN ?_ _ | with_reducible refine Ext.setCell ?_ (by first | exact Nat.le_refl _ | assumption | (simp; done) | omega) _ | with_reducible refine Ext.trans ?_ (by with_reducible assumption))); done)) | exact HKF.out)
                clear hK K
                (try simp only [Act.put, List.setIfInBounds_toArray, List.set_cons_zero, List.set_cons_succ])
                refine wpAnyH_take (i := 2) (oi := { dst := some 35, op := Op.binOp BinOp.add 9 (Operand.const (Value.string { data := #[112] })) (Operand.tmp 34) 9, type := 9, pos := "shell.go:261", after := #[{ on := 1, ground := Ground.data }], guard := none }) (v := ?_) rfl (by kernel_rfl) (by kernel_rfl) (by kernel_rfl) (fun _ _ _ h => h) (Or.inl ⟨by rfl, ?_⟩) (by assumption) ?_
                rotate_left
                · intro wq hSw; (try dsimp only at hSw); go_simp; (try with_reducible rfl)
                (try simp only [Act.put, List.setIfInBounds_toArray, List.set_cons_zero, List.set_cons_succ])
                refine wpAnyH_take (i := 6) (oi := { dst := some 39, op := Op.move (Operand.tmp 38), type := 4, pos := "shell.go:261", after := #[{ on := 5, ground := Ground.data }, { on := 1, ground := Ground.chain }], guard := none }) (v := ?_) rfl (by kernel_rfl) (by kernel_rfl) (by kernel_rfl) (fun _ _ _ h => h) (Or.inl ⟨by rfl, ?_⟩) (by assumption) ?_
                rotate_left
                · intro wq hSw; (try dsimp only at hSw); go_simp; (try with_reducible rfl)
                (try simp only [Act.put, List.setIfInBounds_toArray, List.set_cons_zero, List.set_cons_succ])
                refine wpAnyH_take (i := 7) (oi := { dst := some 40, op := Op.fieldAddr rsT (Operand.tmp 7) 1, type := 0, pos := "shell.go:261", after := #[{ on := 6, ground := Ground.guard }], guard := some (6, true) }) (v := undef) rfl (by kernel_rfl) (by kernel_rfl) (by kernel_rfl) (fun _ _ _ h => h) (Or.inr ⟨by rfl, rfl⟩) (by assumption) ?_
                (try simp only [Act.put, List.setIfInBounds_toArray, List.set_cons_zero, List.set_cons_succ])
                refine wpAnyH_take (i := 8) (oi := { dst := some 41, op := Op.load 4 (Operand.tmp 40), type := 4, pos := "shell.go:261", after := #[{ on := 7, ground := Ground.data }, { on := 6, ground := Ground.guard }], guard := some (6, true) }) (v := undef) rfl (by kernel_rfl) (by kernel_rfl) (by kernel_rfl) (fun _ _ _ h => h) (Or.inr ⟨by rfl, rfl⟩) (by assumption) ?_
                (try simp only [Act.put, List.setIfInBounds_toArray, List.set_cons_zero, List.set_cons_succ])
                refine wpAnyH_take (i := 9) (oi := { dst := some 42, op := Op.pick (Operand.tmp 39) (Operand.tmp 41) (Operand.const (Value.bool false)), type := 4, pos := "shell.go:261", after := #[{ on := 6, ground := Ground.data }, { on := 8, ground := Ground.data }], guard := none }) (v := ?_) rfl (by kernel_rfl) (by kernel_rfl) (by kernel_rfl) (fun _ _ _ h => h) (Or.inl ⟨by rfl, ?_⟩) (by assumption) ?_
                rotate_left
                · intro wq hSw; (try dsimp only at hSw); go_simp; (try with_reducible rfl)
                (try simp only [Act.put, List.setIfInBounds_toArray, List.set_cons_zero, List.set_cons_succ])
                refine wpAnyH_ready (rs := [3, 11]) (by kernel_rfl) (by simp) ?_
                refine AllReadyH.cons (o := { dst := some 36, op := Op.buildSlice 26 1 #[(0, Operand.tmp 35)], type := 26, pos := "shell.go:261", after := #[{ on := 2, ground := Ground.data }], guard := none }) rfl (fun K hK => ?_) ?_
                · go_simp
                  refine hK.out _ _ ?_ (fun hHeld => ?_)
                  · (try dsimp only); (first | exact ⟨p1, p2⟩ | (refine ⟨Ext.cell (w := W9) ?_ p1, Ext.cell (w := W9) ?_ p2⟩ <;> ((repeat (first | with_reducible exact Ext.refl _ | with_reducible assumption | with_reducible refine Ext.alloc ?_ _ | with_reducible refine Ext.drew ?_ | with_reducible refine Ext.drewN ?_ _ | with_reducible refine Ext.setCell ?_ (by first | exact Nat.le_refl _ | assumption | (simp; done) | omega) _ | with_reducible refine Ext.trans ?_ (by with_reducible assumption))); done)) | exact HKF.out)
                  clear hK K
                  (try simp only [Act.put, List.setIfInBounds_toArray, List.set_cons_zero, List.set_cons_succ])
                  refine wpAnyH_take (i := 10) (oi := { dst := some 43, op := Op.build smT #[(0, Operand.tmp 36), (3, Operand.tmp 42)], type := smT, pos := "shell.go:261", after := #[{ on := 3, ground := Ground.data }, { on := 9, ground := Ground.data }], guard := none }) (v := ?_) rfl (by kernel_rfl) (by kernel_rfl) (by kernel_rfl) (fun _ _ _ h => h) (Or.inl ⟨by rfl, ?_⟩) (by assumption) ?_
                  rotate_left
                  · intro wq hSw; (try dsimp only at hSw); go_simp; (try with_reducible rfl)
                  (try simp only [Act.put, List.setIfInBounds_toArray, List.set_cons_zero, List.set_cons_succ])
                  refine wpAnyH_ready (rs := [11]) (by kernel_rfl) (by simp) ?_
                  refine AllReadyH.cons (o := { dst := some 8, op := Op.alloc smT, type := 0, pos := "shell.go:261", after := #[], guard := none }) rfl (fun K hK => ?_) ?_
                  · go_simp
                    refine hK.out _ _ ?_ (fun hHeld => ?_)
                    · (try dsimp only); (first | exact ⟨p1, p2⟩ | (refine ⟨Ext.cell (w := W9) ?_ p1, Ext.cell (w := W9) ?_ p2⟩ <;> ((repeat (first | with_reducible exact Ext.refl _ | with_reducible assumption | with_reducible refine Ext.alloc ?_ _ | with_reducible refine Ext.drew ?_ | with_reducible refine Ext.drewN ?_ _ | with_reducible refine Ext.setCell ?_ (by first | exact Nat.le_refl _ | assumption | (simp; done) | omega) _ | with_reducible refine Ext.trans ?_ (by with_reducible assumption))); done)) | exact HKF.out)
                    clear hK K
                    (try simp only [Act.put, List.setIfInBounds_toArray, List.set_cons_zero, List.set_cons_succ])
                    refine wpAnyH_ready (rs := [12]) (by kernel_rfl) (by simp) ?_
                    refine AllReadyH.cons (o := { dst := none, op := Op.store smT (Operand.tmp 8) (Operand.tmp 43), type := 0, pos := "shell.go:261", after := #[{ on := 11, ground := Ground.data }, { on := 10, ground := Ground.data }, { on := 6, ground := Ground.chain }, { on := 0, ground := Ground.phase }, { on := 1, ground := Ground.phase }, { on := 2, ground := Ground.phase }, { on := 3, ground := Ground.phase }, { on := 4, ground := Ground.phase }, { on := 5, ground := Ground.phase }, { on := 6, ground := Ground.phase }, { on := 7, ground := Ground.phase }, { on := 8, ground := Ground.phase }, { on := 9, ground := Ground.phase }, { on := 10, ground := Ground.phase }, { on := 11, ground := Ground.phase }], guard := none }) rfl (fun K hK => ?_) ?_
                    · go_simp
                      refine hK.out _ _ ?_ (fun hHeld => ?_)
                      · (try dsimp only); (first | exact ⟨p1, p2⟩ | (refine ⟨Ext.cell (w := W9) ?_ p1, Ext.cell (w := W9) ?_ p2⟩ <;> ((repeat (first | with_reducible exact Ext.refl _ | with_reducible assumption | with_reducible refine Ext.alloc ?_ _ | with_reducible refine Ext.drew ?_ | with_reducible refine Ext.drewN ?_ _ | with_reducible refine Ext.setCell ?_ (by first | exact Nat.le_refl _ | assumption | (simp; done) | omega) _ | with_reducible refine Ext.trans ?_ (by with_reducible assumption))); done)) | exact HKF.out)
                      clear hK K
                      (try simp only [Act.put, List.setIfInBounds_toArray, List.set_cons_zero, List.set_cons_succ])
                      refine wpAnyH_done (by kernel_rfl) ?_ _
                      go_wp2_with fail
                      go_meet
                      refine ⟨rfl, ?_⟩
                      rw [Bool.false_and]
                      exact newSimC HX6.out
                    exact AllReadyH.nil
                  exact AllReadyH.nil
                refine AllReadyH.cons (o := { dst := some 8, op := Op.alloc smT, type := 0, pos := "shell.go:261", after := #[], guard := none }) rfl (fun K hK => ?_) ?_
                · go_simp
                  refine hK.out _ _ ?_ (fun hHeld => ?_)
                  · (try dsimp only); (first | exact ⟨p1, p2⟩ | (refine ⟨Ext.cell (w := W9) ?_ p1, Ext.cell (w := W9) ?_ p2⟩ <;> ((repeat (first | with_reducible exact Ext.refl _ | with_reducible assumption | with_reducible refine Ext.alloc ?_ _ | with_reducible refine Ext.drew ?_ | with_reducible refine Ext.drewN ?_ _ | with_reducible refine Ext.setCell ?_ (by first | exact Nat.le_refl _ | assumption | (simp; done) | omega) _ | with_reducible refine Ext.trans ?_ (by with_reducible assumption))); done)) | exact HKF.out)
                  clear hK K
                  (try simp only [Act.put, List.setIfInBounds_toArray, List.set_cons_zero, List.set_cons_succ])
                  refine wpAnyH_ready (rs := [3]) (by kernel_rfl) (by simp) ?_
                  refine AllReadyH.cons (o := { dst := some 36, op := Op.buildSlice 26 1 #[(0, Operand.tmp 35)], type := 26, pos := "shell.go:261", after := #[{ on := 2, ground := Ground.data }], guard := none }) rfl (fun K hK => ?_) ?_
                  · go_simp
                    refine hK.out _ _ ?_ (fun hHeld => ?_)
                    · (try dsimp only); (first | exact ⟨p1, p2⟩ | (refine ⟨Ext.cell (w := W9) ?_ p1, Ext.cell (w := W9) ?_ p2⟩ <;> ((repeat (first | with_reducible exact Ext.refl _ | with_reducible assumption | with_reducible refine Ext.alloc ?_ _ | with_reducible refine Ext.drew ?_ | with_reducible refine Ext.drewN ?_ _ | with_reducible refine Ext.setCell ?_ (by first | exact Nat.le_refl _ | assumption | (simp; done) | omega) _ | with_reducible refine Ext.trans ?_ (by with_reducible assumption))); done)) | exact HKF.out)
                    clear hK K
                    (try simp only [Act.put, List.setIfInBounds_toArray, List.set_cons_zero, List.set_cons_succ])
                    refine wpAnyH_take (i := 10) (oi := { dst := some 43, op := Op.build smT #[(0, Operand.tmp 36), (3, Operand.tmp 42)], type := smT, pos := "shell.go:261", after := #[{ on := 3, ground := Ground.data }, { on := 9, ground := Ground.data }], guard := none }) (v := ?_) rfl (by kernel_rfl) (by kernel_rfl) (by kernel_rfl) (fun _ _ _ h => h) (Or.inl ⟨by rfl, ?_⟩) (by assumption) ?_
                    rotate_left
                    · intro wq hSw; (try dsimp only at hSw); go_simp; (try with_reducible rfl)
                    (try simp only [Act.put, List.setIfInBounds_toArray, List.set_cons_zero, List.set_cons_succ])
                    refine wpAnyH_ready (rs := [12]) (by kernel_rfl) (by simp) ?_
                    refine AllReadyH.cons (o := { dst := none, op := Op.store smT (Operand.tmp 8) (Operand.tmp 43), type := 0, pos := "shell.go:261", after := #[{ on := 11, ground := Ground.data }, { on := 10, ground := Ground.data }, { on := 6, ground := Ground.chain }, { on := 0, ground := Ground.phase }, { on := 1, ground := Ground.phase }, { on := 2, ground := Ground.phase }, { on := 3, ground := Ground.phase }, { on := 4, ground := Ground.phase }, { on := 5, ground := Ground.phase }, { on := 6, ground := Ground.phase }, { on := 7, ground := Ground.phase }, { on := 8, ground := Ground.phase }, { on := 9, ground := Ground.phase }, { on := 10, ground := Ground.phase }, { on := 11, ground := Ground.phase }], guard := none }) rfl (fun K hK => ?_) ?_
                    · go_simp
                      refine hK.out _ _ ?_ (fun hHeld => ?_)
                      · (try dsimp only); (first | exact ⟨p1, p2⟩ | (refine ⟨Ext.cell (w := W9) ?_ p1, Ext.cell (w := W9) ?_ p2⟩ <;> ((repeat (first | with_reducible exact Ext.refl _ | with_reducible assumption | with_reducible refine Ext.alloc ?_ _ | with_reducible refine Ext.drew ?_ | with_reducible refine Ext.drewN ?_ _ | with_reducible refine Ext.setCell ?_ (by first | exact Nat.le_refl _ | assumption | (simp; done) | omega) _ | with_reducible refine Ext.trans ?_ (by with_reducible assumption))); done)) | exact HKF.out)
                      clear hK K
                      (try simp only [Act.put, List.setIfInBounds_toArray, List.set_cons_zero, List.set_cons_succ])
                      refine wpAnyH_done (by kernel_rfl) ?_ _
                      go_wp2_with fail
                      go_meet
                      refine ⟨rfl, ?_⟩
                      rw [Bool.false_and]
                      exact newSimB HX6.out
                    exact AllReadyH.nil
                  exact AllReadyH.nil
                exact AllReadyH.nil
              refine AllReadyH.cons (o := { dst := some 8, op := Op.alloc smT, type := 0, pos := "shell.go:261", after := #[], guard := none }) rfl (fun K hK => ?_) ?_
              · go_simp
                refine hK.out _ _ ?_ (fun hHeld => ?_)
                · (try dsimp only); (first | exact ⟨p1, p2⟩ | (refine ⟨Ext.cell (w := W9) ?_ p1, Ext.cell (w := W9) ?_ p2⟩ <;> ((repeat (first | with_reducible exact Ext.refl _ | with_reducible assumption | with_reducible refine Ext.alloc ?_ _ | with_reducible refine Ext.drew ?_ | with_reducible refine Ext.drewN ?_ _ | with_reducible refine Ext.setCell ?_ (by first | exact Nat.le_refl _ | assumption | (simp; done) | omega) _ | with_reducible refine Ext.trans ?_ (by with_reducible assumption))); done)) | exact HKF.out)
                clear hK K
                (try simp only [Act.put, List.setIfInBounds_toArray, List.set_cons_zero, List.set_cons_succ])
                refine wpAnyH_ready (rs := [1]) (by kernel_rfl) (by simp) ?_
                refine AllReadyH.cons (o := { dst := some 34, op := Op.call { callee := Callee.value (Operand.func 6), args := #[Operand.tmp 33], argTypes := #[3] }, type := 9, pos := "shell.go:261", after := #[{ on := 0, ground := Ground.data }], guard := none }) rfl (fun K hK => ?_) ?_
                · go_simp
                  go_at_call_of 6 (Value.int IntKind.i64 (k : Int)); refine (HIT.out _).mono ?_; rintro e w6 ⟨rfl, hx6⟩
                  have HX6 := hide (Ext.trans (a := W9) (by ((repeat (first | with_reducible exact Ext.refl _ | with_reducible assumption | with_reducible refine Ext.alloc ?_ _ | with_reducible refine Ext.drew ?_ | with_reducible refine Ext.drewN ?_ _ | with_reducible refine Ext.setCell ?_ (by first | exact Nat.le_refl _ | assumption | (simp; done) | omega) _ | with_reducible refine Ext.trans ?_ (by with_reducible assumption))); done)) hx6)
                  first
                    | (have HBY := hide ((Blk.new W9 smT smZ).ext hx6))
                    | (have HBY := hide ((Blk.new W9 smT smZ).drew.ext hx6))
                    | (have HBY := hide ((Blk.new W9.drew smT smZ).ext hx6))
                    | (have HBY := hide (show Blk (w6.alloc (.cells smZ smT)) w6.heap.size smT smZ from Blk.new _ _ _))
                  have hy := fun (o : Obj) (i : Nat) => (HBY.out.alloc o).cell i
                  have fy := fun (o : Obj) (i : Nat) => (HBY.out.alloc o).frozen i
                  go_wp2_with fail
                  refine hK.out _ _ ?_ (fun hHeld => ?_)
                  · (try dsimp only); (first | exact ⟨p1, p2⟩ | (refine ⟨Ext.cell (w := W9) ?_ p1, Ext.cell (w := W9) ?_ p2⟩ <;> ((repeat (first | with_reducible exact Ext.refl _ | with_reducible assumption | with_reducible refine Ext.alloc ?_ _ | with_reducible refine Ext.drew ?_ | with_reducible refine Ext.drewN ?_ _ | with_reducible refine Ext.setCell ?_ (by first | exact Nat.le_refl _ | assumption | (simp; done) | omega) _ | with_reducible refine Ext.trans ?_ (by with_reducible assumption))); done)) | exact HKF.out)
                  clear hK K
                  (try simp only [Act.put, List.setIfInBounds_toArray, List.set_cons_zero, List.set_cons_succ])
                  refine wpAnyH_take (i := 2) (oi := { dst := some 35, op := Op.binOp BinOp.add 9 (Operand.const (Value.string { data := #[112] })) (Operand.tmp 34) 9, type := 9, pos := "shell.go:261", after := #[{ on := 1, ground := Ground.data }], guard := none }) (v := ?_) rfl (by kernel_rfl) (by kernel_rfl) (by kernel_rfl) (fun _ _ _ h => h) (Or.inl ⟨by rfl, ?_⟩) (by assumption) ?_
                  rotate_left
                  · intro wq hSw; (try dsimp only at hSw); go_simp; (try with_reducible rfl)
                  (try simp only [Act.put, List.setIfInBounds_toArray, List.set_cons_zero, List.set_cons_succ])
                  refine wpAnyH_take (i := 6) (oi := { dst := some 39, op := Op.move (Operand.tmp 38), type := 4, pos := "shell.go:261", after := #[{ on := 5, ground := Ground.data }, { on := 1, ground := Ground.chain }], guard := none }) (v := ?_) rfl (by kernel_rfl) (by kernel_rfl) (by kernel_rfl) (fun _ _ _ h => h) (Or.inl ⟨by rfl, ?_⟩) (by assumption) ?_
                  rotate_left
                  · intro wq hSw; (try dsimp only at hSw); go_simp; (try with_reducible rfl)
                  (try simp only [Act.put, List.setIfInBounds_toArray, List.set_cons_zero, List.set_cons_succ])
                  refine wpAnyH_take (i := 7) (oi := { dst := some 40, op := Op.fieldAddr rsT (Operand.tmp 7) 1, type := 0, pos := "shell.go:261", after := #[{ on := 6, ground := Ground.guard }], guard := some (6, true) }) (v := undef) rfl (by kernel_rfl) (by kernel_rfl) (by kernel_rfl) (fun _ _ _ h => h) (Or.inr ⟨by rfl, rfl⟩) (by assumption) ?_
                  (try simp only [Act.put, List.setIfInBounds_toArray, List.set_cons_zero, List.set_cons_succ])
                  refine wpAnyH_take (i := 8) (oi := { dst := some 41, op := Op.load 4 (Operand.tmp 40), type := 4, pos := "shell.go:261", after := #[{ on := 7, ground := Ground.data }, { on := 6, ground := Ground.guard }], guard := some (6, true) }) (v := undef) rfl (by kernel_rfl) (by kernel_rfl) (by kernel_rfl) (fun _ _ _ h => h) (Or.inr ⟨by rfl, rfl⟩) (by assumption) ?_
                  (try simp only [Act.put, List.setIfInBounds_toArray, List.set_cons_zero, List.set_cons_succ])
                  refine wpAnyH_take (i := 9) (oi := { dst := some 42, op := Op.pick (Operand.tmp 39) (Operand.tmp 41) (Operand.const (Value.bool false)), type := 4, pos := "shell.go:261", after := #[{ on := 6, ground := Ground.data }, { on := 8, ground := Ground.data }], guard := none }) (v := ?_) rfl (by kernel_rfl) (by kernel_rfl) (by kernel_rfl) (fun _ _ _ h => h) (Or.inl ⟨by rfl, ?_⟩) (by assumption) ?_
                  rotate_left
                  · intro wq hSw; (try dsimp only at hSw); go_simp; (try with_reducible rfl)
                  (try simp only [Act.put, List.setIfInBounds_toArray, List.set_cons_zero, List.set_cons_succ])
                  refine wpAnyH_ready (rs := [3]) (by kernel_rfl) (by simp) ?_
                  refine AllReadyH.cons (o := { dst := some 36, op := Op.buildSlice 26 1 #[(0, Operand.tmp 35)], type := 26, pos := "shell.go:261", after := #[{ on := 2, ground := Ground.data }], guard := none }) rfl (fun K hK => ?_) ?_
                  · go_simp
                    refine hK.out _ _ ?_ (fun hHeld => ?_)
                    · (try dsimp only); (first | exact ⟨p1, p2⟩ | (refine ⟨Ext.cell (w := W9) ?_ p1, Ext.cell (w := W9) ?_ p2⟩ <;> ((repeat (first | with_reducible exact Ext.refl _ | with_reducible assumption | with_reducible refine Ext.alloc ?_ _ | with_reducible refine Ext.drew ?_ | with_reducible refine Ext.drewN ?_ _ | with_reducible refine Ext.setCell ?_ (by first | exact Nat.le_refl _ | assumption | (simp; done) | omega) _ | with_reducible refine Ext.trans ?_ (by with_reducible assumption))); done)) | exact HKF.out)
                    clear hK K
                    (try simp only [Act.put, List.setIfInBounds_toArray, List.set_cons_zero, List.set_cons_succ])
                    refine wpAnyH_take (i := 10) (oi := { dst := some 43, op := Op.build smT #[(0, Operand.tmp 36), (3, Operand.tmp 42)], type := smT, pos := "shell.go:261", after := #[{ on := 3, ground := Ground.data }, { on := 9, ground := Ground.data }], guard := none }) (v := ?_) rfl (by kernel_rfl) (by kernel_rfl) (by kernel_rfl) (fun _ _ _ h => h) (Or.inl ⟨by rfl, ?_⟩) (by assumption) ?_
                    rotate_left
                    · intro wq hSw; (try dsimp only at hSw); go_simp; (try with_reducible rfl)
                    (try simp only [Act.put, List.setIfInBounds_toArray, List.set_cons_zero, List.set_cons_succ])
                    refine wpAnyH_ready (rs := [12]) (by kernel_rfl) (by simp) ?_
                    refine AllReadyH.cons (o := { dst := none, op := Op.store smT (Operand.tmp 8) (Operand.tmp 43), type := 0, pos := "shell.go:261", after := #[{ on := 11, ground := Ground.data }, { on := 10, ground := Ground.data }, { on := 6, ground := Ground.chain }, { on := 0, ground := Ground.phase }, { on := 1, ground := Ground.phase }, { on := 2, ground := Ground.phase }, { on := 3, ground := Ground.phase }, { on := 4, ground := Ground.phase }, { on := 5, ground := Ground.phase }, { on := 6, ground := Ground.phase }, { on := 7, ground := Ground.phase }, { on := 8, ground := Ground.phase }, { on := 9, ground := Ground.phase }, { on := 10, ground := Ground.phase }, { on := 11, ground := Ground.phase }], guard := none }) rfl (fun K hK => ?_) ?_
                    · go_simp
                      refine hK.out _ _ ?_ (fun hHeld => ?_)
                      · (try dsimp only); (first | exact ⟨p1, p2⟩ | (refine ⟨Ext.cell (w := W9) ?_ p1, Ext.cell (w := W9) ?_ p2⟩ <;> ((repeat (first | with_reducible exact Ext.refl _ | with_reducible assumption | with_reducible refine Ext.alloc ?_ _ | with_reducible refine Ext.drew ?_ | with_reducible refine Ext.drewN ?_ _ | with_reducible refine Ext.setCell ?_ (by first | exact Nat.le_refl _ | assumption | (simp; done) | omega) _ | with_reducible refine Ext.trans ?_ (by with_reducible assumption))); done)) | exact HKF.out)
                      clear hK K
                      (try simp only [Act.put, List.setIfInBounds_toArray, List.set_cons_zero, List.set_cons_succ])
                      refine wpAnyH_done (by kernel_rfl) ?_ _
                      go_wp2_with fail
                      go_meet
                      refine ⟨rfl, ?_⟩
                      rw [Bool.false_and]
                      exact newSimA (U := w6.alloc (.cells #[.string (str (nameP k))] 9)) (HBY.out.alloc _) (Blk.new w6 9 #[.string (str (nameP k))]) (Nat.le_refl _) (HX6.out.alloc _)
                    exact AllReadyH.nil
                  exact AllReadyH.nil
                exact AllReadyH.nil
              exact AllReadyH.nil
            | true =>
              refine wp_region_held_drew (S := fun w' => w'.cell? ⟨g7, 1, none⟩ = some (.bool ro) ∧ w'.cell? ⟨g7, 2, none⟩ = some (.bool true)) (by kernel_rfl) ?_ (fun hHeld => ?_)
              · exact ⟨p1, p2⟩
              refine wpAnyH_take (i := 0) (oi := { dst := some 33, op := Op.move (Operand.tmp 6), type := 3, pos := "shell.go:261", after := #[], guard := none }) (v := ?_) rfl (by kernel_rfl) (by kernel_rfl) (by kernel_rfl) (fun _ _ _ h => h) (Or.inl ⟨by rfl, ?_⟩) (by assumption) ?_
              rotate_left
              · intro wq hSw; (try dsimp only at hSw); go_simp; (try with_reducible rfl)
              (try simp only [Act.put, List.setIfInBounds_toArray, List.set_cons_zero, List.set_cons_succ])
              refine wpAnyH_take (i := 4) (oi := { dst := some 37, op := Op.fieldAddr rsT (Operand.tmp 7) 2, type := 0, pos := "shell.go:261", after := #[], guard := none }) (v := ?_) rfl (by kernel_rfl) (by kernel_rfl) (by kernel_rfl) (fun _ _ _ h => h) (Or.inl ⟨by rfl, ?_⟩) (by assumption) ?_
              rotate_left
              · intro wq hSw; (try dsimp only at hSw); go_simp; (try with_reducible rfl)
              (try simp only [Act.put, List.setIfInBounds_toArray, List.set_cons_zero, List.set_cons_succ])
              refine wpAnyH_take (i := 5) (oi := { dst := some 38, op := Op.load 4 (Operand.tmp 37), type := 4, pos := "shell.go:261", after := #[{ on := 4, ground := Ground.data }], guard := none }) (v := ?_) rfl (by kernel_rfl) (by kernel_rfl) (by kernel_rfl) (fun _ _ _ h => h) (Or.inl ⟨by rfl, ?_⟩) (by assumption) ?_
              rotate_left
              · intro wq hSw; (try dsimp only at hSw); go_simp; (try with_reducible rfl)
              (try simp only [Act.put, List.setIfInBounds_toArray, List.set_cons_zero, List.set_cons_succ])
              refine wpAnyH_ready (rs := [1, 11]) (by kernel_rfl) (by simp) ?_
              refine AllReadyH.cons (o := { dst := some 34, op := Op.call { callee := Callee.value (Operand.func 6), args := #[Operand.tmp 33], argTypes := #[3] }, type := 9, pos := "shell.go:261", after := #[{ on := 0, ground := Ground.data }], guard := none }) rfl (fun K hK => ?_) ?_
              · go_simp
                go_at_call_of 6 (Value.int IntKind.i64 (k : Int)); refine (HIT.out _).mono ?_; rintro e w6 ⟨rfl, hx6⟩
                have HX6 := hide (Ext.trans (a := W9) (by ((repeat (first | with_reducible exact Ext.refl _ | with_reducible assumption | with_reducible refine Ext.alloc ?_ _ | with_reducible refine Ext.drew ?_ | with_reducible refine Ext.drewN ?_ _ | with_reducible refine Ext.setCell ?_ (by first | exact Nat.le_refl _ | assumption | (simp; done) | omega) _ | with_reducible refine Ext.trans ?_ (by with_reducible assumption))); done)) hx6)
                first
                  | (have HBY := hide ((Blk.new W9 smT smZ).ext hx6))
                  | (have HBY := hide ((Blk.new W9 smT smZ).drew.ext hx6))
                  | (have HBY := hide ((Blk.new W9.drew smT smZ).ext hx6))
                  | (have HBY := hide (show Blk (w6.alloc (.cells smZ smT)) w6.heap.size smT smZ from Blk.new _ _ _))
                have hy := fun (o : Obj) (i : Nat) => (HBY.out.alloc o).cell i
                have fy := fun (o : Obj) (i : Nat) => (HBY.out.alloc o).frozen i
                go_wp2_with fail
                refine hK.out _ _ ?_ (fun hHeld => ?_)
                · (try dsimp only); (first | exact ⟨p1, p2⟩ | (refine ⟨Ext.cell (w := W9) ?_ p1, Ext.cell (w := W9) ?_ p2⟩ <;> ((repeat (first | with_reducible exact Ext.refl _ | with_reducible assumption | with_reducible refine Ext.alloc ?_ _ | with_reducible refine Ext.drew ?_ | with_reducible refine Ext.drewN ?_ _ | with_reducible refine Ext.setCell ?_ (by first | exact Nat.le_refl _ | assumption | (simp; done) | omega) _ | with_reducible refine Ext.trans ?_ (by with_reducible assumption))); done)) | exact HKF.out)
                clear hK K
                (try simp only [Act.put, List.setIfInBounds_toArray, List.set_cons_zero, List.set_cons_succ])
                refine wpAnyH_take (i := 2) (oi := { dst := some 35, op := Op.binOp BinOp.add 9 (Operand.const (Value.string { data := #[112] })) (Operand.tmp 34) 9, type := 9, pos := "shell.go:261", after := #[{ on := 1, ground := Ground.data }], guard := none }) (v := ?_) rfl (by kernel_rfl) (by kernel_rfl) (by kernel_rfl) (fun _ _ _ h => h) (Or.inl ⟨by rfl, ?_⟩) (by assumption) ?_
                rotate_left
                · intro wq hSw; (try dsimp only at hSw); go_simp; (try with_reducible rfl)
                (try simp only [Act.put, List.setIfInBounds_toArray, List.set_cons_zero, List.set_cons_succ])
                refine wpAnyH_take (i := 6) (oi := { dst := some 39, op := Op.move (Operand.tmp 38), type := 4, pos := "shell.go:261", after := #[{ on := 5, ground := Ground.data }, { on := 1, ground := Ground.chain }], guard := none }) (v := ?_) rfl (by kernel_rfl) (by kernel_rfl) (by kernel_rfl) (fun _ _ _ h => h) (Or.inl ⟨by rfl, ?_⟩) (by assumption) ?_
                rotate_left
                · intro wq hSw; (try dsimp only at hSw); go_simp; (try with_reducible rfl)
                (try simp only [Act.put, List.setIfInBounds_toArray, List.set_cons_zero, List.set_cons_succ])
                refine wpAnyH_take (i := 7) (oi := { dst := some 40, op := Op.fieldAddr rsT (Operand.tmp 7) 1, type := 0, pos := "shell.go:261", after := #[{ on := 6, ground := Ground.guard }], guard := some (6, true) }) (v := ?_) rfl (by kernel_rfl) (by kernel_rfl) (by kernel_rfl) (fun _ _ _ h => h) (Or.inl ⟨by rfl, ?_⟩) (by assumption) ?_
                rotate_left
                · intro wq hSw; (try dsimp only at hSw); go_simp; (try with_reducible rfl)
                (try simp only [Act.put, List.setIfInBounds_toArray, List.set_cons_zero, List.set_cons_succ])
                refine wpAnyH_take (i := 8) (oi := { dst := some 41, op := Op.load 4 (Operand.tmp 40), type := 4, pos := "shell.go:261", after := #[{ on := 7, ground := Ground.data }, { on := 6, ground := Ground.guard }], guard := some (6, true) }) (v := ?_) rfl (by kernel_rfl) (by kernel_rfl) (by kernel_rfl) (fun _ _ _ h => h) (Or.inl ⟨by rfl, ?_⟩) (by assumption) ?_
                rotate_left
                · intro wq hSw; (try dsimp only at hSw); go_simp; (try with_reducible rfl)
                (try simp only [Act.put, List.setIfInBounds_toArray, List.set_cons_zero, List.set_cons_succ])
                refine wpAnyH_take (i := 9) (oi := { dst := some 42, op := Op.pick (Operand.tmp 39) (Operand.tmp 41) (Operand.const (Value.bool false)), type := 4, pos := "shell.go:261", after := #[{ on := 6, ground := Ground.data }, { on := 8, ground := Ground.data }], guard := none }) (v := ?_) rfl (by kernel_rfl) (by kernel_rfl) (by kernel_rfl) (fun _ _ _ h => h) (Or.inl ⟨by rfl, ?_⟩) (by assumption) ?_
                rotate_left
                · intro wq hSw; (try dsimp only at hSw); go_simp; (try with_reducible rfl)
                (try simp only [Act.put, List.setIfInBounds_toArray, List.set_cons_zero, List.set_cons_succ])
                refine wpAnyH_ready (rs := [3, 11]) (by kernel_rfl) (by simp) ?_
                refine AllReadyH.cons (o := { dst := some 36, op := Op.buildSlice 26 1 #[(0, Operand.tmp 35)], type := 26, pos := "shell.go:261", after := #[{ on := 2, ground := Ground.data }], guard := none }) rfl (fun K hK => ?_) ?_
                · go_simp
                  refine hK.out _ _ ?_ (fun hHeld => ?_)
                  · (try dsimp only); (first | exact ⟨p1, p2⟩ | (refine ⟨Ext.cell (w := W9) ?_ p1, Ext.cell (w := W9) ?_ p2⟩ <;> ((repeat (first | with_reducible exact Ext.refl _ | with_reducible assumption | with_reducible refine Ext.alloc ?_ _ | with_reducible refine Ext.drew ?_ | with_reducible refine Ext.drewN ?_ _ | with_reducible refine Ext.setCell ?_ (by first | exact Nat.le_refl _ | assumption | (simp; done) | omega) _ | with_reducible refine Ext.trans ?_ (by with_reducible assumption))); done)) | exact HKF.out)
                  clear hK K
                  (try simp only [Act.put, List.setIfInBounds_toArray, List.set_cons_zero, List.set_cons_succ])
                  refine wpAnyH_take (i := 10) (oi := { dst := some 43, op := Op.build smT #[(0, Operand.tmp 36), (3, Operand.tmp 42)], type := smT, pos := "shell.go:261", after := #[{ on := 3, ground := Ground.data }, { on := 9, ground := Ground.data }], guard := none }) (v := ?_) rfl (by kernel_rfl) (by kernel_rfl) (by kernel_rfl) (fun _ _ _ h => h) (Or.inl ⟨by rfl, ?_⟩) (by assumption) ?_
                  rotate_left
                  · intro wq hSw; (try dsimp only at hSw); go_simp; (try with_reducible rfl)
                  (try simp only [Act.put, List.setIfInBounds_toArray, List.set_cons_zero, List.set_cons_succ])
                  refine wpAnyH_ready (rs := [11]) (by kernel_rfl) (by simp) ?_
                  refine AllReadyH.cons (o := { dst := some 8, op := Op.alloc smT, type := 0, pos := "shell.go:261", after := #[], guard := none }) rfl (fun K hK => ?_) ?_
                  · go_simp
                    refine hK.out _ _ ?_ (fun hHeld => ?_)
                    · (try dsimp only); (first | exact ⟨p1, p2⟩ | (refine ⟨Ext.cell (w := W9) ?_ p1, Ext.cell (w := W9) ?_ p2⟩ <;> ((repeat (first | with_reducible exact Ext.refl _ | with_reducible assumption | with_reducible refine Ext.alloc ?_ _ | with_reducible refine Ext.drew ?_ | with_reducible refine Ext.drewN ?_ _ | with_reducible refine Ext.setCell ?_ (by first | exact Nat.le_refl _ | assumption | (simp; done) | omega) _ | with_reducible refine Ext.trans ?_ (by with_reducible assumption))); done)) | exact HKF.out)
                    clear hK K
                    (try simp only [Act.put, List.setIfInBounds_toArray, List.set_cons_zero, List.set_cons_succ])
                    refine wpAnyH_ready (rs := [12]) (by kernel_rfl) (by simp) ?_
                    refine AllReadyH.cons (o := { dst := none, op := Op.store smT (Operand.tmp 8) (Operand.tmp 43), type := 0, pos := "shell.go:261", after := #[{ on := 11, ground := Ground.data }, { on := 10, ground := Ground.data }, { on := 6, ground := Ground.chain }, { on := 0, ground := Ground.phase }, { on := 1, ground := Ground.phase }, { on := 2, ground := Ground.phase }, { on := 3, ground := Ground.phase }, { on := 4, ground := Ground.phase }, { on := 5, ground := Ground.phase }, { on := 6, ground := Ground.phase }, { on := 7, ground := Ground.phase }, { on := 8, ground := Ground.phase }, { on := 9, ground := Ground.phase }, { on := 10, ground := Ground.phase }, { on := 11, ground := Ground.phase }], guard := none }) rfl (fun K hK => ?_) ?_
                    · go_simp
                      refine hK.out _ _ ?_ (fun hHeld => ?_)
                      · (try dsimp only); (first | exact ⟨p1, p2⟩ | (refine ⟨Ext.cell (w := W9) ?_ p1, Ext.cell (w := W9) ?_ p2⟩ <;> ((repeat (first | with_reducible exact Ext.refl _ | with_reducible assumption | with_reducible refine Ext.alloc ?_ _ | with_reducible refine Ext.drew ?_ | with_reducible refine Ext.drewN ?_ _ | with_reducible refine Ext.setCell ?_ (by first | exact Nat.le_refl _ | assumption | (simp; done) | omega) _ | with_reducible refine Ext.trans ?_ (by with_reducible assumption))); done)) | exact HKF.out)
                      clear hK K
                      (try simp only [Act.put, List.setIfInBounds_toArray, List.set_cons_zero, List.set_cons_succ])
                      refine wpAnyH_done (by kernel_rfl) ?_ _
                      go_wp2_with fail
                      go_meet
                      refine ⟨rfl, ?_⟩
                      rw [Bool.true_and]
                      exact newSimC HX6.out
                    exact AllReadyH.nil
                  exact AllReadyH.nil
                refine AllReadyH.cons (o := { dst := some 8, op := Op.alloc smT, type := 0, pos := "shell.go:261", after := #[], guard := none }) rfl (fun K hK => ?_) ?_
                · go_simp
                  refine hK.out _ _ ?_ (fun hHeld => ?_)
                  · (try dsimp only); (first | exact ⟨p1, p2⟩ | (refine ⟨Ext.cell (w := W9) ?_ p1, Ext.cell (w := W9) ?_ p2⟩ <;> ((repeat (first | with_reducible exact Ext.refl _ | with_reducible assumption | with_reducible refine Ext.alloc ?_ _ | with_reducible refine Ext.drew ?_ | with_reducible refine Ext.drewN ?_ _ | with_reducible refine Ext.setCell ?_ (by first | exact Nat.le_refl _ | assumption | (simp; done) | omega) _ | with_reducible refine Ext.trans ?_ (by with_reducible assumption))); done)) | exact HKF.out)
                  clear hK K
                  (try simp only [Act.put, List.setIfInBounds_toArray, List.set_cons_zero, List.set_cons_succ])
                  refine wpAnyH_ready (rs := [3]) (by kernel_rfl) (by simp) ?_
                  refine AllReadyH.cons (o := { dst := some 36, op := Op.buildSlice 26 1 #[(0, Operand.tmp 35)], type := 26, pos := "shell.go:261", after := #[{ on := 2, ground := Ground.data }], guard := none }) rfl (fun K hK => ?_) ?_
                  · go_simp
                    refine hK.out _ _ ?_ (fun hHeld => ?_)
                    · (try dsimp only); (first | exact ⟨p1, p2⟩ | (refine ⟨Ext.cell (w := W9) ?_ p1, Ext.cell (w := W9) ?_ p2⟩ <;> ((repeat (first | with_reducible exact Ext.refl _ | with_reducible assumption | with_reducible refine Ext.alloc ?_ _ | with_reducible refine Ext.drew ?_ | with_reducible refine Ext.drewN ?_ _ | with_reducible refine Ext.setCell ?_ (by first | exact Nat.le_refl _ | assumption | (simp; done) | omega) _ | with_reducible refine Ext.trans ?_ (by with_reducible assumption))); done)) | exact HKF.out)
                    clear hK K
                    (try simp only [Act.put, List.setIfInBounds_toArray, List.set_cons_zero, List.set_cons_succ])
                    refine wpAnyH_take (i := 10) (oi := { dst := some 43, op := Op.build smT #[(0, Operand.tmp 36), (3, Operand.tmp 42)], type := smT, pos := "shell.go:261", after := #[{ on := 3, ground := Ground.data }, { on := 9, ground := Ground.data }], guard := none }) (v := ?_) rfl (by kernel_rfl) (by kernel_rfl) (by kernel_rfl) (fun _ _ _ h => h) (Or.inl ⟨by rfl, ?_⟩) (by assumption) ?_
                    rotate_left
                    · intro wq hSw; (try dsimp only at hSw); go_simp; (try with_reducible rfl)
                    (try simp only [Act.put, List.setIfInBounds_toArray, List.set_cons_zero, List.set_cons_succ])
                    refine wpAnyH_ready (rs := [12]) (by kernel_rfl) (by simp) ?_
                    refine AllReadyH.cons (o := { dst := none, op := Op.store smT (Operand.tmp 8) (Operand.tmp 43), type := 0, pos := "shell.go:261", after := #[{ on := 11, ground := Ground.data }, { on := 10, ground := Ground.data }, { on := 6, ground := Ground.chain }, { on := 0, ground := Ground.phase }, { on := 1, ground := Ground.phase }, { on := 2, ground := Ground.phase }, { on := 3, ground := Ground.phase }, { on := 4, ground := Ground.phase }, { on := 5, ground := Ground.phase }, { on := 6, ground := Ground.phase }, { on := 7, ground := Ground.phase }, { on := 8, ground := Ground.phase }, { on := 9, ground := Ground.phase }, { on := 10, ground := Ground.phase }, { on := 11, ground := Ground.phase }], guard := none }) rfl (fun K hK => ?_) ?_
                    · go_simp
                      refine hK.out _ _ ?_ (fun hHeld => ?_)
                      · (try dsimp only); (first | exact ⟨p1, p2⟩ | (refine ⟨Ext.cell (w := W9) ?_ p1, Ext.cell (w := W9) ?_ p2⟩ <;> ((repeat (first | with_reducible exact Ext.refl _ | with_reducible assumption | with_reducible refine Ext.alloc ?_ _ | with_reducible refine Ext.drew ?_ | with_reducible refine Ext.drewN ?_ _ | with_reducible refine Ext.setCell ?_ (by first | exact Nat.le_refl _ | assumption | (simp; done) | omega) _ | with_reducible refine Ext.trans ?_ (by with_reducible assumption))); done)) | exact HKF.out)
                      clear hK K
                      (try simp only [Act.put, List.setIfInBounds_toArray, List.set_cons_zero, List.set_cons_succ])
                      refine wpAnyH_done (by kernel_rfl) ?_ _
                      go_wp2_with fail
                      go_meet
                      refine ⟨rfl, ?_⟩
                      rw [Bool.true_and]
                      exact newSimB HX6.out
                    exact AllReadyH.nil
                  exact AllReadyH.nil
                exact AllReadyH.nil
              refine AllReadyH.cons (o := { dst := some 8, op := Op.alloc smT, type := 0, pos := "shell.go:261", after := #[], guard := none }) rfl (fun K hK => ?_) ?_
              · go_simp
                refine hK.out _ _ ?_ (fun hHeld => ?_)
                · (try dsimp only); (first | exact ⟨p1, p2⟩ | (refine ⟨Ext.cell (w := W9) ?_ p1, Ext.cell (w := W9) ?_ p2⟩ <;> ((repeat (first | with_reducible exact Ext.refl _ | with_reducible assumption | with_reducible refine Ext.alloc ?_ _ | with_reducible refine Ext.drew ?_ | with_reducible refine Ext.drewN ?_ _ | with_reducible refine Ext.setCell ?_ (by first | exact Nat.le_refl _ | assumption | (simp; done) | omega) _ | with_reducible refine Ext.trans ?_ (by with_reducible assumption))); done)) | exact HKF.out)
                clear hK K
                (try simp only [Act.put, List.setIfInBounds_toArray, List.set_cons_zero, List.set_cons_succ])
                refine wpAnyH_ready (rs := [1]) (by kernel_rfl) (by simp) ?_
                refine AllReadyH.cons (o := { dst := some 34, op := Op.call { callee := Callee.value (Operand.func 6), args := #[Operand.tmp 33], argTypes := #[3] }, type := 9, pos := "shell.go:261", after := #[{ on := 0, ground := Ground.data }], guard := none }) rfl (fun K hK => ?_) ?_
                · go_simp
                  go_at_call_of 6 (Value.int IntKind.i64 (k : Int)); refine (HIT.out _).mono ?_; rintro e w6 ⟨rfl, hx6⟩
                  have HX6 := hide (Ext.trans (a := W9) (by ((repeat (first | with_reducible exact Ext.refl _ | with_reducible assumption | with_reducible refine Ext.alloc ?_ _ | with_reducible refine Ext.drew ?_ | with_reducible refine Ext.drewN ?_ _ | with_reducible refine Ext.setCell ?_ (by first | exact Nat.le_refl _ | assumption | (simp; done) | omega) _ | with_reducible refine Ext.trans ?_ (by with_reducible assumption))); done)) hx6)
                  first
                    | (have HBY := hide ((Blk.new W9 smT smZ).ext hx6))
                    | (have HBY := hide ((Blk.new W9 smT smZ).drew.ext hx6))
                    | (have HBY := hide ((Blk.new W9.drew smT smZ).ext hx6))
                    | (have HBY := hide (show Blk (w6.alloc (.cells smZ smT)) w6.heap.size smT smZ from Blk.new _ _ _))
                  have hy := fun (o : Obj) (i : Nat) => (HBY.out.alloc o).cell i
                  have fy := fun (o : Obj) (i : Nat) => (HBY.out.alloc o).frozen i
                  go_wp2_with fail
                  refine hK.out _ _ ?_ (fun hHeld => ?_)
                  · (try dsimp only); (first | exact ⟨p1, p2⟩ | (refine ⟨Ext.cell (w := W9) ?_ p1, Ext.cell (w := W9) ?_ p2⟩ <;> ((repeat (first | with_reducible exact Ext.refl _ | with_reducible assumption | with_reducible refine Ext.alloc ?_ _ | with_reducible refine Ext.drew ?_ | with_reducible refine Ext.drewN ?_ _ | with_reducible refine Ext.setCell ?_ (by first | exact Nat.le_refl _ | assumption | (simp; done) | omega) _ | with_reducible refine Ext.trans ?_ (by with_reducible assumption))); done)) | exact HKF.out)
                  clear hK K
                  (try simp only [Act.put, List.setIfInBounds_toArray, List.set_cons_zero, List.set_cons_succ])
                  refine wpAnyH_take (i := 2) (oi := { dst := some 35, op := Op.binOp BinOp.add 9 (Operand.const (Value.string { data := #[112] })) (Operand.tmp 34) 9, type := 9, pos := "shell.go:261", after := #[{ on := 1, ground := Ground.data }], guard := none }) (v := ?_) rfl (by kernel_rfl) (by kernel_rfl) (by kernel_rfl) (fun _ _ _ h => h) (Or.inl ⟨by rfl, ?_⟩) (by assumption) ?_
                  rotate_left
                  · intro wq hSw; (try dsimp only at hSw); go_simp; (try with_reducible rfl)
                  (try simp only [Act.put, List.setIfInBounds_toArray, List.set_cons_zero, List.set_cons_succ])
                  refine wpAnyH_take (i := 6) (oi := { dst := some 39, op := Op.move (Operand.tmp 38), type := 4, pos := "shell.go:261", after := #[{ on := 5, ground := Ground.data }, { on := 1, ground := Ground.chain }], guard := none }) (v := ?_) rfl (by kernel_rfl) (by kernel_rfl) (by kernel_rfl) (fun _ _ _ h => h) (Or.inl ⟨by rfl, ?_⟩) (by assumption) ?_
                  rotate_left
                  · intro wq hSw; (try dsimp only at hSw); go_simp; (try with_reducible rfl)
                  (try simp only [Act.put, List.setIfInBounds_toArray, List.set_cons_zero, List.set_cons_succ])
                  refine wpAnyH_take (i := 7) (oi := { dst := some 40, op := Op.fieldAddr rsT (Operand.tmp 7) 1, type := 0, pos := "shell.go:261", after := #[{ on := 6, ground := Ground.guard }], guard := some (6, true) }) (v := ?_) rfl (by kernel_rfl) (by kernel_rfl) (by kernel_rfl) (fun _ _ _ h => h) (Or.inl ⟨by rfl, ?_⟩) (by assumption) ?_
                  rotate_left
                  · intro wq hSw; (try dsimp only at hSw); go_simp; (try with_reducible rfl)
                  (try simp only [Act.put, List.setIfInBounds_toArray, List.set_cons_zero, List.set_cons_succ])
                  refine wpAnyH_take (i := 8) (oi := { dst := some 41, op := Op.load 4 (Operand.tmp 40), type := 4, pos := "shell.go:261", after := #[{ on := 7, ground := Ground.data }, { on := 6, ground := Ground.guard }], guard := some (6, true) }) (v := ?_) rfl (by kernel_rfl) (by kernel_rfl) (by kernel_rfl) (fun _ _ _ h => h) (Or.inl ⟨by rfl, ?_⟩) (by assumption) ?_
                  rotate_left
                  · intro wq hSw; (try dsimp only at hSw); go_simp; (try with_reducible rfl)
                  (try simp only [Act.put, List.setIfInBounds_toArray, List.set_cons_zero, List.set_cons_succ])
                  refine wpAnyH_take (i := 9) (oi := { dst := some 42, op := Op.pick (Operand.tmp 39) (Operand.tmp 41) (Operand.const (Value.bool false)), type := 4, pos := "shell.go:261", after := #[{ on := 6, ground := Ground.data }, { on := 8, ground := Ground.data }], guard := none }) (v := ?_) rfl (by kernel_rfl) (by kernel_rfl) (by kernel_rfl) (fun _ _ _ h => h) (Or.inl ⟨by rfl, ?_⟩) (by assumption) ?_
                  rotate_left
                  · intro wq hSw; (try dsimp only at hSw); go_simp; (try with_reducible rfl)
                  (try simp only [Act.put, List.setIfInBounds_toArray, List.set_cons_zero, List.set_cons_succ])
                  refine wpAnyH_ready (rs := [3]) (by kernel_rfl) (by simp) ?_
                  refine AllReadyH.cons (o := { dst := some 36, op := Op.buildSlice 26 1 #[(0, Operand.tmp 35)], type := 26, pos := "shell.go:261", after := #[{ on := 2, ground := Ground.data }], guard := none }) rfl (fun K hK => ?_) ?_
                  · go_simp
                    refine hK.out _ _ ?_ (fun hHeld => ?_)
                    · (try dsimp only); (first | exact ⟨p1, p2⟩ | (refine ⟨Ext.cell (w := W9) ?_ p1, Ext.cell (w := W9) ?_ p2⟩ <;> ((repeat (first | with_reducible exact Ext.refl _ | with_reducible assumption | with_reducible refine Ext.alloc ?_ _ | with_reducible refine Ext.drew ?_ | with_reducible refine Ext.drewN ?_ _ | with_reducible refine Ext.setCell ?_ (by first | exact Nat.le_refl _ | assumption | (simp; done) | omega) _ | with_reducible refine Ext.trans ?_ (by with_reducible assumption))); done)) | exact HKF.out)
                    clear hK K
                    (try simp only [Act.put, List.setIfInBounds_toArray, List.set_cons_zero, List.set_cons_succ])
                    refine wpAnyH_take (i := 10) (oi := { dst := some 43, op := Op.build smT #[(0, Operand.tmp 36), (3, Operand.tmp 42)], type := smT, pos := "shell.go:261", after := #[{ on := 3, ground := Ground.data }, { on := 9, ground := Ground.data }], guard := none }) (v := ?_) rfl (by kernel_rfl) (by kernel_rfl) (by kernel_rfl) (fun _ _ _ h => h) (Or.inl ⟨by rfl, ?_⟩) (by assumption) ?_
                    rotate_left
                    · intro wq hSw; (try dsimp only at hSw); go_simp; (try with_reducible rfl)
                    (try simp only [Act.put, List.setIfInBounds_toArray, List.set_cons_zero, List.set_cons_succ])
                    refine wpAnyH_ready (rs := [12]) (by kernel_rfl) (by simp) ?_
                    refine AllReadyH.cons (o := { dst := none, op := Op.store smT (Operand.tmp 8) (Operand.tmp 43), type := 0, pos := "shell.go:261", after := #[{ on := 11, ground := Ground.data }, { on := 10, ground := Ground.data }, { on := 6, ground := Ground.chain }, { on := 0, ground := Ground.phase }, { on := 1, ground := Ground.phase }, { on := 2, ground := Ground.phase }, { on := 3, ground := Ground.phase }, { on := 4, ground := Ground.phase }, { on := 5, ground := Ground.phase }, { on := 6, ground := Ground.phase }, { on := 7, ground := Ground.phase }, { on := 8, ground := Ground.phase }, { on := 9, ground := Ground.phase }, { on := 10, ground := Ground.phase }, { on := 11, ground := Ground.phase }], guard := none }) rfl (fun K hK => ?_) ?_
                    · go_simp
                      refine hK.out _ _ ?_ (fun hHeld => ?_)
                      · (try dsimp only); (first | exact ⟨p1, p2⟩ | (refine ⟨Ext.cell (w := W9) ?_ p1, Ext.cell (w := W9) ?_ p2⟩ <;> ((repeat (first | with_reducible exact Ext.refl _ | with_reducible assumption | with_reducible refine Ext.alloc ?_ _ | with_reducible refine Ext.drew ?_ | with_reducible refine Ext.drewN ?_ _ | with_reducible refine Ext.setCell ?_ (by first | exact Nat.le_refl _ | assumption | (simp; done) | omega) _ | with_reducible refine Ext.trans ?_ (by with_reducible assumption))); done)) | exact HKF.out)
                      clear hK K
                      (try simp only [Act.put, List.setIfInBounds_toArray, List.set_cons_zero, List.set_cons_succ])
                      refine wpAnyH_done (by kernel_rfl) ?_ _
                      go_wp2_with fail
                      go_meet
                      refine ⟨rfl, ?_⟩
                      rw [Bool.true_and]
                      exact newSimA (U := w6.alloc (.cells #[.string (str (nameP k))] 9)) (HBY.out.alloc _) (Blk.new w6 9 #[.string (str (nameP k))]) (Nat.le_refl _) (HX6.out.alloc _)
                    exact AllReadyH.nil
                  exact AllReadyH.nil
                exact AllReadyH.nil
              exact AllReadyH.nil
          case rest =>
            obtain ⟨rfl, g8, ga, rfl, hb8, hba, hgb, hx8⟩ := hcut
            have HG8 := hide (Nat.le_trans HST9.out.ext.size hgb)
            have hn8 : Value.ownBlock (.slice A5 k c5) ≠ some g8 := fun e => by have := (HST9.out.row.lt _ e).2; omega
            have ha8 : ∀ x ∈ ls, ∀ b, x.2 = .slice (some ⟨b, 0, none⟩) 1 1 → b ≠ g8 := fun x hx b e => by
              obtain ⟨b', e', hb⟩ := HST9.out.each x hx
              rw [e'] at e
              injection e with e
              injection e with e
              injection e with e
              have := hb.lt
              omega
            have hb7 := HB9.out.ext hx8
            have HST8 := hide (HST9.out.to hx8)
            have HBA := hide hba
            have a0 : wc.cell? ⟨g7, 0, none⟩ = some (.bool ri) := hb7.cell 0
            have a1 : wc.cell? ⟨g7, 1, none⟩ = some (.bool ro) := hb7.cell 1
            have e0 : wc.cell? ⟨g8, 0, none⟩ = some (.slice (some ⟨ga, 0, none⟩) 1 1) := hb8.cell 0
            have e1 : wc.cell? ⟨g8, 1, none⟩ = some (.string ⟨#[]⟩) := hb8.cell 1
            have e2 : wc.cell? ⟨g8, 2, none⟩ = some (.string ⟨#[]⟩) := hb8.cell 2
            have e3 : wc.cell? ⟨g8, 3, none⟩ = some (.bool (rm && ro)) := hb8.cell 3
            have f1 := hb8.frozen 1
            have f2 := hb8.frozen 2
            have hne78 : g8 ≠ g7 := Blk.ne_ hb8 hb7 (by decide)
            have HSIM := hide (show IsSim k (simK k ri ro (rm && ro)) from ⟨ri, ro, rm && ro, rfl⟩)
            clear p0 p1 p2 HB9 HST9 hx8 hba hgb t1 t2
            generalize hmo : (rm && ro) = mo at *
            clear hmo
            have hg8 : w.heap.size ≤ g8 := HG8.out
            have HLN8 := hide HST8.out.ln
            cases ri <;> cases ro
            · have HB := hide (show Blk wc g8 smT #[.slice (some ⟨ga, 0, none⟩) 1 1, .string ⟨#[]⟩, .string ⟨#[]⟩, .bool mo] from hb8)
              have HA := hide (show Blk wc ga 9 #[.string (str (nameP k))] from HBA.out)
              have HSTU := hide (show CmSt w ls k A5 c5 wc from HST8.out)
              go_upto_region 11 with fail
              obtain ⟨U, hU⟩ : ∃ U, wc = U := ⟨_, rfl⟩
              rw [hU] at HB HA HSTU ⊢
              have z0 : U.cell? ⟨g8, 0, none⟩ = some (.slice (some ⟨ga, 0, none⟩) 1 1) := HB.out.cell 0
              have z1 : U.cell? ⟨g8, 1, none⟩ = some (.string ⟨#[]⟩) := HB.out.cell 1
              have z2 : U.cell? ⟨g8, 2, none⟩ = some (.string ⟨#[]⟩) := HB.out.cell 2
              have z3 : U.cell? ⟨g8, 3, none⟩ = some (.bool mo) := HB.out.cell 3
              have hxr := (Ext.refl U).alloc (.cells #[.slice (some ⟨ga, 0, none⟩) 1 1, .string ⟨#[]⟩, .string ⟨#[]⟩, .bool mo] smT)
              have HS3 := hide (HSTU.out.to hxr)
              have HAX := hide (show ArgAt (U.alloc (.cells #[.slice (some ⟨ga, 0, none⟩) 1 1, .string ⟨#[]⟩, .string ⟨#[]⟩, .bool mo] smT)) (simK k false false mo, .slice (some ⟨ga, 0, none⟩) 1 1) from ⟨ga, rfl, HA.out.ext hxr⟩)
              have HRW := hide ((Blk.new U smT #[.slice (some ⟨ga, 0, none⟩) 1 1, .string ⟨#[]⟩, .string ⟨#[]⟩, .bool mo]).rowsF 1 4 rfl)
              have HON := hide (show ∀ u ∈ ([.slice (some ⟨ga, 0, none⟩) 1 1, .string ⟨#[]⟩, .string ⟨#[]⟩, .bool mo] : List Value), u.oneCell' = true by simp [Value.oneCell'])
              have HL1 := hide (show k + 1 ≤ maxLen by simp only [maxLen]; omega)
              have HL2 := hide (show (k + 1) * 64 ≤ 140737488355328 by omega)
              clear hxr hU a0 a1 e0 e1 e2 e3 f1 f2
              go_wp2_with (at_builtin; refine wpList_append_any _ rfl (.tmp 50) (.tmp 52) 24 rfl w.heap.size smT i0 _ 4 64 Try.underlying24 hi0 hz0 hz1 hz2 rfl (by decide) (.slice A5 k c5) k (ls.flatMap simC) rfl HS3.out.row _ _ 1 1 [.slice (some ⟨ga, 0, none⟩) 1 1, .string ⟨#[]⟩, .string ⟨#[]⟩, .bool mo] rfl HRW.out HON.out HL1.out HL2.out HS3.out.ext.size ?_; intro A9 c9 w9 ho9 hg9 ha9; have HSN := hide (HS3.out.more HAX.out ho9 hg9); clear ho9 hg9 ha9)
              go_roundw
              case rel => exact ⟨k + 1, _, A9, c9, by omega, by omega, by go_num, rfl, HLS.out.more HLN8.out HSIM.out, HSN.out⟩
              case measure => simp [intOf]; omega
            · have HB := hide (show Blk (wc.setCell ⟨g8, 2, none⟩ (.string ⟨#[111, 117, 116]⟩)) g8 smT #[.slice (some ⟨ga, 0, none⟩) 1 1, .string ⟨#[]⟩, .string ⟨#[111, 117, 116]⟩, .bool mo] from (hb8.set_ 2 (.string ⟨#[111, 117, 116]⟩)))
              have HA := hide (show Blk (wc.setCell ⟨g8, 2, none⟩ (.string ⟨#[111, 117, 116]⟩)) ga 9 #[.string (str (nameP k))] from (HBA.out.far (p := ⟨g8, 2, none⟩) (Blk.ne_ HBA.out hb8 (by decide)) (.string ⟨#[111, 117, 116]⟩)))
              have HSTU := hide (show CmSt w ls k A5 c5 (wc.setCell ⟨g8, 2, none⟩ (.string ⟨#[111, 117, 116]⟩)) from (HST8.out.set8 hg8 hn8 ha8 2 (.string ⟨#[111, 117, 116]⟩)))
              go_upto_region 11 with fail
              obtain ⟨U, hU⟩ : ∃ U, (wc.setCell ⟨g8, 2, none⟩ (.string ⟨#[111, 117, 116]⟩)) = U := ⟨_, rfl⟩
              rw [hU] at HB HA HSTU ⊢
              have z0 : U.cell? ⟨g8, 0, none⟩ = some (.slice (some ⟨ga, 0, none⟩) 1 1) := HB.out.cell 0
              have z1 : U.cell? ⟨g8, 1, none⟩ = some (.string ⟨#[]⟩) := HB.out.cell 1
              have z2 : U.cell? ⟨g8, 2, none⟩ = some (.string ⟨#[111, 117, 116]⟩) := HB.out.cell 2
              have z3 : U.cell? ⟨g8, 3, none⟩ = some (.bool mo) := HB.out.cell 3
              have hxr := (Ext.refl U).alloc (.cells #[.slice (some ⟨ga, 0, none⟩) 1 1, .string ⟨#[]⟩, .string ⟨#[111, 117, 116]⟩, .bool mo] smT)
              have HS3 := hide (HSTU.out.to hxr)
              have HAX := hide (show ArgAt (U.alloc (.cells #[.slice (some ⟨ga, 0, none⟩) 1 1, .string ⟨#[]⟩, .string ⟨#[111, 117, 116]⟩, .bool mo] smT)) (simK k false true mo, .slice (some ⟨ga, 0, none⟩) 1 1) from ⟨ga, rfl, HA.out.ext hxr⟩)
              have HRW := hide ((Blk.new U smT #[.slice (some ⟨ga, 0, none⟩) 1 1, .string ⟨#[]⟩, .string ⟨#[111, 117, 116]⟩, .bool mo]).rowsF 1 4 rfl)
              have HON := hide (show ∀ u ∈ ([.slice (some ⟨ga, 0, none⟩) 1 1, .string ⟨#[]⟩, .string ⟨#[111, 117, 116]⟩, .bool mo] : List Value), u.oneCell' = true by simp [Value.oneCell'])
              have HL1 := hide (show k + 1 ≤ maxLen by simp only [maxLen]; omega)
              have HL2 := hide (show (k + 1) * 64 ≤ 140737488355328 by omega)
              clear hxr hU a0 a1 e0 e1 e2 e3 f1 f2
              go_wp2_with (at_builtin; refine wpList_append_any _ rfl (.tmp 50) (.tmp 52) 24 rfl w.heap.size smT i0 _ 4 64 Try.underlying24 hi0 hz0 hz1 hz2 rfl (by decide) (.slice A5 k c5) k (ls.flatMap simC) rfl HS3.out.row _ _ 1 1 [.slice (some ⟨ga, 0, none⟩) 1 1, .string ⟨#[]⟩, .string ⟨#[111, 117, 116]⟩, .bool mo] rfl HRW.out HON.out HL1.out HL2.out HS3.out.ext.size ?_; intro A9 c9 w9 ho9 hg9 ha9; have HSN := hide (HS3.out.more HAX.out ho9 hg9); clear ho9 hg9 ha9)
              go_roundw
              case rel => exact ⟨k + 1, _, A9, c9, by omega, by omega, by go_num, rfl, HLS.out.more HLN8.out HSIM.out, HSN.out⟩
              case measure => simp [intOf]; omega
            · have HB := hide (show Blk (wc.setCell ⟨g8, 1, none⟩ (.string ⟨#[105, 110]⟩)) g8 smT #[.slice (some ⟨ga, 0, none⟩) 1 1, .string ⟨#[105, 110]⟩, .string ⟨#[]⟩, .bool mo] from (hb8.set_ 1 (.string ⟨#[105, 110]⟩)))
              have HA := hide (show Blk (wc.setCell ⟨g8, 1, none⟩ (.string ⟨#[105, 110]⟩)) ga 9 #[.string (str (nameP k))] from (HBA.out.far (p := ⟨g8, 1, none⟩) (Blk.ne_ HBA.out hb8 (by decide)) (.string ⟨#[105, 110]⟩)))
              have HSTU := hide (show CmSt w ls k A5 c5 (wc.setCell ⟨g8, 1, none⟩ (.string ⟨#[105, 110]⟩)) from (HST8.out.set8 hg8 hn8 ha8 1 (.string ⟨#[105, 110]⟩)))
              go_upto_region 11 with fail
              obtain ⟨U, hU⟩ : ∃ U, (wc.setCell ⟨g8, 1, none⟩ (.string ⟨#[105, 110]⟩)) = U := ⟨_, rfl⟩
              rw [hU] at HB HA HSTU ⊢
              have z0 : U.cell? ⟨g8, 0, none⟩ = some (.slice (some ⟨ga, 0, none⟩) 1 1) := HB.out.cell 0
              have z1 : U.cell? ⟨g8, 1, none⟩ = some (.string ⟨#[105, 110]⟩) := HB.out.cell 1
              have z2 : U.cell? ⟨g8, 2, none⟩ = some (.string ⟨#[]⟩) := HB.out.cell 2
              have z3 : U.cell? ⟨g8, 3, none⟩ = some (.bool mo) := HB.out.cell 3
              have hxr := (Ext.refl U).alloc (.cells #[.slice (some ⟨ga, 0, none⟩) 1 1, .string ⟨#[105, 110]⟩, .string ⟨#[]⟩, .bool mo] smT)
              have HS3 := hide (HSTU.out.to hxr)
              have HAX := hide (show ArgAt (U.alloc (.cells #[.slice (some ⟨ga, 0, none⟩) 1 1, .string ⟨#[105, 110]⟩, .string ⟨#[]⟩, .bool mo] smT)) (simK k true false mo, .slice (some ⟨ga, 0, none⟩) 1 1) from ⟨ga, rfl, HA.out.ext hxr⟩)
              have HRW := hide ((Blk.new U smT #[.slice (some ⟨ga, 0, none⟩) 1 1, .string ⟨#[105, 110]⟩, .string ⟨#[]⟩, .bool mo]).rowsF 1 4 rfl)
              have HON := hide (show ∀ u ∈ ([.slice (some ⟨ga, 0, none⟩) 1 1, .string ⟨#[105, 110]⟩, .string ⟨#[]⟩, .bool mo] : List Value), u.oneCell' = true by simp [Value.oneCell'])
              have HL1 := hide (show k + 1 ≤ maxLen by simp only [maxLen]; omega)
              have HL2 := hide (show (k + 1) * 64 ≤ 140737488355328 by omega)
              clear hxr hU a0 a1 e0 e1 e2 e3 f1 f2
              go_wp2_with (at_builtin; refine wpList_append_any _ rfl (.tmp 50) (.tmp 52) 24 rfl w.heap.size smT i0 _ 4 64 Try.underlying24 hi0 hz0 hz1 hz2 rfl (by decide) (.slice A5 k c5) k (ls.flatMap simC) rfl HS3.out.row _ _ 1 1 [.slice (some ⟨ga, 0, none⟩) 1 1, .string ⟨#[105, 110]⟩, .string ⟨#[]⟩, .bool mo] rfl HRW.out HON.out HL1.out HL2.out HS3.out.ext.size ?_; intro A9 c9 w9 ho9 hg9 ha9; have HSN := hide (HS3.out.more HAX.out ho9 hg9); clear ho9 hg9 ha9)
              go_roundw
              case rel => exact ⟨k + 1, _, A9, c9, by omega, by omega, by go_num, rfl, HLS.out.more HLN8.out HSIM.out, HSN.out⟩
              case measure => simp [intOf]; omega
            · have HB := hide (show Blk ((wc.setCell ⟨g8, 1, none⟩ (.string ⟨#[105, 110]⟩)).setCell ⟨g8, 2, none⟩ (.string ⟨#[111, 117, 116]⟩)) g8 smT #[.slice (some ⟨ga, 0, none⟩) 1 1, .string ⟨#[105, 110]⟩, .string ⟨#[111, 117, 116]⟩, .bool mo] from ((hb8.set_ 1 (.string ⟨#[105, 110]⟩)).set_ 2 (.string ⟨#[111, 117, 116]⟩)))
              have HA := hide (show Blk ((wc.setCell ⟨g8, 1, none⟩ (.string ⟨#[105, 110]⟩)).setCell ⟨g8, 2, none⟩ (.string ⟨#[111, 117, 116]⟩)) ga 9 #[.string (str (nameP k))] from ((HBA.out.far (p := ⟨g8, 1, none⟩) (Blk.ne_ HBA.out hb8 (by decide)) (.string ⟨#[105, 110]⟩)).far (p := ⟨g8, 2, none⟩) (Blk.ne_ HBA.out hb8 (by decide)) (.string ⟨#[111, 117, 116]⟩)))
              have HSTU := hide (show CmSt w ls k A5 c5 ((wc.setCell ⟨g8, 1, none⟩ (.string ⟨#[105, 110]⟩)).setCell ⟨g8, 2, none⟩ (.string ⟨#[111, 117, 116]⟩)) from ((HST8.out.set8 hg8 hn8 ha8 1 (.string ⟨#[105, 110]⟩)).set8 hg8 hn8 ha8 2 (.string ⟨#[111, 117, 116]⟩)))
              go_upto_region 11 with fail
              obtain ⟨U, hU⟩ : ∃ U, ((wc.setCell ⟨g8, 1, none⟩ (.string ⟨#[105, 110]⟩)).setCell ⟨g8, 2, none⟩ (.string ⟨#[111, 117, 116]⟩)) = U := ⟨_, rfl⟩
              rw [hU] at HB HA HSTU ⊢
              have z0 : U.cell? ⟨g8, 0, none⟩ = some (.slice (some ⟨ga, 0, none⟩) 1 1) := HB.out.cell 0
              have z1 : U.cell? ⟨g8, 1, none⟩ = some (.string ⟨#[105, 110]⟩) := HB.out.cell 1
              have z2 : U.cell? ⟨g8, 2, none⟩ = some (.string ⟨#[111, 117, 116]⟩) := HB.out.cell 2
              have z3 : U.cell? ⟨g8, 3, none⟩ = some (.bool mo) := HB.out.cell 3
              have hxr := (Ext.refl U).alloc (.cells #[.slice (some ⟨ga, 0, none⟩) 1 1, .string ⟨#[105, 110]⟩, .string ⟨#[111, 117, 116]⟩, .bool mo] smT)
              have HS3 := hide (HSTU.out.to hxr)
              have HAX := hide (show ArgAt (U.alloc (.cells #[.slice (some ⟨ga, 0, none⟩) 1 1, .string ⟨#[105, 110]⟩, .string ⟨#[111, 117, 116]⟩, .bool mo] smT)) (simK k true true mo, .slice (some ⟨ga, 0, none⟩) 1 1) from ⟨ga, rfl, HA.out.ext hxr⟩)
              have HRW := hide ((Blk.new U smT #[.slice (some ⟨ga, 0, none⟩) 1 1, .string ⟨#[105, 110]⟩, .string ⟨#[111, 117, 116]⟩, .bool mo]).rowsF 1 4 rfl)
              have HON := hide (show ∀ u ∈ ([.slice (some ⟨ga, 0, none⟩) 1 1, .string ⟨#[105, 110]⟩, .string ⟨#[111, 117, 116]⟩, .bool mo] : List Value), u.oneCell' = true by simp [Value.oneCell'])
              have HL1 := hide (show k + 1 ≤ maxLen by simp only [maxLen]; omega)
              have HL2 := hide (show (k + 1) * 64 ≤ 140737488355328 by omega)
              clear hxr hU a0 a1 e0 e1 e2 e3 f1 f2
              go_wp2_with (at_builtin; refine wpList_append_any _ rfl (.tmp 50) (.tmp 52) 24 rfl w.heap.size smT i0 _ 4 64 Try.underlying24 hi0 hz0 hz1 hz2 rfl (by decide) (.slice A5 k c5) k (ls.flatMap simC) rfl HS3.out.row _ _ 1 1 [.slice (some ⟨ga, 0, none⟩) 1 1, .string ⟨#[105, 110]⟩, .string ⟨#[111, 117, 116]⟩, .bool mo] rfl HRW.out HON.out HL1.out HL2.out HS3.out.ext.size ?_; intro A9 c9 w9 ho9 hg9 ha9; have HSN := hide (HS3.out.more HAX.out ho9 hg9); clear ho9 hg9 ha9)
              go_roundw
              case rel => exact ⟨k + 1, _, A9, c9, by omega, by omega, by go_num, rfl, HLS.out.more HLN8.out HSIM.out, HSN.out⟩
              case measure => simp [intOf]; omega
        · have t1 : decide ((6 : Int) ≤ (k : Int)) = true := decide_eq_true (by omega)
          have t2 : decide (6 ≤ k) = true := decide_eq_true (by omega)
          have HEX := hide (show CmOut w (.slice A5 k c5) W9 from ⟨k, ls, A5, c5, hk6, rfl, HLS.out, HST9.out⟩)
          go_wp2_with fail
          go_meet
          exact HEX.out
      · obtain rfl : k = n := by omega
        have HEX := hide (show CmOut w (.slice A5 k c5) wr from ⟨k, ls, A5, c5, hk6, rfl, HLS.out, HST.out⟩)
        go_wp2_with fail
        go_meet
        exact HEX.out
  case rest =>
    obtain ⟨N0, ls0, A5, c5, hN0, rfl, hls0, hst0⟩ := hcut
    have HLS0 := hide hls0
    have HST0 := hide hst0
    clear hls0 hst0
    go_upto_if 57 with fail
    go_cut [5] (fun s5 wx => CmOne w s5 wx)
    case first =>
      by_cases h0 : N0 = 0
      · subst h0
        have hb0 := (Blk.new wc 9 #[.string ⟨#[112, 48]⟩]).alloc (.cells #[.slice (some ⟨wc.heap.size, 0, none⟩) 1 1, .string ⟨#[]⟩, .string ⟨#[]⟩, .bool false] smT)
        have hb1 := Blk.new' (wc.alloc (.cells #[.string ⟨#[112, 48]⟩] 9)) smT #[.slice (some ⟨wc.heap.size, 0, none⟩) 1 1, .string ⟨#[]⟩, .string ⟨#[]⟩, .bool false] (g := wc.heap.size + 1) (by simp)
        have hx := HST0.out.ext.trans (((Ext.refl wc).alloc (.cells #[.string ⟨#[112, 48]⟩] 9)).alloc (.cells #[.slice (some ⟨wc.heap.size, 0, none⟩) 1 1, .string ⟨#[]⟩, .string ⟨#[]⟩, .bool false] smT))
        have HOUT := hide (show CmOne w (.slice (some ⟨wc.heap.size + 1, 0, none⟩) 1 1) ((wc.alloc (.cells #[.string ⟨#[112, 48]⟩] 9)).alloc (.cells #[.slice (some ⟨wc.heap.size, 0, none⟩) 1 1, .string ⟨#[]⟩, .string ⟨#[]⟩, .bool false] smT)) from
          ⟨1, [(simK 0 false false false, .slice (some ⟨wc.heap.size, 0, none⟩) 1 1)], _, 1, by omega, by omega, rfl, simsOk_one ⟨false, false, false, rfl⟩, ⟨rfl, own_of_blk hb1 (by have := HST0.out.ext.size; omega), fun x hx => by
              rw [List.mem_singleton] at hx
              subst hx
              exact ⟨wc.heap.size, rfl, hb0⟩, hx⟩⟩)
        clear hb0 hb1 hx
        go_wp2_with fail
        go_meet
        exact HOUT.out
      · have t1 : ((N0 : Int) == 0) = false := by simpa using h0
        have t2 : (N0 == 0) = false := by simpa using h0
        have t3 : decide (N0 = 0) = false := decide_eq_false h0
        have HOUT := hide (show CmOne w (.slice A5 N0 c5) wc from ⟨N0, ls0, A5, c5, by omega, hN0, rfl, HLS0.out, HST0.out⟩)
        go_wp2_with fail
        go_meet
        exact HOUT.out
    case rest =>
    obtain ⟨N, ls, A5, c5, hN1, hN6, rfl, hls, hst⟩ := hcut
    have HLS := hide hls
    have HST := hide hst
    clear hls hst HLS0 HST0
    have hmm := @run_makeMap Try.prog
    have hbm := (((MapIS.made wc).alloc (.cells #[.map (some wc.heap.size)] mpT)).alloc (.cells #[.slice (some ⟨wc.heap.size + 1, 0, none⟩) 1 1, .int .i64 0, .slice none 0 0, .int .i64 0] wdT))
    go_upto_region 16 with fail
    have HW0 := hide (wat0 wc)
    clear hmm hbm
    generalize (((wc.alloc (.map #[] 0)).alloc (.cells #[.map (some wc.heap.size)] mpT)).alloc (.cells #[.slice (some ⟨wc.heap.size + 1, 0, none⟩) 1 1, .int .i64 0, .slice none 0 0, .int .i64 0] wdT)) = W0 at HW0 ⊢
    obtain ⟨gw, hgw⟩ : ∃ x, wc.heap.size + 1 + 1 = x := ⟨_, rfl⟩
    rw [hgw] at HW0 ⊢
    obtain ⟨gF, hgF⟩ : ∃ x, wc.heap.size + 1 = x := ⟨_, rfl⟩
    rw [hgF] at HW0
    clear hgw hgF
    go_wp2_with fail
    go_loopw [10, 67] (HvRel wc gw gF bs m) (fun _ i _ => m - (intOf i).toNat)
    case atStart => exact ⟨0, none, 0, 0, Nat.zero_le _, rfl, rfl, Nat.zero_le _, World.ownsRow_nil _ _ _ _, HW0.out⟩
    case round =>
      obtain ⟨q, A2, k2, c2, hq, rfl, rfl, hk4, ho, hwa⟩ := hrel
      have HO := hide ho
      have HWA := hide hwa
      clear ho hwa
      by_cases hlt : q < m
      · as_aux_lemma =>
        have hql : q < bs.length := by rw [HBL.out]; exact hlt
        have HT := hide (opFrom_take bs q hql)
        have hln := opFrom_len (bs.take (q + 1))
        obtain ⟨b, off, rfl, -, -⟩ := HBR.out.at1 (by omega)
        have hxw : Ext w wr := HST.out.ext.trans HWA.out.ext
        have g1 : wr.cell? ⟨b, off + q, none⟩ = some (.bool (bs.getD q false)) := hxw.cell (cells_bools HBR.out q hlt)
        have hml : (opFrom 0 (bs.take q)).length = k2 := by have := HO.out.1; rw [intsV_length] at this; omega
        have HML := hide hml
        have hsz := HWA.out.ext.size
        have HBQ := hide (rfl : bs.getD q false = bs.getD q false)
        obtain ⟨bq, hbq⟩ : ∃ bq, bs.getD q false = bq := ⟨_, rfl⟩
        rw [hbq] at g1 HT
        have HQ := hide hbq
        clear hxw hql hml HBQ hbq
        by_cases h4 : q < 4
        · cases bq
          · rw [if_neg (fun e => by cases e.2)] at HT
            rw [List.append_nil] at HT
            have HSQ := hide (haveQ_same bs q (fun e => by rw [HQ.out] at e; cases e.2))
            clear hln
            go_wp2_with fail
            go_roundw
            case rel => exact ⟨q + 1, A2, k2, c2, by omega, by go_num, rfl, hk4, by rw [HT.out]; exact HO.out, by rw [HSQ.out]; exact HWA.out⟩
            case measure => simp [intOf]; omega
          · rw [if_pos ⟨h4, rfl⟩] at HT
            rw [HT.out, List.length_append, HML.out] at hln
            have hm3 : k2 + 1 ≤ 4 := by simpa using hln
            clear hln
            have HBI := hide (Blk.new wr 3 #[.int .i64 (q : Int)]).reads
            go_wp2_with (at_builtin; refine wpList_append_any _ rfl (.tmp 77) (.tmp 79) _ rfl wc.heap.size 3 i1 _ 1 8 Try.underlying29 hi1 hz3 hz4 hz5 rfl (by omega) _ k2 (intsV (opFrom 0 (bs.take q))) rfl (HO.out.alloc _) _ _ 1 1 [.int .i64 (q : Int)] rfl HBI.out (by simp [Value.oneCell']) (by simp only [maxLen]; omega) (by omega) (by simp; omega) ?_; intro A3 c3 w3 ho3 hg3 ha3)
            have HO3 := hide (show w3.ownsRow wc.heap.size 3 1 (.slice A3 (k2 + 1) c3) (k2 + 1) (intsV (opFrom 0 (bs.take (q + 1)))) from by rw [HT.out, intsV_append]; exact ho3)
            have HWA3 := hide ((HWA.out.to ((Ext.refl wr).alloc (.cells #[.int .i64 (q : Int)] 3))).grownI (HO.out.alloc (.cells #[.int .i64 (q : Int)] 3)) (Nat.le_refl _) (Nat.le_refl _) hg3)
            clear ho3 hg3 ha3 HBI g1
            have c0 : w3.cell? ⟨gw, 0, none⟩ = some (.slice (some ⟨gF, 0, none⟩) 1 1) := HWA3.out.box.cell 0
            have c1 := (own_cell HWA3.out.rowF 0 (u := .map (some wc.heap.size)) rfl).1
            have HIT := hide (fun W => itoa_digit q (by omega) W)
            have hs0 : ∀ W : World, (Op.stringOp .add (⟨#[111, 108, 100]⟩ : ByteArray) (str (digit q))).run Try.prog W = .ok (.string (str (tokS (.old q)))) W := fun W => by
              rw [show str (tokS (.old q)) = (⟨#[111, 108, 100]⟩ : ByteArray) ++ str (digit q) from (str_append [111, 108, 100] (digit q)).symm]
              exact run_string_add_sum W _ _ (by rw [str_size]; show 3 + 1 ≤ 9223372036854775807; omega)
            go_upto_region 22 with fail
            have HM3 := hide (show FdAt w3 wc.heap.size k2 (haveQ (bs.take q)) from HWA3.out.each 0 (by simp) (by simp))
            have HPQ := hide (haveQ_put bs q h4 HQ.out)
            go_region_held3 (fun w' => w'.cell? ⟨gw, 0, none⟩ = some (.slice (some ⟨gF, 0, none⟩) 1 1) ∧ w'.cell? ⟨gF, 0, none⟩ = some (.map (some wc.heap.size)))
              (first | exact ⟨c0, c1⟩ | exact HK9.out | (refine ⟨Ext.cell (w := w3) ?_ c0, Ext.cell (w := w3) ?_ c1⟩ <;> ((repeat (first | with_reducible exact Ext.refl _ | with_reducible assumption | with_reducible refine Ext.alloc ?_ _ | with_reducible refine Ext.drew ?_ | with_reducible refine Ext.drewN ?_ _ | with_reducible refine Ext.setCell ?_ (by first | exact Nat.le_refl _ | assumption | (simp; done) | omega) _ | with_reducible refine Ext.trans ?_ (by with_reducible assumption))); done)) | fail)
              (first
                | (go_at_call_of 6 (Value.int IntKind.i64 (q : Int)); refine (HIT.out _).mono ?_; rintro e w7 ⟨rfl, hx7⟩; have hx7' := (Ext.refl w3).drew.trans hx7; have HWA7 := hide (HWA3.out.to hx7'); obtain ⟨W9, hput, hm9, hg9⟩ := (HM3.out.ext hx7').put (by simp only [maxLen]; omega) q (by omega) (.old q) (by simp) (tokS_len _); have HWA9 := hide (HWA7.out.turn 0 (by simp) (Nat.le_succ k2) hm9 hg9); have HK9 := hide (show W9.cell? ⟨gw, 0, none⟩ = some (.slice (some ⟨gF, 0, none⟩) 1 1) ∧ W9.cell? ⟨gF, 0, none⟩ = some (.map (some wc.heap.size)) from ⟨HWA9.out.box.cell 0, (own_cell HWA9.out.rowF 0 (u := .map (some wc.heap.size)) rfl).1⟩); have HO7 := hide (hx7'.own HO3.out); have HO9 := hide (own_keptB HO7.out hg9 (fun j hj e => (HM3.out.ext hx7').ne_own HO7.out (by rw [hj, ← e]))); clear hm9 hg9)
                | fail)
            clear hput hs0
            go_wp2_with fail
            go_roundw
            case rel => exact ⟨q + 1, A3, k2 + 1, c3, by omega, by go_num, rfl, hm3, HO9.out, by have h := HWA9.out; rw [HPQ.out] at h; exact h⟩
            case measure => simp [intOf]; omega
        · rw [if_neg (fun e => h4 e.1)] at HT
          rw [List.append_nil] at HT
          have HSQ := hide (haveQ_same bs q (fun e => h4 e.1))
          clear hln
          go_wp2_with fail
          go_roundw
          case rel => exact ⟨q + 1, A2, k2, c2, by omega, by go_num, rfl, hk4, by rw [HT.out]; exact HO.out, by rw [HSQ.out]; exact HWA.out⟩
          case measure => simp [intOf]; omega
      · obtain rfl : q = m := by omega
        have hbs : bs.take q = bs := List.take_of_length_le (by rw [HBL.out]; exact Nat.le_refl _)
        rw [hbs] at HO HWA
        clear hbs hlt HW0
        have HML := hide (show (opFrom 0 bs).length = k2 by have := HO.out.1; rw [intsV_length] at this; omega)
        have HPL := hide (plan_any wr A5 A2 N c5 k2 c2 ls (opFrom 0 bs) ((HST.out.sims HLS.out.arg).ext HWA.out.ext) ⟨hN1, hN6⟩ (Reads.of_own HO.out) (by simp only [maxLen]; omega) (fun z hz => by have := opFrom_mem bs 0 z hz; omega))
        go_wp2_with fail
        refine HPL.out.mono ?_
        rintro r w3 (⟨-, A6, m6, c6, rfl, hm6, ho6, hx6⟩ | ⟨hbad, -⟩)
        rotate_left
        · exact absurd (free_have bs) (by omega)
        obtain ⟨hl2, pk, hpk, hrun⟩ := plan_end bs ls N HST.out.ln hN1 hN6 HLS.out
        generalize (planM (ls.map (·.1)) (opFrom 0 bs)).steps = L at hl2 hrun hm6 ho6
        rw [← hm6] at hl2
        have HWR := hide ((HWA.out.to hx6).rebase)
        have HM6 := hide hm6
        have HO6 := hide ho6
        have HX6 := hide hx6
        have HRUN := hide hrun
        clear hm6 ho6 hx6 hrun HPL
        have t1 : decide ((200 : Int) < (m6 : Int)) = false := decide_eq_false (by omega)
        have t2 : decide (200 < m6) = false := decide_eq_false (by omega)
        go_wp2_with fail
        go_loopw [107] (StRel wc w3 gw k2 L (endT bs (ls.map (·.1)) pk)) (fun i _ => m6 - (intOf i).toNat)
        case atStart => exact ⟨0, 1, 0, _, _, _, _, _, _, Nat.zero_le _, rfl, HRUN.out, HWR.out⟩
        case round =>
          obtain ⟨i, NN, EE, dd, ms, Af, Ae, cf, ce, hi, rfl, hrn, hwt⟩ := hrel
          have HRN := hide hrn
          have HWT := hide hwt
          clear hrn hwt
          rw [← HM6.out] at hi
          have hle := runT_leq _ HRN.out
          have hNN : NN ≤ 20 := by have h1 := hle.f; have h2 := HWT.out.lf; simp only [endT, List.length_cons, wants_len, List.length_map, HST.out.ln] at h1; omega
          have hEE : EE ≤ 20 := by have h1 := hle.x; have h2 := HWT.out.le; simp only [endT, whos_len, List.length_map, HST.out.ln] at h1; omega
          have hpp : dd.pipes ≤ 9 := by have h1 := hle.p; simp only [endT] at h1; omega
          have hww : dd.waits ≤ 1000 := by have h1 := hle.w; simp only [endT, List.length_map, HST.out.ln] at h1; omega
          clear hle
          by_cases hlt : i < m6
          · as_aux_lemma =>
            have hiL : i < L.length := by rw [← HM6.out]; exact hlt
            obtain ⟨s, hs⟩ : ∃ s, L[i] = s := ⟨_, rfl⟩
            have hsg : L[i]? = some s := by rw [List.getElem?_eq_getElem hiL, hs]
            obtain ⟨d', hst', hrn'⟩ := runT_at hsg HRN.out
            have HRN2 := hide hrn'
            have HSTEP := hide (wstep_any wc w3 (wr.alloc (.cells (stepCs s) stT)) w3.heap.size gw (k2 + 2 * i) NN EE s dd d' ms Af Ae cf ce (HWT.out.to ((Ext.refl wr).alloc (.cells (stepCs s) stT))) hst' hNN hEE (by omega) hpp hww)
            have hrd := Reads.of_own (KeepB.own HWT.out.keep (Nat.le_refl _) HO6.out (by decide) (by decide))
            obtain ⟨b6, off6, rfl, -⟩ := hrd.addr (by omega) (by omega)
            have r0 := Reads.elem stepC_len hrd i hiL (by omega) 0 (by omega) (u := .int .i64 L[i].who) rfl
            have r1 := Reads.elem stepC_len hrd i hiL (by omega) 1 (by omega) (u := .int .i64 L[i].call.num) rfl
            have r2 := Reads.elem stepC_len hrd i hiL (by omega) 2 (by omega) (u := .int .i64 L[i].call.a) rfl
            have r3 := Reads.elem stepC_len hrd i hiL (by omega) 3 (by omega) (u := .int .i64 L[i].call.b) rfl
            have r4 := Reads.elem stepC_len hrd i hiL (by omega) 4 (by omega) (u := .int .i64 L[i].call.c) rfl
            have r5 := Reads.elem stepC_len hrd i hiL (by omega) 5 (by omega) (u := .string (str L[i].call.name)) rfl
            have r6 := Reads.elem stepC_len hrd i hiL (by omega) 6 (by omega) (u := .string ⟨#[]⟩) rfl
            have r7 := Reads.elem stepC_len hrd i hiL (by omega) 7 (by omega) (u := .slice none 0 0) rfl
            rw [hs] at r0 r1 r2 r3 r4 r5
            rw [Nat.add_zero] at r0
            obtain ⟨who, ⟨num, ca, cb, cc, name⟩⟩ := s
            dsimp only at r0 r1 r2 r3 r4 r5
            clear hrd hs hsg hiL hst' hrn'
            go_wp2_with fail
            refine HSTEP.out.mono ?_
            rintro r w4 ⟨rfl, N4, E4, ms4, Af4, cf4, Ae4, ce4, hw4⟩
            have HW4 := hide hw4
            clear hw4 r0 r1 r2 r3 r4 r5 r6 r7
            go_wp2_with fail
            go_roundw
            case rel => exact ⟨i + 1, N4, E4, d', ms4, Af4, Ae4, cf4, ce4, by rw [← HM6.out]; omega, by go_num, HRN2.out, by have h := HW4.out; rwa [show k2 + 2 * i + 2 = k2 + 2 * (i + 1) by omega] at h⟩
            case measure => simp [intOf]; omega
          · obtain rfl : i = m6 := by omega
            have hrr := HRN.out
            rw [List.drop_eq_nil_of_le (by rw [← HM6.out]; exact Nat.le_refl _)] at hrr
            have hde : dd = endT bs (ls.map (·.1)) pk := by injection hrr
            subst hde
            clear hrr HRN
            have hNv : N + 1 = NN := by have h2 := HWT.out.lf; simp only [endT, List.length_cons, wants_len, List.length_map, HST.out.ln] at h2; omega
            have hEv : N = EE := by have h2 := HWT.out.le; simp only [endT, whos_len, List.length_map, HST.out.ln] at h2; omega
            subst hNv hEv
            clear t1 t2 hNN hEE hpp hww
            have HFD := hide HWT.out.each
            obtain ⟨gf, rfl, -⟩ := own_addr HWT.out.rowF (by omega)
            have hlm := HWT.out.lm
            obtain ⟨m0, msr, rfl⟩ : ∃ m0 msr, ms = m0 :: msr := by
              cases ms with
              | nil => simp at hlm
              | cons a b => exact ⟨a, b, rfl⟩
            have HMD0 := hide (show FdAt wr m0 (k2 + 2 * i) (haveQ bs) from HFD.out 0 (by simp) (by simp [endT]))
            have v0 : wr.cell? ⟨gw, 0, none⟩ = some (.slice (some ⟨gf, 0, none⟩) (N + 1) cf) := HWT.out.box.cell 0
            have v2 : wr.cell? ⟨gw, 2, none⟩ = some (.slice Ae N ce) := HWT.out.box.cell 2
            have v3 : wr.cell? ⟨gw, 3, none⟩ = some (.int .i64 (N : Int)) := by have h := HWT.out.box.cell 3; simpa [endT, HST.out.ln] using h
            have v4 : wr.cell? ⟨gf, 0, none⟩ = some (.map (some m0)) := (own_cell HWT.out.rowF 0 (u := .map (some m0)) rfl).1
            have v5 := fun ty => HMD0.out.lenI ty
            rw [cnt_have, HML.out] at v5
            go_wp2_with fail
            have HROW := hide (KeepB.own HWT.out.keep (Nat.le_refl _) (((HST.out.to HWA.out.ext).to HX6.out).row) (by decide) (by decide))
            have HHV := hide (KeepB.own HWT.out.keep (Nat.le_refl _) (HX6.out.own HO.out) (by decide) (by decide))
            have HV0 := hide v0
            have HV4 := hide v4
            clear v0 v2 v3 v4 v5
            obtain ⟨w4, rfl⟩ : ∃ x, x = wr := ⟨_, rfl⟩
            go_loopw [158] (CkRel w4 N) (fun v _ => N - (intOf v).toNat)
            case atStart => exact ⟨0, Nat.zero_le _, rfl, Ext.refl _⟩
            case round =>
              obtain ⟨k, hk, rfl, hx⟩ := hrel
              have HX := hide hx
              clear hx
              by_cases hlt2 : k < N
              · as_aux_lemma =>
                have hkl : k < ls.length := by rw [HST.out.ln]; exact hlt2
                have hrd := Reads.of_own (HX.out.own HROW.out)
                obtain ⟨bl, off, rfl, -⟩ := hrd.addr (by omega) (by omega)
                obtain ⟨ga, hga, -⟩ := HST.out.each _ (List.getElem_mem hkl)
                obtain ⟨ri, ro, rm, hsk⟩ := HLS.out k _ (List.getElem?_eq_getElem hkl)
                have y0 := Reads.elem simC_len hrd k hkl (by omega) 0 (by omega) (u := ls[k].2) rfl
                have y1 := Reads.elem simC_len hrd k hkl (by omega) 1 (by omega) (u := .string (str ls[k].1.inn)) rfl
                have y2 := Reads.elem simC_len hrd k hkl (by omega) 2 (by omega) (u := .string (str ls[k].1.out)) rfl
                have y3 := Reads.elem simC_len hrd k hkl (by omega) 3 (by omega) (u := .bool ls[k].1.more) rfl
                rw [Nat.add_zero, hga] at y0
                rw [hsk] at y1 y2 y3
                have HSK := hide (show (ls.map (·.1))[k]? = some (simK k ri ro rm) by rw [List.getElem?_map, List.getElem?_eq_getElem hkl, Option.map_some, hsk])
                dsimp only [simK] at y1 y2 y3
                obtain ⟨SI, hSI⟩ : ∃ S, (if ri = true then inS else []) = S := ⟨_, rfl⟩
                obtain ⟨SO, hSO⟩ : ∃ S, (if ro = true then outS else []) = S := ⟨_, rfl⟩
                rw [hSI] at y1
                rw [hSO] at y2
                have HSI := hide hSI
                have HSO := hide hSO
                clear hsk hga hrd hSI hSO hkl
                have hmm := @run_makeMap Try.prog
                go_upto_region 39 with fail
                have hb5 := Blk.new wr smT #[.slice (some ⟨ga, 0, none⟩) 1 1, .string (str SI), .string (str SO), .bool rm]
                have HX5 := hide (HX.out.trans ((Ext.refl wr).alloc (.cells #[.slice (some ⟨ga, 0, none⟩) 1 1, .string (str SI), .string (str SO), .bool rm] smT)))
                have hs5 : wr.heap.size + 1 = (wr.alloc (.cells #[.slice (some ⟨ga, 0, none⟩) 1 1, .string (str SI), .string (str SO), .bool rm] smT)).heap.size := by simp
                clear y0 y1 y2 y3 hmm
                generalize wr.alloc (.cells #[.slice (some ⟨ga, 0, none⟩) 1 1, .string (str SI), .string (str SO), .bool rm] smT) = W5 at *
                have hwt : WtAt W5 W5.heap.size 0 (hvL ((opFrom 0 bs).take 0)) (W5.alloc (.map #[] 0)) := ⟨⟨by show MapIS _ _ 0 (fdF noF) 0; rw [show fdF noF = fun _ => none from noF_fd]; exact MapIS.made W5, rfl⟩, (Ext.refl W5).alloc _, Nat.le_refl _⟩
                rw [hs5]
                obtain ⟨mW, hmW⟩ : ∃ x, W5.heap.size = x := ⟨_, rfl⟩
                rw [hmW] at hwt ⊢
                have HWT5 := hide hwt
                have HB5 := hide hb5
                clear hwt hb5 hs5 hmW
                obtain ⟨g5, hg5⟩ : ∃ x, wr.heap.size = x := ⟨_, rfl⟩
                rw [hg5] at HB5 ⊢
                clear hg5
                have HMD := hide (HMD0.out.ext HX5.out)
                have c0 : ∀ wx, Ext W5 wx → wx.cell? ⟨gw, 0, none⟩ = some (.slice (some ⟨gf, 0, none⟩) (N + 1) cf) := fun wx h => (HX5.out.trans h).cell HV0.out
                have c4 : ∀ wx, Ext W5 wx → wx.cell? ⟨gf, 0, none⟩ = some (.map (some m0)) := fun wx h => (HX5.out.trans h).cell HV4.out
                have HC0 := hide c0
                have HC4 := hide c4
                clear c0 c4
                go_wp2_with fail
                go_loopw [166] (InRelW W5 mW k2 (opFrom 0 bs)) (fun v _ => k2 - (intOf v).toNat)
                case atStart => exact ⟨0, Nat.zero_le _, rfl, HWT5.out⟩
                case round =>
                  obtain ⟨j, hj, rfl, hw⟩ := hrel
                  have HW := hide hw
                  clear hw
                  by_cases hlt3 : j < k2
                  · as_aux_lemma =>
                    have hjl : j < (opFrom 0 bs).length := by rw [HML.out]; exact hlt3
                    have hrd := (HX5.out.trans HW.out.x).reads (Reads.of_own HHV.out) (Nat.le_refl _)
                    obtain ⟨bh, offh, rfl, -, -⟩ := hrd.at1 (by omega)
                    have g1 := cells_ints hrd j hlt3
                    obtain ⟨z, hz⟩ : ∃ z, (opFrom 0 bs)[j] = z := ⟨_, rfl⟩
                    rw [List.getD_eq_getElem?_getD, List.getElem?_eq_getElem hjl, Option.getD_some, hz] at g1
                    have hzm : z ∈ opFrom 0 bs := hz ▸ List.getElem_mem hjl
                    obtain ⟨hz0, hz4⟩ := opFrom_mem bs 0 z hzm
                    have hold := old_at bs z hzm
                    obtain ⟨zn, rfl⟩ := Int.eq_ofNat_of_zero_le hz0
                    have hzn : zn < 4 := by omega
                    have hnext := hvL_take (opFrom 0 bs) j hjl
                    rw [hz, Int.toNat_natCast] at hnext
                    rw [Int.toNat_natCast] at hold
                    have HNX := hide hnext
                    have HOLD := hide hold
                    have hs0 : ∀ W : World, (Op.stringOp .add (⟨#[111, 108, 100]⟩ : ByteArray) (str (digit zn))).run Try.prog W = .ok (.string (str (tokS (.old zn)))) W := fun W => by
                      rw [show str (tokS (.old zn)) = (⟨#[111, 108, 100]⟩ : ByteArray) ++ str (digit zn) from (str_append [111, 108, 100] (digit zn)).symm]
                      exact run_string_add_sum W _ _ (by rw [str_size]; show 3 + 1 ≤ 9223372036854775807; omega)
                    have HIT := hide (fun W => itoa_digit zn (by omega) W)
                    clear hz hzm hz0 hz4 hold hnext hrd hjl
                    go_wp2_with fail
                    refine (HIT.out _).mono ?_
                    rintro e w7 ⟨rfl, hx7⟩
                    obtain ⟨W9, hput, hw9⟩ := (HW.out.ext hx7).put (by omega) (zn : Int) (by omega) (by omega) (.old zn) (by simp)
                    rw [Int.toNat_natCast] at hw9
                    have HW9 := hide hw9
                    clear hx7 hw9
                    go_upto_region 43 with fail
                    clear hput hs0 g1
                    have c0 := HC0.out W9 HW9.out.x
                    have c4 := HC4.out W9 HW9.out.x
                    have l1 := (HMD.out.ext (HW9.out.x.trans (Ext.refl W9).drew)).look (zn : Int) (by omega) (by omega)
                    have l2 := (HW9.out.m.ext (Ext.refl W9).drew).look (zn : Int) (by omega) (by omega)
                    rw [HOLD.out] at l1
                    rw [atT_set _ zn (by rw [HW.out.m.len]; omega), if_pos rfl] at l2
                    generalize str (tokS (.old zn)) = X at *
                    go_region_held3 (fun w' => w'.cell? ⟨gw, 0, none⟩ = some (.slice (some ⟨gf, 0, none⟩) (N + 1) cf) ∧ w'.cell? ⟨gf, 0, none⟩ = some (.map (some m0)))
                      (first | exact ⟨c0, c4⟩ | fail) (fail)
                    all_goals
                      go_wp2_with fail
                      go_roundw
                      case rel => exact ⟨j + 1, by omega, by go_num, by rw [HNX.out]; exact HW9.out.ext (Ext.refl W9).drew⟩
                      case measure => simp [intOf]; omega
                  · obtain rfl : j = k2 := by omega
                    have hend : hvL ((opFrom 0 bs).take j) = haveQ bs := by rw [List.take_of_length_le (by rw [HML.out]; exact Nat.le_refl _), hvL_have]
                    rw [hend] at HW
                    have HW0 := hide (HW.out.mono (K' := 4) hk4)
                    clear hend
                    go_upto_if 189 with fail
                    go_cut [4] (fun s4 wx => WtAt W5 mW 5 (wF1 bs k) wx)
                    case first =>
                      as_aux_lemma =>
                      by_cases hk0 : 0 < k
                      · have t1 : decide ((0 : Int) < (k : Int)) = true := decide_eq_true (by omega)
                        have t2 : decide (0 < k) = true := decide_eq_true hk0
                        have hwr : IntKind.i64.wrap ((k : Int) - 1) = ((k - 1 : Nat) : Int) := by rw [IntKind.wrap_i64]; omega
                        have hwr2 : wrap64 ((k : Int) - 1) = ((k - 1 : Nat) : Int) := by unfold wrap64; omega
                        have hs0 : ∀ W : World, (Op.stringOp .add (⟨#[114]⟩ : ByteArray) (str (digit (k - 1)))).run Try.prog W = .ok (.string (str (tokS (.rd (k - 1))))) W := fun W => by
                          rw [show str (tokS (.rd (k - 1))) = (⟨#[114]⟩ : ByteArray) ++ str (digit (k - 1)) from (str_append [114] (digit (k - 1))).symm]
                          exact run_string_add_sum W _ _ (by rw [str_size]; show 1 + 1 ≤ 9223372036854775807; omega)
                        have HIT := hide (fun W => itoa_digit (k - 1) (by omega) W)
                        go_wp2_with fail
                        try rw [hwr]
                        try rw [hwr2]
                        refine (HIT.out _).mono ?_
                        rintro e w7 ⟨rfl, hx7⟩
                        obtain ⟨W9, hput, hw9⟩ := (HW0.out.ext hx7).put (by omega) 0 (by omega) (by omega) (.rd (k - 1)) (by simp)
                        have HW9 := hide hw9
                        clear hx7 hw9
                        go_wp2_with fail
                        go_meet
                        unfold wF1
                        rw [if_pos hk0]
                        exact HW9.out
                      · have t1 : decide ((0 : Int) < (k : Int)) = false := decide_eq_false (by omega)
                        have t2 : decide (0 < k) = false := decide_eq_false hk0
                        go_wp2_with fail
                        go_meet
                        unfold wF1
                        rw [if_neg hk0]
                        exact HW0.out.mono (by omega)
                    case rest =>
                      have HW1 := hide hcut
                      clear hcut HW0 HW
                      have hwn : IntKind.i64.wrap ((N : Int) - 1) = ((N - 1 : Nat) : Int) := by rw [IntKind.wrap_i64]; omega
                      have hwn2 : wrap64 ((N : Int) - 1) = ((N - 1 : Nat) : Int) := by unfold wrap64; omega
                      go_upto_if 199 with fail
                      clear hwn hwn2
                      go_cut [4] (fun s4 wx => WtAt W5 mW 6 (wF2 bs k N) wx)
                      case first =>
                        as_aux_lemma =>
                        by_cases hla : k + 1 = N
                        · have t1 : decide ((k : Int) < ((N - 1 : Nat) : Int)) = false := decide_eq_false (by omega)
                          have t2 : decide (k < N - 1) = false := decide_eq_false (by omega)
                          go_wp2_with fail
                          go_meet
                          unfold wF2
                          rw [if_pos hla]
                          exact HW1.out.mono (by omega)
                        · have t1 : decide ((k : Int) < ((N - 1 : Nat) : Int)) = true := decide_eq_true (by omega)
                          have t2 : decide (k < N - 1) = true := decide_eq_true (by omega)
                          have hs0 : ∀ W : World, (Op.stringOp .add (⟨#[119]⟩ : ByteArray) (str (digit k))).run Try.prog W = .ok (.string (str (tokS (.wr k)))) W := fun W => by
                            rw [show str (tokS (.wr k)) = (⟨#[119]⟩ : ByteArray) ++ str (digit k) from (str_append [119] (digit k)).symm]
                            exact run_string_add_sum W _ _ (by rw [str_size]; show 1 + 1 ≤ 9223372036854775807; omega)
                          have HIT := hide (fun W => itoa_digit k (by omega) W)
                          go_wp2_with fail
                          refine (HIT.out _).mono ?_
                          rintro e w7 ⟨rfl, hx7⟩
                          obtain ⟨W9, hput, hw9⟩ := (HW1.out.ext hx7).put (by omega) 1 (by omega) (by omega) (.wr k) (by simp)
                          have HW9 := hide hw9
                          clear hx7 hw9
                          go_wp2_with fail
                          go_meet
                          unfold wF2
                          rw [if_neg hla]
                          exact HW9.out
                      case rest =>
                        have HW2 := hide hcut
                        clear hcut HW1
                        have e1 : wc.cell? ⟨g5, 1, none⟩ = some (.string (str SI)) := (HB5.out.ext HW2.out.x).cell 1
                        go_upto_if 206 with fail
                        clear e1
                        go_cut [4] (fun s4 wx => WtAt W5 mW 7 (wF3 bs k N ri) wx)
                        case first =>
                          as_aux_lemma =>
                          cases ri with
                          | false =>
                            have t2 : (str SI).toList.isEmpty = true := by rw [← HSI.out]; exact str_emp_eq
                            simp only [t2, Bool.not_true]
                            go_wp2_with fail
                            go_meet
                            exact HW2.out.mono (by omega)
                          | true =>
                            have t2 : (str SI).toList.isEmpty = false := str_emp_ne (by rw [← HSI.out]; decide)
                            simp only [t2, Bool.not_false]
                            have hap1 : (⟨#[102, 105, 108, 101, 32, 105, 110]⟩ : ByteArray) ++ str (digit 1) = str [102, 105, 108, 101, 32, 105, 110, 49] := str_append [102, 105, 108, 101, 32, 105, 110] _
                            have hap2 : str [102, 105, 108, 101, 32, 105, 110, 49] ++ (⟨#[32, 48]⟩ : ByteArray) = str (tokS .fin) := str_append _ [32, 48]
                            have hs1 : ∀ W : World, (Op.stringOp .add (⟨#[102, 105, 108, 101, 32, 105, 110]⟩ : ByteArray) (str (digit 1))).run Try.prog W = .ok (.string (str [102, 105, 108, 101, 32, 105, 110, 49])) W := fun W => by rw [← hap1]; exact run_string_add_sum W _ _ (by decide)
                            have hs2 : ∀ W : World, (Op.stringOp .add (str [102, 105, 108, 101, 32, 105, 110, 49]) (⟨#[32, 48]⟩ : ByteArray)).run Try.prog W = .ok (.string (str (tokS .fin))) W := fun W => by rw [← hap2]; exact run_string_add_sum W _ _ (by decide)
                            clear hap1 hap2
                            have HIT := hide (fun W => itoa_digit 1 (by omega) W)
                            go_wp2_with fail
                            refine (HIT.out _).mono ?_
                            rintro e w7 ⟨rfl, hx7⟩
                            obtain ⟨W9, hput, hw9⟩ := (HW2.out.ext hx7).put (by omega) 0 (by omega) (by omega) .fin (by simp)
                            have HW9 := hide hw9
                            clear hx7 hw9
                            go_wp2_with fail
                            go_meet
                            exact HW9.out
                        case rest =>
                          have HW3 := hide hcut
                          clear hcut HW2
                          have e2 : wc.cell? ⟨g5, 2, none⟩ = some (.string (str SO)) := (HB5.out.ext HW3.out.x).cell 2
                          go_upto_if 213 with fail
                          clear e2
                          go_cut [4] (fun s4 wx => WtAt W5 mW 9 (wF4 bs k N ri ro rm) wx)
                          case first =>
                            as_aux_lemma =>
                            cases ro with
                            | false =>
                              have t2 : (str SO).toList.isEmpty = true := by rw [← HSO.out]; exact str_emp_eq
                              simp only [t2, Bool.not_true]
                              go_wp2_with fail
                              go_meet
                              exact HW3.out.mono (by omega)
                            | true =>
                              have t2 : (str SO).toList.isEmpty = false := str_emp_ne (by rw [← HSO.out]; decide)
                              simp only [t2, Bool.not_false]
                              have hap1 : (⟨#[102, 105, 108, 101, 32, 111, 117, 116]⟩ : ByteArray) ++ str (digit 2) = str [102, 105, 108, 101, 32, 111, 117, 116, 50] := str_append [102, 105, 108, 101, 32, 111, 117, 116] _
                              have hap2 : str [102, 105, 108, 101, 32, 111, 117, 116, 50] ++ (⟨#[32]⟩ : ByteArray) = str [102, 105, 108, 101, 32, 111, 117, 116, 50, 32] := str_append _ [32]
                              have hap3 : str [102, 105, 108, 101, 32, 111, 117, 116, 50, 32] ++ str (digit 5) = str (tokS .fout) := str_append _ _
                              have hs1 : ∀ W : World, (Op.stringOp .add (⟨#[102, 105, 108, 101, 32, 111, 117, 116]⟩ : ByteArray) (str (digit 2))).run Try.prog W = .ok (.string (str [102, 105, 108, 101, 32, 111, 117, 116, 50])) W := fun W => by rw [← hap1]; exact run_string_add_sum W _ _ (by decide)
                              have hs2 : ∀ W : World, (Op.stringOp .add (str [102, 105, 108, 101, 32, 111, 117, 116, 50]) (⟨#[32]⟩ : ByteArray)).run Try.prog W = .ok (.string (str [102, 105, 108, 101, 32, 111, 117, 116, 50, 32])) W := fun W => by rw [← hap2]; exact run_string_add_sum W _ _ (by decide)
                              have hs3 : ∀ W : World, (Op.stringOp .add (str [102, 105, 108, 101, 32, 111, 117, 116, 50, 32]) (str (digit 5))).run Try.prog W = .ok (.string (str (tokS .fout))) W := fun W => by rw [← hap3]; exact run_string_add_sum W _ _ (by decide)
                              clear hap1 hap2 hap3
                              have HIA := hide (fun W => itoa_digit 2 (by omega) W)
                              have HIB := hide (fun W => itoa_digit 5 (by omega) W)
                              go_wp2_with fail
                              refine (HIA.out _).mono ?_
                              rintro e w7 ⟨rfl, hx7⟩
                              go_wp2_with fail
                              refine (HIB.out _).mono ?_
                              rintro e w8 ⟨rfl, hx8⟩
                              obtain ⟨W9, hput, hw9⟩ := ((HW3.out.ext hx7).ext hx8).put (by omega) 1 (by omega) (by omega) .fout (by simp)
                              have HW9 := hide hw9
                              have e3 : W9.cell? ⟨g5, 3, none⟩ = some (.bool rm) := (HB5.out.ext hw9.x).cell 3
                              clear hx7 hx8 hw9
                              cases rm with
                              | false =>
                                go_wp2_with fail
                                go_meet
                                exact HW9.out.mono (by omega)
                              | true =>
                                go_upto_if 221 with fail
                                clear hs1 hs2 hs3 HIA HIB hput
                                have hap1 : (⟨#[102, 105, 108, 101, 32, 111, 117, 116]⟩ : ByteArray) ++ str (digit 2) = str [102, 105, 108, 101, 32, 111, 117, 116, 50] := str_append [102, 105, 108, 101, 32, 111, 117, 116] _
                                have hap2 : str [102, 105, 108, 101, 32, 111, 117, 116, 50] ++ (⟨#[32]⟩ : ByteArray) = str [102, 105, 108, 101, 32, 111, 117, 116, 50, 32] := str_append _ [32]
                                have hap3 : str [102, 105, 108, 101, 32, 111, 117, 116, 50, 32] ++ str (digit 9) = str (tokS .foutm) := str_append _ _
                                have hs1 : ∀ W : World, (Op.stringOp .add (⟨#[102, 105, 108, 101, 32, 111, 117, 116]⟩ : ByteArray) (str (digit 2))).run Try.prog W = .ok (.string (str [102, 105, 108, 101, 32, 111, 117, 116, 50])) W := fun W => by rw [← hap1]; exact run_string_add_sum W _ _ (by decide)
                                have hs2 : ∀ W : World, (Op.stringOp .add (str [102, 105, 108, 101, 32, 111, 117, 116, 50]) (⟨#[32]⟩ : ByteArray)).run Try.prog W = .ok (.string (str [102, 105, 108, 101, 32, 111, 117, 116, 50, 32])) W := fun W => by rw [← hap2]; exact run_string_add_sum W _ _ (by decide)
                                have hs3 : ∀ W : World, (Op.stringOp .add (str [102, 105, 108, 101, 32, 111, 117, 116, 50, 32]) (str (digit 9))).run Try.prog W = .ok (.string (str (tokS .foutm))) W := fun W => by rw [← hap3]; exact run_string_add_sum W _ _ (by decide)
                                clear hap1 hap2 hap3
                                have HIC := hide (fun W => itoa_digit 2 (by omega) W)
                                have HID2 := hide (fun W => itoa_digit 9 (by omega) W)
                                go_wp2_with fail
                                refine (HIC.out _).mono ?_
                                rintro e w10 ⟨rfl, hx10⟩
                                go_wp2_with fail
                                refine (HID2.out _).mono ?_
                                rintro e w11 ⟨rfl, hx11⟩
                                obtain ⟨W12, hput, hw12⟩ := ((HW9.out.ext hx10).ext hx11).put (by omega) 1 (by omega) (by omega) .foutm (by simp)
                                have HW12 := hide hw12
                                clear hx10 hx11 hw12
                                go_wp2_with fail
                                go_meet
                                have h := HW12.out
                                simp only [List.set_set] at h
                                exact h
                          case rest =>
                            have HW4 := hide hcut
                            clear hcut HW3
                            have hlm2 := HWT.out.lm
                            have hkm : k < msr.length := by simp only [List.length_cons] at hlm2; omega
                            obtain ⟨mk, hmk⟩ : ∃ x, msr[k] = x := ⟨_, rfl⟩
                            have hwk := wants_at (bs.getD 0 false) (bs.getD 1 false) (bs.getD 2 false) (bs.getD 3 false) _ 0 k _ HSK.out
                            rw [Nat.zero_add, List.length_map, HST.out.ln, want_eq] at hwk
                            have hd : k + 1 < (endT bs (ls.map (·.1)) pk).fds.length := by simp only [endT, List.length_cons, wants_len, List.length_map, HST.out.ln]; omega
                            have e2 : (endT bs (ls.map (·.1)) pk).fds[k + 1] = wF4 bs k N ri ro rm := (List.getElem?_eq_some_iff.1 hwk).2
                            have hch := HFD.out (k + 1) (by simp only [List.length_cons]; omega) hd
                            rw [e2] at hch
                            have hch2 : FdAt w4 mk (j + 2 * i) (wF4 bs k N ri ro rm) := by rw [← hmk]; exact hch
                            have HCH := hide (hch2.ext (HX5.out.trans HW4.out.x))
                            have d1 := (HX5.out.trans HW4.out.x).cell ((own_cell HWT.out.rowF (k + 1) (u := .map (some mk)) (by rw [mapsV, List.map_cons, List.getElem?_cons_succ, List.getElem?_map, List.getElem?_eq_getElem hkm, Option.map_some, hmk])).1)
                            have d0 := HC0.out wc HW4.out.x
                            have HD1 := hide d1
                            have n1 := fun ty => HCH.out.lenI ty
                            have n2 := fun ty => HW4.out.m.lenI ty
                            obtain ⟨D0, hown0, hsay⟩ := HW4.out.m.m
                            have HOWN := hide hown0
                            have HSAY := hide hsay
                            have HEX := hide HW4.out.x
                            have law := int_keyed (P := Try.prog) Try.underlying3
                            generalize cntT (wF4 bs k N ri ro rm) = ct at n1 n2
                            clear hlm2 hkm hmk hwk hd e2 hch hch2 hown0 hsay
                            go_wp2_with (first
                              | (at_range; refine wpList_range_own _ rfl _ 44 rfl 3 9 law Try.underlying44 _ mW 9 _ rfl HOWN.out ?_; intro w5 hrg0 hg0 hs0)
                              | go_in)
                            (try go_frame)
                            clear n1 n2
                            have HD0 := hide d0
                            clear d0 d1
                            have HX9 := hide ((Ext.refl wc).grown hg0 (fun j hj => by cases hj))
                            go_loopw [243] (fun _ wy => ∃ (left : Lit → Bool) (cnt : Nat), wy.ranges Try.prog 3 (plainElem Try.prog 9) mW wc.heap.size 9 D0 left cnt ∧ Ext wc wy)
                              (fun _ wy => wy.rangeLeft mW wc.heap.size)
                            case atStart =>
                              exact ⟨_, _, hrg0, HX9.out⟩
                            case round =>
                              obtain ⟨left, cnt, hrg, hx⟩ := hrel
                              have HXX := hide hx
                              clear hx hrg0 hg0 hs0
                              go_wp2_with (first
                                | (at_next; refine wpList_next_ranges_is _ rfl _ rfl 3 9 .i64 law Try.underlying3 Try.underlying9 mW wc.heap.size 9 _ _ _ rfl hrg ?_ ?_)
                                | go_in)
                              · intro hc0 hl0
                                go_wp2_with fail
                                go_roundw
                                case rel => exact ⟨k + 1, by omega, by go_num, HX5.out.trans (HEX.out.trans HXX.out)⟩
                                case measure => simp [intOf]; omega
                              · intro x c w1 cnt1 hwx hwc hlx hat hrg1 hlt hg1 hs1 hen
                                have hx1 := HXX.out.grown hg1 (fun j hj => by cases hj; exact Nat.le_refl _)
                                have hb : -9223372036854775808 ≤ x ∧ x ≤ 9223372036854775807 := by simpa [Lit.wf, IntKind.min, IntKind.max, IntKind.signed, IntKind.bits] using hwx
                                have hc : str (tokS (atT (wF4 bs k N ri ro rm) x)) = c := by
                                  have e1 := hat (.lit (.string []))
                                  rw [(HSAY.out.1 x).2, fdF_get] at e1
                                  injection e1 with e1
                                  injection e1 with e1
                                  rw [e1, str_data]
                                have l1 := (HCH.out.ext hx1).look x hb.1 hb.2
                                rw [hc] at l1
                                have d0 := hx1.cell HD0.out
                                have d1 := hx1.cell HD1.out
                                have HX1 := hide hx1
                                have HLT := hide hlt
                                clear hx1 hb hc hwx hwc hlx hat hg1 hs1 hlt
                                go_wp2_with fail
                                go_roundw
                                case rel => exact ⟨_, cnt1, hrg1, HX1.out⟩
                                case measure => rw [hrg1.left_eq, hrg.left_eq]; exact HLT.out
              · obtain rfl : k = N := by omega
                have HFX := hide (HST.out.ext.trans (HWT.out.ext.trans HX.out))
                clear hlt2
                go_wp2_with fail
                go_ret
                exact ⟨rfl, HFX.out⟩
end Go.Proofs.Ytikpdhkjkmbomaa
