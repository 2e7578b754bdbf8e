/- The contract of (*Unit).order (printed by gen_order.py). -/
import Derived.Test.YtikbfmjhmjkkgaaDoorAmWord
import Derived.Test.YtikbfmjhmjkkgaaDoorAmEnc
import Derived.Test.YtikbfmjhmjkkgaaDoorArr
namespace Go.Proofs.YtikbfmjhmjkkgaaDoor
open Go.RowKit
set_option linter.unusedVariables false

theorem ptr_info : (Tryd.prog.info? 102).map (fun i => (i.zero, i.size, i.bytes)) = some (some (.pointer none), 1, 8) := by kernel_rfl
abbrev insT : TypeId := 62
theorem reg_hit {s : Bs} (h : regB s = true) : regI s = (((s.getD 1 0).toNat - 48 : Nat) : Int) ∧ (s.getD 1 0).toNat - 48 < 8 := by
  unfold regI
  rw [if_pos h]
  unfold regB at h
  rw [decide_eq_true_eq] at h
  omega
theorem reg_miss {s : Bs} (h : regB s = false) : regI s = -1 := by unfold regI; rw [if_neg (by rw [h]; decide)]
theorem FsAt.head {w : World} {A : Option Addr} {n : Nat} {s : Bs} {r : List Bs} (h : FsAt w A n (s :: r)) : ∃ b off, A = some ⟨b, off, none⟩ ∧ b < w.heap.size ∧ w.cell? ⟨b, off, none⟩ = some (.string (str s)) := by
  have hn : n = r.length + 1 := h.len.symm
  obtain ⟨b, off, rfl, hb, hc⟩ := h.row.at1 (by omega)
  exact ⟨b, off, rfl, hb, hc 0 (by omega)⟩
theorem FsAt.tail {w : World} {A : Option Addr} {n c : Nat} {s : Bs} {r : List Bs} (h : FsAt w A n (s :: r)) (hc : n ≤ c) : ∃ A' m c', (∀ W, (Instr.slice 23 (.slice A n c) (some (.int .i64 1)) none none).run Tryd.prog W = .ok (.slice A' m c') W) ∧ m ≤ c' ∧ FsAt w A' m r ∧ m + 1 = n := by
  obtain ⟨i0, hi0, hz0, hz1, hz2⟩ := info_parts string_info
  have hn : n = r.length + 1 := h.len.symm
  obtain ⟨A', s', r', _⟩ := cut_from (P := Tryd.prog) Tryd.underlying23 hi0 hz1 h.row 1 c (by omega) hc .i64
  exact ⟨A', n - 1, c - 1, s', by omega, ⟨r', by omega, fun x hx => h.sm x (by simp [hx]), by have := h.cnt; omega⟩, by omega⟩
theorem FsAt.tail2 {n c : Nat} (A : Option Addr) (h1 : 1 ≤ n) (hc : n ≤ c) : ∃ A' m c', (∀ W, (Instr.slice 23 (.slice A n c) (some (.int .i64 1)) none none).run Tryd.prog W = .ok (.slice A' m c') W) ∧ m ≤ c' ∧ ∀ w (s : Bs) (r : List Bs), FsAt w A n (s :: r) → FsAt w A' m r := by
  obtain ⟨i0, hi0, hz0, hz1, hz2⟩ := info_parts string_info
  refine ⟨if c = 1 then A else A.map (·.add (1 * 1)), n - 1, c - 1, fun W => ?_, by omega, fun w s r h => ⟨?_, by have := h.len; simp at this; omega, fun x hx => h.sm x (by simp [hx]), by have := h.cnt; omega⟩⟩
  · have ht : Tryd.prog.underlying 23 = some (.slice 9) := Tryd.underlying23
    have he : Tryd.prog.elem 23 = 9 := by simp [Program.elem, ht]
    have ht' : Tryd.prog.underlying 23 = some (.slice (Tryd.prog.elem 23)) := by rw [he]; exact ht
    have e1 : (Value.int .i64 1) = Value.int .i64 ((1 : Nat) : Int) := rfl
    rw [e1, run_slice_l W 23 A n c ht' .i64 ((1 : Nat) : Int) (by omega) (by omega), he]
    simp [sizeOf, typeInfo, hi0, hz1, sliced, Result.andThen]
  · have := h.row.cut (k := 1) (cap := c) (by omega) hc
    simpa [strsV] using this
theorem FsAt.nil {w : World} {A : Option Addr} {n : Nat} (h : FsAt w A n []) : n = 0 := h.len.symm
def OrSt (f : List Bs) (F k a b : Nat) (fk : List Bs) : Prop :=
  (k = 0 ∧ a = 0 ∧ b = 0 ∧ fk = f) ∨ (k = 1 ∧ b = 0 ∧ regT (bitB F 1) f = some (a, fk)) ∨ (k = 2 ∧ ∃ f1, regT (bitB F 1) f = some (a, f1) ∧ regT (bitB F 2) f1 = some (b, fk))
def halfs (F k : Nat) : Nat := if k = 0 then F else if k = 1 then F / 2 else F / 4
def OrRel (w : World) (f : List Bs) (F op gi : Nat) (v2 v9 v36 : Value) (wr : World) : Prop :=
  ∃ (k a b : Nat) (fk : List Bs) (A : Option Addr) (n c : Nat), k ≤ 2 ∧ v36 = .int .i64 (k : Int) ∧ v9 = .int .i64 (halfs F k : Int) ∧ v2 = .slice A n c ∧ n ≤ c ∧ FsAt w A n fk ∧ OrSt f F k a b fk ∧
    Blk wr gi insT #[.int .i64 (op : Int), .int .i64 (a : Int), .int .i64 (b : Int), .int .i64 0] ∧ Ext w wr
theorem regT_clear {h : Bool} (hh : h = false) (f : List Bs) : regT h f = some (0, f) := by subst hh; rfl
theorem regT_nil {h : Bool} (hh : h = true) : regT h [] = none := by subst hh; rfl
theorem regT_hit {h : Bool} (hh : h = true) {s : Bs} {r : List Bs} (hs : regB s = true) : regT h (s :: r) = some ((s.getD 1 0).toNat - 48, r) := by subst hh; show (if true = true then if regB s = true then some ((s.getD 1 0).toNat - 48, r) else none else _) = _; rw [if_pos rfl, if_pos hs]
theorem regT_miss {h : Bool} (hh : h = true) {s : Bs} {r : List Bs} (hs : regB s = false) : regT h (s :: r) = none := by subst hh; show (if true = true then if regB s = true then some ((s.getD 1 0).toNat - 48, r) else none else _) = _; rw [if_pos rfl, if_neg (by rw [hs]; decide)]
theorem regT_lt {h : Bool} {f f' : List Bs} {a : Nat} (e : regT h f = some (a, f')) : a < 8 ∧ (h = true ∨ a = 0) := by
  cases h with
  | false => injection e with e; injection e with e1 e2; exact ⟨by omega, .inr e1.symm⟩
  | true =>
    refine ⟨?_, .inl rfl⟩
    cases f with
    | nil => cases e
    | cons s r =>
      cases hs : regB s with
      | false => rw [regT_miss rfl hs] at e; cases e
      | true =>
        rw [regT_hit rfl hs] at e
        injection e with e
        injection e with e1 e2
        rw [← e1]
        exact (reg_hit hs).2
theorem order_noA {u : UnD} {name : Bs} {f : List Bs} (hop : numOf name ≠ 0) (h : regT (bitB (rowN (numOf name)).2 1) f = none) : orderL u name f = none := by
  unfold orderL
  rw [if_neg hop, h]
  rfl
theorem order_noB {u : UnD} {name : Bs} {f f1 : List Bs} {a : Nat} (hop : numOf name ≠ 0) (h : regT (bitB (rowN (numOf name)).2 1) f = some (a, f1)) (h2 : regT (bitB (rowN (numOf name)).2 2) f1 = none) : orderL u name f = none := by
  unfold orderL
  rw [if_neg hop, h]
  show (regT (bitB (rowN (numOf name)).2 2) f1).bind _ = none
  rw [h2]
  rfl
theorem order_noC {u : UnD} {name : Bs} {f f1 f2 : List Bs} {a b : Nat} (hop : numOf name ≠ 0) (h : regT (bitB (rowN (numOf name)).2 1) f = some (a, f1)) (h2 : regT (bitB (rowN (numOf name)).2 2) f1 = some (b, f2)) (h4 : lastT (bitB (rowN (numOf name)).2 4) f2 = none) : orderL u name f = none := by
  unfold orderL
  rw [if_neg hop, h]
  show (regT (bitB (rowN (numOf name)).2 2) f1).bind _ = none
  rw [h2]
  show (lastT (bitB (rowN (numOf name)).2 4) f2).bind _ = none
  rw [h4]
  rfl
theorem order_all {u : UnD} {name : Bs} {f f1 f2 f3 : List Bs} {a b : Nat} {c : Int} {need : Bs} (hop : numOf name ≠ 0) (h : regT (bitB (rowN (numOf name)).2 1) f = some (a, f1)) (h2 : regT (bitB (rowN (numOf name)).2 2) f1 = some (b, f2)) (h4 : lastT (bitB (rowN (numOf name)).2 4) f2 = some (c, need, f3)) :
    orderL u name f = if f3 = [] then some (u.put (opW (numOf name) a b c) need (kindN (numOf name))) else none := by
  unfold orderL
  rw [if_neg hop, h]
  show (regT (bitB (rowN (numOf name)).2 2) f1).bind _ = _
  rw [h2]
  show (lastT (bitB (rowN (numOf name)).2 4) f2).bind _ = _
  rw [h4]
  rfl
def CutC (w : World) (f2 : List Bs) (F op a b gi : Nat) (v2 v14 : Value) (wx : World) : Prop :=
  ∃ (c : Int) (need : Bs) (f3 : List Bs) (A : Option Addr) (n cp : Nat), lastT (bitB F 4) f2 = some (c, need, f3) ∧ v14 = .string (str need) ∧ v2 = .slice A n cp ∧ FsAt w A n f3 ∧ -32768 ≤ c ∧ c ≤ 32767 ∧
    Blk wx gi insT #[.int .i64 (op : Int), .int .i64 (a : Int), .int .i64 (b : Int), .int .i64 c] ∧ Ext w wx
theorem lastT_clear {h : Bool} (hh : h = false) (f : List Bs) : lastT h f = some (0, [], f) := by subst hh; rfl
theorem lastT_nil {h : Bool} (hh : h = true) : lastT h [] = none := by subst hh; rfl
theorem lastT_num {h : Bool} (hh : h = true) {s : Bs} {r : List Bs} {n : Int} (hs : numB s (-32768) 32767 = some n) : lastT h (s :: r) = some (n, [], r) := by
  subst hh; unfold lastT; rw [if_pos rfl]; dsimp only; rw [hs]
theorem lastT_name {h : Bool} (hh : h = true) {s : Bs} {r : List Bs} (hs : numB s (-32768) 32767 = none) (hn : nameB s = true) : lastT h (s :: r) = some (0, s, r) := by
  subst hh; unfold lastT; rw [if_pos rfl]; dsimp only; rw [hs]; dsimp only; rw [if_pos hn]
theorem lastT_none {h : Bool} (hh : h = true) {s : Bs} {r : List Bs} (hs : numB s (-32768) 32767 = none) (hn : nameB s = false) : lastT h (s :: r) = none := by
  subst hh; unfold lastT; rw [if_pos rfl]; dsimp only; rw [hs]; dsimp only; rw [if_neg (by rw [hn]; decide)]
theorem lastT_zero {h : Bool} {f f3 : List Bs} {c : Int} {need : Bs} (e : lastT h f = some (c, need, f3)) : h = true ∨ c = 0 := by
  cases h with
  | false => injection e with e; injection e with e1 e2; exact .inr e1.symm
  | true => exact .inl rfl
theorem numB_bounds {s : Bs} {lo hi n : Int} (h : numB s lo hi = some n) : lo ≤ n ∧ n ≤ hi := by
  unfold numB at h
  split at h
  · split at h
    · injection h with h; subst h; rename_i q; exact ⟨q.2.1, q.2.2⟩
    · cases h
  · cases h
theorem bit_clear {F k : Nat} (h : ¬ F / k % 2 = 1) : bitB F k = false := by unfold bitB; exact decide_eq_false h
theorem bit_set {F k : Nat} (h : F / k % 2 = 1) : bitB F k = true := by unfold bitB; exact decide_eq_true h
set_option maxHeartbeats 16000000 in
set_option maxRecDepth 100000 in
theorem order_any (w0 wk : World) (gu : Nat) (u : UnD) (name : Bs) (A : Option Addr) (n c : Nat) (f : List Bs) (w : World) (h : UnOk w0 wk gu u w) (hr : Room u) (hf : FsAt w A n f) (hnc : n ≤ c) (hL : LibOk w) :
    Calls Tryd.prog 33 #[.pointer (some ⟨gu, 0, none⟩), .string (str name), .slice A n c] w fun e w' => ResOut w0 wk gu (Res.of (orderL u name f)) e w' := by
  obtain ⟨ip, hip, hip0, hip1, hip2⟩ := info_parts ptr_info
  have HU := hide h
  have HX0 := hide h.ext
  have HR := hide hr
  have HF := hide hf
  have HNC := hide hnc
  have HL := hide hL
  have HN := hide (number_any name w)
  clear h hr hf hnc hL
  by_cases hop : numOf name = 0
  · have hE : numE name = 4 := by unfold numE; rw [if_pos hop]
    have HO := hide (show orderL u name f = none by unfold orderL; rw [if_pos hop])
    rw [hop, hE] at HN
    clear hop hE
    go_enter Tryd.func33, Tryd.ntmps33
    go_wp2_with fail
    refine HN.out.mono ?_
    rintro e w1 ⟨rfl, rfl⟩
    go_wp2_with fail
    go_ret
    rw [HO.out]
    exact ⟨rfl, by decide, HX0.out⟩
  have hE : numE name = 0 := by unfold numE; rw [if_neg hop]
  have hbd := numOf_bound name
  have HOP := hide hop
  have HNA := hide (@order_noA u name f hop)
  have HNB := hide (fun f1 a => @order_noB u name f f1 a hop)
  have HNCC := hide (fun f1 f2 a b => @order_noC u name f f1 f2 a b hop)
  have HALL := hide (fun f1 f2 f3 a b c need => @order_all u name f f1 f2 f3 a b c need hop)
  have hnm : (rowN (numOf name)).1 ≠ [] := rowN_name ⟨numOf name, by omega⟩ hop
  have HNM := hide hnm
  rw [hE] at HN
  generalize numOf name = op at *
  have hop1 : 1 ≤ op := by omega
  have HFI := hide (fields_op op hop1 hbd w)
  have HNE := hide (fun W => near_op op W)
  have HEN := hide (fun a b c h1 h2 W => enc_ok op a b c (by omega) h1 h2 W)
  have hF7 := rowN_le op
  have HFE := hide (show ∀ a b c, encOk op a b c = (((rowN op).1 ≠ []) ∧ a < 8 ∧ b < 8 ∧ ((rowN op).2 % 2 = 1 ∨ a = 0) ∧ ((rowN op).2 / 2 % 2 = 1 ∨ b = 0) ∧ ((rowN op).2 / 4 % 2 = 1 ∨ c = 0)) from fun a b c => rfl)
  generalize (rowN op).2 = F at *
  clear hE hop hnm
  go_enter Tryd.func33, Tryd.ntmps33
  go_wp2_with fail
  refine HN.out.mono ?_
  rintro e w1 ⟨rfl, rfl⟩
  go_wp2_with fail
  refine HFI.out.mono ?_
  rintro e w1 ⟨rfl, rfl⟩
  go_upto_region 6 with fail
  have HB0 := hide (Blk.new w insT #[.int .i64 (op : Int), .int .i64 0, .int .i64 0, .int .i64 0])
  have HX := hide ((Ext.refl w).alloc (.cells #[.int .i64 (op : Int), .int .i64 0, .int .i64 0, .int .i64 0] insT))
  have HGI := hide (Nat.le_refl w.heap.size)
  generalize w.alloc (.cells #[.int .i64 (op : Int), .int .i64 0, .int .i64 0, .int .i64 0] insT) = W1 at *
  obtain ⟨gi, hgi⟩ : ∃ x, w.heap.size = x := ⟨_, rfl⟩
  have HGI := hide (Nat.le_of_eq hgi)
  rw [hgi] at HB0 ⊢
  clear hgi
  go_wp2_with fail
  go_loopw [2, 9, 36] (OrRel w f F op gi) (fun _ _ v _ => 2 - (intOf v).toNat)
  case atStart => exact ⟨0, 0, 0, f, A, n, c, by omega, rfl, rfl, rfl, HNC.out, HF.out, .inl ⟨rfl, rfl, rfl, rfl⟩, HB0.out, HX.out⟩
  case round =>
    obtain ⟨k, a, b, fk, A2, n2, c2, hk, rfl, hv9, rfl, hnc2, hfk, hst, hbi, hxr⟩ := hrel
    have HBI := hide hbi
    have HXR := hide hxr
    have HFK := hide hfk
    have HST := hide hst
    have HNC2 := hide hnc2
    clear hbi hxr hfk hst hnc2
    rcases (by omega : k = 0 ∨ k = 1 ∨ k = 2) with rfl | rfl | rfl
    · -- round 0
      obtain ⟨-, rfl, rfl, hfkf⟩ | ⟨h0, -⟩ | ⟨h0, -⟩ := HST.out
      rotate_left
      · cases h0
      · cases h0
      have HFF := hide hfkf
      clear hfkf
      obtain ⟨HX1, hHL⟩ : ∃ x, halfs F 0 = x := ⟨_, rfl⟩
      obtain ⟨NX1, hNX⟩ : ∃ x, halfs F 1 = x := ⟨_, rfl⟩
      have HHL := hide hHL
      have HNXE := hide hNX
      have hs1 : HX1 = F := by rw [← hHL]; rfl
      have hs2 : NX1 = F / 2 := by rw [← hNX]; rfl
      have HDV := hide (show (HX1 : Int) / 2 = (NX1 : Int) by omega)
      rw [hHL] at hv9
      subst hv9
      have hix : ∀ W : World, (Instr.index 103 (.agg #[.pointer (some ⟨gi, 1, none⟩), .pointer (some ⟨gi, 2, none⟩)]) (.int .i64 0)).run Tryd.prog W = .ok (.pointer (some ⟨gi, 1, none⟩)) W := fun W => index_arr (P := Tryd.prog) Tryd.underlying103 Tryd.underlying102 rfl hip hip1 #[.pointer (some ⟨gi, 1, none⟩), .pointer (some ⟨gi, 2, none⟩)] 0 (by omega) rfl .i64 W
      have hsh : (HX1 : Int).fdiv (2 ^ min (Int.toNat 1) IntKind.i64.bits) = (NX1 : Int) := by
        rw [show (2 : Int) ^ min (Int.toNat 1) IntKind.i64.bits = 2 from rfl, Int.fdiv_eq_ediv_of_nonneg _ (by decide)]
        omega
      have hb1 := bits_1 HX1 (by omega)
      by_cases hbit : HX1 % 2 = 1
      · have hb2 : bits BinOp.and IntKind.i64 (HX1 : Int) 1 = 1 := by rw [hb1, hbit]; rfl
        have hbb : bitB F 1 = true := bit_set (by omega)
        clear hb1 hbit hs1 hs2 hHL hNX
        obtain hnil | ⟨s, r, hcons⟩ : fk = [] ∨ ∃ s r, fk = s :: r := by
          cases fk with
          | nil => exact .inl rfl
          | cons s r => exact .inr ⟨s, r, rfl⟩
        · have hn0 : n2 = 0 := by have h := HFK.out.len; rw [hnil] at h; exact h.symm
          subst hn0
          have hr : regT (bitB F 1) fk = none := by rw [hnil]; exact regT_nil hbb
          have HO := hide (HNA.out (by rw [← HFF.out]; exact hr))
          clear hbb hr
          go_wp2_with fail
          go_ret
          rw [HO.out]
          exact ⟨rfl, by decide, HX0.out.trans HXR.out⟩
        · have HFK2 : Hid (FsAt w A2 n2 (s :: r)) := hide (by have h := HFK.out; rw [hcons] at h; exact h)
          obtain ⟨pb, off, rfl, hpb, hcl⟩ := HFK2.out.head
          have hsl := HFK2.out.sm s (by simp)
          have hcl2 := HXR.out.cell hcl
          have hlen := HFK2.out.len
          rw [List.length_cons] at hlen
          have hn0 : ((n2 : Int) == 0) = false := by simp; omega
          have hn2 : decide (n2 = 0) = false := decide_eq_false (by omega)
          have hn3 : 0 < n2 := by omega
          have HRG := hide (fun W => reg_any s W (by omega))
          cases hrs : regB s with
          | false =>
            have hr : regT (bitB F 1) fk = none := by rw [hcons]; exact regT_miss hbb hrs
            have HO := hide (HNA.out (by rw [← HFF.out]; exact hr))
            have HRG2 := hide (show regI s = -1 from reg_miss hrs)
            rw [HRG2.out] at HRG
            clear hbb hr hrs hpb hcl hlen hcons
            go_wp2_with fail
            refine (HRG.out _).mono ?_
            rintro e w3 ⟨rfl, rfl⟩
            go_wp2_with fail
            go_ret
            rw [HO.out]
            exact ⟨rfl, by decide, HX0.out.trans HXR.out⟩
          | true =>
            obtain ⟨hq1, hq2⟩ := reg_hit hrs
            have hr : regT (bitB F 1) fk = some ((s.getD 1 0).toNat - 48, r) := by rw [hcons]; exact regT_hit hbb hrs
            obtain ⟨q, hq⟩ : ∃ q, (s.getD 1 0).toNat - 48 = q := ⟨_, rfl⟩
            rw [hq] at hq1 hq2 hr
            rw [hq1] at HRG
            have HRR := hide hr
            obtain ⟨A3, n3, c3, hcut, hnc3, hf3, hn31⟩ := HFK2.out.tail HNC2.out
            have HF3 := hide hf3
            have HNC3 := hide hnc3
            have hne : gi ≠ pb := by have := HGI.out; omega
            have t7 : decide ((q : Int) < 0) = false := decide_eq_false (by omega)
            have hfr := HBI.out.frozen 1
            have HNX := hide ((HBI.out.set_ 1 (.int .i64 (q : Int))))
            have HXN := hide (HXR.out.setCell (p := ⟨gi, 1, none⟩) HGI.out (.int .i64 (q : Int)))
            have hci := HBI.out.cell 1
            clear hbb hr hrs hcl hq1 hq hf3 hnc3 hn31 hlen hcons
            go_wp2_with fail
            refine (HRG.out _).mono ?_
            rintro e w3 ⟨rfl, rfl⟩
            go_upto_region 12 with fail
            go_region_held3 (fun w' => w'.cell? ⟨pb, off, none⟩ = some (.string (str s))) (first | exact hcl2 | exact far1 hcl2 hne _ | fail)
              (first | (go_at_call_of 53 (Value.string (str s)); refine (HRG.out _).mono ?_; rintro e w6 ⟨rfl, rfl⟩) | fail)
            all_goals
              clear hcut
              go_wp2_with fail
              go_roundw
              case rel => exact ⟨1, q, 0, r, A3, n3, c3, by omega, rfl, by rw [HNXE.out, HDV.out], rfl, HNC3.out, HF3.out, .inr (.inl ⟨rfl, rfl, by rw [← HFF.out]; exact HRR.out⟩), HNX.out, HXN.out.drew⟩
              case measure => simp [intOf]
      · have hb2 : bits BinOp.and IntKind.i64 (HX1 : Int) 1 = 0 := by rw [hb1, show HX1 % 2 = 0 by omega]; rfl
        have hr : regT (bitB F 1) fk = some (0, fk) := regT_clear (bit_clear (by omega)) fk
        have HRR := hide hr
        clear hb1 hr hs1 hs2 hHL hNX hbit
        go_wp2_with fail
        go_roundw
        case rel => exact ⟨1, 0, 0, fk, A2, n2, c2, by omega, rfl, by rw [HNXE.out, HDV.out], rfl, HNC2.out, HFK.out, .inr (.inl ⟨rfl, rfl, by rw [← HFF.out]; exact HRR.out⟩), HBI.out, HXR.out⟩
        case measure => simp [intOf]
    · -- round 1
      obtain ⟨h0, -⟩ | ⟨-, rfl, hra⟩ | ⟨h0, -⟩ := HST.out
      · cases h0
      rotate_left
      · cases h0
      have HR0 := hide hra
      clear hra
      obtain ⟨HX1, hHL⟩ : ∃ x, halfs F 1 = x := ⟨_, rfl⟩
      obtain ⟨NX1, hNX⟩ : ∃ x, halfs F 2 = x := ⟨_, rfl⟩
      have HHL := hide hHL
      have HNXE := hide hNX
      have hs1 : HX1 = (F / 2) := by rw [← hHL]; rfl
      have hs2 : NX1 = F / 4 := by rw [← hNX]; rfl
      have HDV := hide (show (HX1 : Int) / 2 = (NX1 : Int) by omega)
      rw [hHL] at hv9
      subst hv9
      have hix : ∀ W : World, (Instr.index 103 (.agg #[.pointer (some ⟨gi, 1, none⟩), .pointer (some ⟨gi, 2, none⟩)]) (.int .i64 1)).run Tryd.prog W = .ok (.pointer (some ⟨gi, 2, none⟩)) W := fun W => index_arr (P := Tryd.prog) Tryd.underlying103 Tryd.underlying102 rfl hip hip1 #[.pointer (some ⟨gi, 1, none⟩), .pointer (some ⟨gi, 2, none⟩)] 1 (by omega) rfl .i64 W
      have hsh : (HX1 : Int).fdiv (2 ^ min (Int.toNat 1) IntKind.i64.bits) = (NX1 : Int) := by
        rw [show (2 : Int) ^ min (Int.toNat 1) IntKind.i64.bits = 2 from rfl, Int.fdiv_eq_ediv_of_nonneg _ (by decide)]
        omega
      have hb1 := bits_1 HX1 (by omega)
      by_cases hbit : HX1 % 2 = 1
      · have hb2 : bits BinOp.and IntKind.i64 (HX1 : Int) 1 = 1 := by rw [hb1, hbit]; rfl
        have hbb : bitB F 2 = true := bit_set (by omega)
        clear hb1 hbit hs1 hs2 hHL hNX
        obtain hnil | ⟨s, r, hcons⟩ : fk = [] ∨ ∃ s r, fk = s :: r := by
          cases fk with
          | nil => exact .inl rfl
          | cons s r => exact .inr ⟨s, r, rfl⟩
        · have hn0 : n2 = 0 := by have h := HFK.out.len; rw [hnil] at h; exact h.symm
          subst hn0
          have hr : regT (bitB F 2) fk = none := by rw [hnil]; exact regT_nil hbb
          have HO := hide (HNB.out fk a HR0.out hr)
          clear hbb hr
          go_wp2_with fail
          go_ret
          rw [HO.out]
          exact ⟨rfl, by decide, HX0.out.trans HXR.out⟩
        · have HFK2 : Hid (FsAt w A2 n2 (s :: r)) := hide (by have h := HFK.out; rw [hcons] at h; exact h)
          obtain ⟨pb, off, rfl, hpb, hcl⟩ := HFK2.out.head
          have hsl := HFK2.out.sm s (by simp)
          have hcl2 := HXR.out.cell hcl
          have hlen := HFK2.out.len
          rw [List.length_cons] at hlen
          have hn0 : ((n2 : Int) == 0) = false := by simp; omega
          have hn2 : decide (n2 = 0) = false := decide_eq_false (by omega)
          have hn3 : 0 < n2 := by omega
          have HRG := hide (fun W => reg_any s W (by omega))
          cases hrs : regB s with
          | false =>
            have hr : regT (bitB F 2) fk = none := by rw [hcons]; exact regT_miss hbb hrs
            have HO := hide (HNB.out fk a HR0.out hr)
            have HRG2 := hide (show regI s = -1 from reg_miss hrs)
            rw [HRG2.out] at HRG
            clear hbb hr hrs hpb hcl hlen hcons
            go_wp2_with fail
            refine (HRG.out _).mono ?_
            rintro e w3 ⟨rfl, rfl⟩
            go_wp2_with fail
            go_ret
            rw [HO.out]
            exact ⟨rfl, by decide, HX0.out.trans HXR.out⟩
          | true =>
            obtain ⟨hq1, hq2⟩ := reg_hit hrs
            have hr : regT (bitB F 2) fk = some ((s.getD 1 0).toNat - 48, r) := by rw [hcons]; exact regT_hit hbb hrs
            obtain ⟨q, hq⟩ : ∃ q, (s.getD 1 0).toNat - 48 = q := ⟨_, rfl⟩
            rw [hq] at hq1 hq2 hr
            rw [hq1] at HRG
            have HRR := hide hr
            obtain ⟨A3, n3, c3, hcut, hnc3, hf3, hn31⟩ := HFK2.out.tail HNC2.out
            have HF3 := hide hf3
            have HNC3 := hide hnc3
            have hne : gi ≠ pb := by have := HGI.out; omega
            have t7 : decide ((q : Int) < 0) = false := decide_eq_false (by omega)
            have hfr := HBI.out.frozen 2
            have HNX := hide ((HBI.out.set_ 2 (.int .i64 (q : Int))))
            have HXN := hide (HXR.out.setCell (p := ⟨gi, 2, none⟩) HGI.out (.int .i64 (q : Int)))
            have hci := HBI.out.cell 2
            clear hbb hr hrs hcl hq1 hq hf3 hnc3 hn31 hlen hcons
            go_wp2_with fail
            refine (HRG.out _).mono ?_
            rintro e w3 ⟨rfl, rfl⟩
            go_upto_region 12 with fail
            go_region_held3 (fun w' => w'.cell? ⟨pb, off, none⟩ = some (.string (str s))) (first | exact hcl2 | exact far1 hcl2 hne _ | fail)
              (first | (go_at_call_of 53 (Value.string (str s)); refine (HRG.out _).mono ?_; rintro e w6 ⟨rfl, rfl⟩) | fail)
            all_goals
              clear hcut
              go_wp2_with fail
              go_roundw
              case rel => exact ⟨2, a, q, r, A3, n3, c3, by omega, rfl, by rw [HNXE.out, HDV.out], rfl, HNC3.out, HF3.out, .inr (.inr ⟨rfl, fk, HR0.out, HRR.out⟩), HNX.out, HXN.out.drew⟩
              case measure => simp [intOf]
      · have hb2 : bits BinOp.and IntKind.i64 (HX1 : Int) 1 = 0 := by rw [hb1, show HX1 % 2 = 0 by omega]; rfl
        have hr : regT (bitB F 2) fk = some (0, fk) := regT_clear (bit_clear (by omega)) fk
        have HRR := hide hr
        clear hb1 hr hs1 hs2 hHL hNX hbit
        go_wp2_with fail
        go_roundw
        case rel => exact ⟨2, a, 0, fk, A2, n2, c2, by omega, rfl, by rw [HNXE.out, HDV.out], rfl, HNC2.out, HFK.out, .inr (.inr ⟨rfl, fk, HR0.out, HRR.out⟩), HBI.out, HXR.out⟩
        case measure => simp [intOf]
    · -- behind the loop
      obtain ⟨h0, -⟩ | ⟨h0, -⟩ | ⟨-, f1, hra, hrb⟩ := HST.out
      · cases h0
      · cases h0
      have HRA := hide hra
      have HRB := hide hrb
      obtain ⟨G4, hG4⟩ : ∃ x, halfs F 2 = x := ⟨_, rfl⟩
      have hs4 : G4 = F / 4 := by rw [← hG4]; rfl
      rw [hG4] at hv9
      subst hv9
      have HS4 := hide hs4
      clear hra hrb hG4 HST hs4
      go_wp2_with fail
      refine (HNE.out _).mono ?_
      rintro e w3 ⟨rfl, rfl⟩
      go_upto_if 64 with fail
      go_cut [15] (fun s15 wx => s15 = .int .i64 (kindN op : Int) ∧ wx = wr)
      case first =>
        have hkn : kindN op = if nearB op = true then 1 else 2 := rfl
        cases hnb : nearB op with
        | true =>
          have hk1 : kindN op = 1 := by rw [hkn, if_pos hnb]
          have HK1 := hide hk1
          clear hk1 hkn hnb
          go_wp2_with fail
          go_meet
          exact ⟨by rw [HK1.out]; rfl, rfl⟩
        | false =>
          have hk1 : kindN op = 2 := by rw [hkn, if_neg (by rw [hnb]; decide)]
          have HK1 := hide hk1
          clear hk1 hkn hnb
          go_wp2_with fail
          go_meet
          exact ⟨by rw [HK1.out]; rfl, rfl⟩
      case rest =>
        obtain ⟨rfl, rfl⟩ := hcut
        have HB1 := hide (bits_1 G4 (by have := HS4.out; omega))
        go_upto_if 67 with fail
        go_cut [2, 14] (CutC w fk F op a b gi)
        case first =>
          by_cases hbit : G4 % 2 = 1
          · have hb2 : bits BinOp.and IntKind.i64 (G4 : Int) 1 = 1 := by rw [HB1.out, hbit]; rfl
            have hbb : bitB F 4 = true := bit_set (by have := HS4.out; omega)
            have HBB := hide hbb
            clear hbit hbb
            obtain hnil | ⟨s, r, hcons⟩ : fk = [] ∨ ∃ s r, fk = s :: r := by
              cases fk with
              | nil => exact .inl rfl
              | cons s r => exact .inr ⟨s, r, rfl⟩
            · have hn0 : n2 = 0 := by have h := HFK.out.len; rw [hnil] at h; exact h.symm
              subst hn0
              have HO := hide (HNCC.out f1 fk a b HRA.out HRB.out (by rw [hnil]; exact lastT_nil HBB.out))
              clear hnil
              go_wp2_with fail
              go_ret
              rw [HO.out]
              exact ⟨rfl, by decide, HX0.out.trans HXR.out⟩
            · have HFK2 : Hid (FsAt w A2 n2 (s :: r)) := hide (by have h := HFK.out; rw [hcons] at h; exact h)
              obtain ⟨pb, off, rfl, hpb, hcl⟩ := HFK2.out.head
              have hsl := HFK2.out.sm s (by simp)
              have hcl2 := HXR.out.cell hcl
              have HCL := hide hcl
              have hlen := HFK2.out.len
              rw [List.length_cons] at hlen
              have hn0 : ((n2 : Int) == 0) = false := by simp; omega
              have hn2 : decide (n2 = 0) = false := decide_eq_false (by omega)
              have hn3 : 0 < n2 := by omega
              have hlq : (1 : Int) ≤ (n2 : Int) := by omega
              obtain ⟨A3, n3, c3, hct, hnc3, hf3, hn31⟩ := HFK2.out.tail HNC2.out
              have HF3 := hide hf3
              have HCN := hide hcons
              have HNU := hide (num_any s (by omega) (-32768) 32767 wc (HL.out.ext HXR.out))
              clear hlen hcons hcl hf3 hnc3 hn31
              go_wp2_with fail
              refine HNU.out.mono ?_
              rintro e w4 ⟨⟨z, rfl, hz⟩, hx4⟩
              have HX4 := hide (HXR.out.trans hx4)
              have HB4 := hide (HBI.out.ext hx4)
              have HZ := hide hz
              clear hx4 hz
              cases hr : numB s (-32768) 32767 with
              | some v =>
                obtain rfl := HZ.out v hr
                have hbz := numB_bounds hr
                have HM := hide (show CutC w fk F op a b gi (.slice A3 n3 c3) (.string (str [])) (w4.setCell ⟨gi, 3, none⟩ (.int .i64 z)) from
                  ⟨z, [], r, A3, n3, c3, by rw [HCN.out]; exact lastT_num HBB.out hr, rfl, rfl, HF3.out, hbz.1, hbz.2, HB4.out.set_ 3 (.int .i64 z), HX4.out.setCell (p := ⟨gi, 3, none⟩) HGI.out _⟩)
                have hfr := HB4.out.frozen 3
                have hci := HB4.out.cell 3
                simp only [Option.isSome_some]
                clear hr hbz
                go_wp2_with fail
                go_meet
                exact HM.out
              | none =>
                have hcl4 := HX4.out.cell HCL.out
                have HR := hide hr
                have HAN := hide (fun W => aname_any s W (by omega))
                simp only [Option.isSome_none]
                clear hr
                go_wp2_with fail
                refine (HAN.out _).mono ?_
                rintro e w5 ⟨rfl, rfl⟩
                cases hnb : nameB s with
                | true =>
                  have HM := hide (show CutC w fk F op a b gi (.slice A3 n3 c3) (.string (str s)) w4 from
                    ⟨0, s, r, A3, n3, c3, by rw [HCN.out]; exact lastT_name HBB.out HR.out hnb, rfl, rfl, HF3.out, by decide, by decide, HB4.out, HX4.out⟩)
                  clear hnb
                  go_wp2_with fail
                  go_meet
                  exact HM.out
                | false =>
                  have HO := hide (HNCC.out f1 fk a b HRA.out HRB.out (by rw [HCN.out]; exact lastT_none HBB.out HR.out hnb))
                  clear hnb
                  go_wp2_with fail
                  go_ret
                  rw [HO.out]
                  exact ⟨rfl, by decide, HX0.out.trans HX4.out⟩
          · have hb2 : bits BinOp.and IntKind.i64 (G4 : Int) 1 = 0 := by rw [HB1.out, show G4 % 2 = 0 by omega]; rfl
            have HM := hide (show CutC w fk F op a b gi (.slice A2 n2 c2) (.string (str [])) wc from
              ⟨0, [], fk, A2, n2, c2, lastT_clear (bit_clear (by have := HS4.out; omega)) fk, rfl, rfl, HFK.out, by decide, by decide, HBI.out, HXR.out⟩)
            clear hbit
            go_wp2_with fail
            go_meet
            exact HM.out
        case rest =>
          obtain ⟨c3, need, f3, A5, n5, cp5, hlast, rfl, rfl, hf5, hc1, hc2, hb5, hx5⟩ := hcut
          have HALL2 := hide (HALL.out f1 fk f3 a b c3 need HRA.out HRB.out hlast)
          have HF5 := hide hf5
          have HX5 := hide hx5
          have d0 := hb5.cell 0
          have d1 := hb5.cell 1
          have d2 := hb5.cell 2
          have d3 := hb5.cell 3
          have hea := regT_lt HRA.out
          have heb := regT_lt HRB.out
          have hec := lastT_zero hlast
          have hen : encOk op a b c3 := (HFE.out a b c3).mpr ⟨HNM.out, hea.1, heb.1, by
              rcases hea.2 with h | h
              · exact .inl (by unfold bitB at h; have := of_decide_eq_true h; omega)
              · exact .inr h, by
              rcases heb.2 with h | h
              · exact .inl (of_decide_eq_true h)
              · exact .inr h, by
              rcases hec with h | h
              · exact .inl (of_decide_eq_true h)
              · exact .inr h⟩
          have HE2 := hide (HEN.out a b c3 ⟨hc1, hc2⟩ hen)
          clear hlast hf5 hx5 hb5 hea heb hec hen hc1 hc2
          obtain hnil | ⟨s, r, hcons⟩ : f3 = [] ∨ ∃ s r, f3 = s :: r := by
            cases f3 with
            | nil => exact .inl rfl
            | cons s r => exact .inr ⟨s, r, rfl⟩
          · have hn0 : n5 = 0 := by have h := HF5.out.len; rw [hnil] at h; exact h.symm
            subst hn0
            rw [if_pos hnil] at HALL2
            clear hnil
            go_wp2_with fail
            refine (HE2.out _).mono ?_
            rintro e w6 ⟨rfl, hx6⟩
            have HP := hide (put_any w0 wk gu u (opW op a b c3) need (kindN op) w6 ((HU.out.to HX5.out).to hx6) (Nat.le_trans HR.out.1 (by decide)) (Nat.le_trans HR.out.2.1 (by decide)))
            clear hx6
            go_wp2_with fail
            refine HP.out.mono ?_
            rintro e w7 ⟨rfl, hu⟩
            have HU7 := hide hu
            clear hu
            go_wp2_with fail
            go_ret
            rw [HALL2.out]
            exact ⟨rfl, HU7.out⟩
          · have hn0 : 0 < n5 := by have h := HF5.out.len; rw [hcons] at h; rw [← h]; simp
            have t1 : decide ((0 : Int) < (n5 : Int)) = true := decide_eq_true (by omega)
            have t2 : decide (0 < n5) = true := decide_eq_true hn0
            rw [if_neg (by rw [hcons]; exact fun e => by cases e)] at HALL2
            clear hcons
            go_wp2_with fail
            go_ret
            rw [HALL2.out]
            exact ⟨rfl, by decide, HX0.out.trans HX5.out⟩
end Go.Proofs.YtikbfmjhmjkkgaaDoor

