/- The contracts of asm.Place where it can be, and of bind.words. -/
import Derived.Test.YtljlniehbenefaaDoorBdPl
import Derived.Lib.EndianBits
import Derived.Laws.BitsAllLaws
namespace Go.Proofs.YtljlniehbenefaaDoor
open Go.RowKit
set_option linter.unusedVariables false

theorem hk32 : ∀ n : Int, 0 ≤ n → n < 2 ^ 32 → IntKind.u32.wrap n = n := fun n h₀ h₁ => by rw [IntKind.wrap_u32]; omega
theorem and16b (n : Int) (h : 0 ≤ n) (h' : n ≤ 4294967295) : bits .and .u32 n 65535 = n % 65536 :=
  bits_mask .u32 32 (by decide) hk32 16 (by decide) n h (by omega)
theorem andNot16 (n : Int) (h : 0 ≤ n) (h' : n ≤ 4294967295) : bits .andNot .u32 n 65535 = n / 65536 * 65536 := by
  obtain ⟨a, rfl⟩ := Int.eq_ofNat_of_zero_le h
  have ha : a < 2 ^ 32 := by omega
  have e : a &&& 4294901760 = (a >>> 16) <<< 16 := by
    apply Nat.eq_of_testBit_eq
    intro i
    have hM : (4294901760 : Nat) = (2 ^ 16 - 1) <<< 16 := by decide
    rw [hM, Nat.testBit_and, Nat.testBit_shiftLeft, Nat.testBit_shiftLeft, Nat.testBit_shiftRight, Nat.testBit_two_pow_sub_one]
    by_cases h16 : 16 ≤ i
    · have e1 : 16 + (i - 16) = i := by omega
      rw [e1]
      by_cases h32 : i - 16 < 16
      · simp [h16, h32]
      · have : a.testBit i = false := Nat.testBit_lt_two_pow (Nat.lt_of_lt_of_le ha (Nat.pow_le_pow_right (by omega) (by omega)))
        simp [this]
    · simp [h16]
  have h1 := u32_andNot_nat a 65535 (by omega) (by omega)
  have h2 : (4294967295 - 65535 : Nat) = 4294901760 := rfl
  rw [h2, e, Nat.shiftLeft_eq, Nat.shiftRight_eq_div_pow] at h1
  have h3 : bits .andNot .u32 (a : Int) 65535 = bits .andNot .u32 (a : Int) ((65535 : Nat) : Int) := rfl
  rw [h3, h1]
  omega
def placedI (x c : Int) : Int := x / 65536 * 65536 + c % 65536
theorem placed_bits (x c : Int) (hx : 0 ≤ x) (hx' : x ≤ 4294967295) (hc : 0 ≤ c) (hc' : c ≤ 4294967295) : bits .or .u32 (bits .andNot .u32 x 65535) (bits .and .u32 c 65535) = placedI x c := by
  rw [and16b c hc hc', andNot16 x hx hx', bits_join .u32 32 (by decide) hk32 16 _ _ (by omega) (by omega) (by omega) (by omega) (by omega) (by omega)]
  rfl
theorem ret2 {a b : Value} {a' b' : Value} (h : a = a') (h' : b = b') : Ending.returned (.tuple #[a, b]) = .returned (.tuple #[a', b']) := by rw [h, h']
/-- The word that Place makes. -/
def placeI (x kind a t : Int) : Int := if kind = 3 then t else placedI x (if kind = 1 then (t - a) % 4294967296 else t)
theorem placeI_bd (x kind a t : Int) (hx : 0 ≤ x) (hx' : x ≤ 4294967295) (ht : 0 ≤ t) (ht' : t < 30000) : 0 ≤ placeI x kind a t ∧ placeI x kind a t ≤ 4294967295 := by
  unfold placeI placedI
  split
  · omega
  · split <;> omega
set_option maxHeartbeats 1000000 in
set_option maxRecDepth 100000 in
theorem place_ok (x kind a t : Int) (w : World) (hx : 0 ≤ x) (hx' : x ≤ 4294967295) (hk : 1 ≤ kind) (hk' : kind ≤ 3) (ha : 0 ≤ a) (ha' : a < 30000) (ht : 0 ≤ t) (ht' : t < 30000) :
    Calls Tryd.prog 41 #[.int .u32 x, .int .i64 kind, .int .i64 a, .int .i64 t] w fun e w' => e = .returned (.tuple #[.int .u32 (placeI x kind a t), .int .i64 0]) ∧ w' = w := by
  rcases (show kind = 1 ∨ kind = 2 ∨ kind = 3 by omega) with rfl | rfl | rfl
  · have HE := hide (show placeI x 1 a t = placedI x ((t - a) % 4294967296) from rfl)
    go_enter Tryd.func41, Tryd.ntmps41
    go_wp2
    go_ret2
    exact ⟨ret2 (congrArg (Value.int .u32) (by rw [HE.out]; exact placed_bits x _ hx hx' (by omega) (by omega))) rfl, rfl⟩
  · have HE := hide (show placeI x 2 a t = placedI x t from rfl)
    go_enter Tryd.func41, Tryd.ntmps41
    go_wp2
    go_ret2
    exact ⟨ret2 (congrArg (Value.int .u32) (by rw [HE.out]; exact placed_bits x t hx hx' ht (by omega))) rfl, rfl⟩
  · have HE := hide (show placeI x 3 a t = t from rfl)
    go_enter Tryd.func41, Tryd.ntmps41
    go_wp2
    go_ret2
    exact ⟨ret2 (congrArg (Value.int .u32) (by rw [HE.out])) rfl, rfl⟩
def wordsP (at_ : Bs → Option Int) (beg : Nat) : List NeD → List Nat → Option (List Nat)
  | [], out => some out
  | n :: l, out => match at_ n.name with
    | none => none
    | some t => wordsP at_ beg l (out.set (n.pos.toNat / 4) (placeI (out.getD (n.pos.toNat / 4) 0 : Nat) n.kind (beg + n.pos) t).toNat)
theorem wordsP_none {at_ : Bs → Option Int} {beg : Nat} {n : NeD} {l : List NeD} {out : List Nat} (h : at_ n.name = none) : wordsP at_ beg (n :: l) out = none := by rw [wordsP, h]
theorem wordsP_some {at_ : Bs → Option Int} {beg : Nat} {n : NeD} {l : List NeD} {out : List Nat} {t : Int} (h : at_ n.name = some t) : wordsP at_ beg (n :: l) out = wordsP at_ beg l (out.set (n.pos.toNat / 4) (placeI (out.getD (n.pos.toNat / 4) 0 : Nat) n.kind (beg + n.pos) t).toNat) := by rw [wordsP, h]
theorem codeV_set (l : List Nat) (k x : Nat) : (codeV l).set k (.int .u32 (x : Int)) = codeV (l.set k x) := by simp [codeV, List.map_set]
def WdRel (w : World) (nds : List NeD) (at_ : Bs → Option Int) (beg : Nat) (F : Option (List Nat)) (L : Nat) (A : Option Addr) (c : Nat) (v21 : Value) (wr : World) : Prop :=
  ∃ (k : Nat) (out : List Nat), k ≤ nds.length ∧ v21 = .int .i64 k ∧ out.length = L ∧ (∀ x ∈ out, x < 4294967296) ∧ wordsP at_ beg (nds.drop k) out = F ∧ wr.ownsRow w.heap.size 31 1 (.slice A L c) L (codeV out) ∧ Ext w wr
def WordsOut (w : World) (F : Option (List Nat)) (L : Nat) (e : Ending) (w' : World) : Prop :=
  Ext w w' ∧ ((∃ W A c, F = some W ∧ W.length = L ∧ (∀ x ∈ W, x < 4294967296) ∧ e = .returned (.tuple #[.slice A L c, .int .i64 0]) ∧ w'.ownsRow w.heap.size 31 1 (.slice A L c) L (codeV W)) ∨ (F = none ∧ e = .returned (.tuple #[.slice none 0 0, .int .i64 4])))
theorem u32_info' : (Tryd.prog.info? 31).map (fun i => (i.zero, i.size, i.bytes)) = some (some (.int .u32 0), 1, 4) := by kernel_rfl
set_option maxHeartbeats 8000000 in
set_option maxRecDepth 100000 in
theorem words_any (o : ObD) (v : ObV) (beg gm K : Nat) (at_ : Bs → Option Int) (w : World) (h : ObRd w o v) (hck : ChkOk o) (hsm : ObSm o) (hbeg : beg ≤ 10000) (hm : MapSI w gm K at_) (hat : ∀ s t, at_ s = some t → 0 ≤ t ∧ t < 30000) :
    Calls Tryd.prog 32 #[.agg v.cells, .int .i64 (beg : Int), .map (some gm)] w (WordsOut w (wordsP at_ beg o.needs o.code) o.code.length) := by
  obtain ⟨A1, n1, c1, A2, n2, c2, A3, n3, c3, A4, n4, c4⟩ := v
  obtain ⟨i0, hi0, hz0, hz1, hz2⟩ := info_parts u32_info'
  have l1 : o.code.length = n1 := h.l1
  have l4 : o.needs.length = n4 := h.l4
  have hn1 : n1 ≤ 128 := by have := hck.code; omega
  have hn4 : n4 ≤ 40 := by have := hck.nds; omega
  obtain ⟨F, hF⟩ : ∃ F, wordsP at_ beg o.needs o.code = F := ⟨_, rfl⟩
  have HF := hide hF
  rw [hF, l1]
  show Calls Tryd.prog 32 #[.agg #[.slice A1 n1 c1, .slice A2 n2 c2, .slice A3 n3 c3, .slice A4 n4 c4], .int .i64 (beg : Int), .map (some gm)] w _
  have HX0 := hide ((Ext.refl w).alloc (.cells #[.slice A1 n1 c1, .slice A2 n2 c2, .slice A3 n3 c3, .slice A4 n4 c4] obT))
  have hb0 := Blk.new w obT #[.slice A1 n1 c1, .slice A2 n2 c2, .slice A3 n3 c3, .slice A4 n4 c4]
  have HRD := hide h
  have HR1 := hide (HX0.out.reads h.code (Nat.le_refl _))
  have HM := hide hm
  have HAT := hide hat
  have HCK := hide hck
  have HSM := hide hsm
  dsimp only at HR1
  clear h hm hck hsm hF hat
  go_enter Tryd.func32, Tryd.ntmps32
  go_upto_region 1 with fail
  generalize w.alloc (.cells #[.slice A1 n1 c1, .slice A2 n2 c2, .slice A3 n3 c3, .slice A4 n4 c4] obT) = W at *
  have HB0 := hide hb0
  have p0 : W.cell? ⟨w.heap.size, 0, none⟩ = some (.slice A1 n1 c1) := hb0.cell 0
  have HL1 := hide (show 0 + n1 ≤ maxLen by simp only [maxLen]; omega)
  have HL2 := hide (show (0 + n1) * 4 ≤ 140737488355328 by omega)
  clear hb0
  go_upto_region 2 with (at_builtin; refine wpList_append_any _ rfl (.const (.slice none 0 0)) (.tmp 16) 32 rfl w.heap.size 31 i0 _ 1 4 Tryd.underlying32 hi0 hz0 hz1 hz2 rfl (by decide) (.slice none 0 0) 0 [] rfl (World.ownsRow_nil _ _ _ _) w.heap.size A1 n1 c1 (codeV o.code) rfl HR1.out (codeV_one _) HL1.out HL2.out HX0.out.size ?_; intro A8 c8 w8 ho8 hg8 ha8; have HO8 := hide ho8; have HG8 := hide hg8)
  have hb8 := HB0.out.grown HG8.out (by simp [Value.ownBlock])
  have HX8 := hide (HX0.out.grown HG8.out (fun k hk => by simp [Value.ownBlock] at hk))
  have p3 : w8.cell? ⟨w.heap.size, 3, none⟩ = some (.slice A4 n4 c4) := hb8.cell 3
  have HO9 := hide (show w8.ownsRow w.heap.size 31 1 (.slice A8 n1 c8) n1 (codeV o.code) by have := HO8.out; simpa using this)
  clear hb8 ho8 hg8 ha8 HO8 HG8 p0 HB0 HL1 HL2
  go_wp2_with fail
  clear p3
  go_loopw [21] (WdRel w o.needs at_ beg F n1 A8 c8) (fun i _ => n4 - (intOf i).toNat)
  case atStart => exact ⟨0, o.code, Nat.zero_le _, rfl, l1, HSM.out.word, HF.out, HO9.out, HX8.out⟩
  case round =>
    obtain ⟨k, out, hk, rfl, hlen, hwd, hrun, ho, hx⟩ := hrel
    have HO := hide ho
    have HX := hide hx
    have HRUN := hide hrun
    have HWD := hide hwd
    clear ho hx hrun hwd HF HO9 HX8
    by_cases hlt : k < n4
    · have hkl : k < o.needs.length := by omega
      have HR4 := hide HRD.out.needs
      dsimp only at HR4
      obtain ⟨b4, o4, rfl, -⟩ := HR4.out.addr (by omega) (by omega)
      have q0 := HX.out.cell (Reads.elem neC_len HR4.out k hkl (by omega) 0 (by omega) rfl)
      have q1 := HX.out.cell (Reads.elem neC_len HR4.out k hkl (by omega) 1 (by omega) rfl)
      have q2 := HX.out.cell (Reads.elem neC_len HR4.out k hkl (by omega) 2 (by omega) rfl)
      rw [Nat.add_zero] at q0
      have hok := HCK.out.needs _ (List.getElem_mem hkl)
      have hnl := nameB_len hok.1
      have HRU := HRUN
      rw [List.drop_eq_getElem_cons hkl] at HRU
      generalize o.needs[k] = x at *
      obtain ⟨pos, nm, kind⟩ := x
      obtain ⟨-, hk1, hk2, hp1, hp2, hp3⟩ := hok
      dsimp only at q0 q1 q2 hnl hk1 hk2 hp1 hp2 hp3
      obtain ⟨j, rfl⟩ : ∃ j : Nat, pos = 4 * (j : Int) := ⟨(pos / 4).toNat, by omega⟩
      have hj : j < n1 := by omega
      have hl1 := (HM.out.ext HX.out).look nm (by simp only [maxLen]; omega)
      have hb9 := Blk.new wr neT #[.int .i64 (4 * (j : Int)), .string (str nm), .int .i64 kind]
      have hx9 := (Ext.refl wr).alloc (.cells #[.int .i64 (4 * (j : Int)), .string (str nm), .int .i64 kind] neT)
      have hl1 := (HM.out.ext (HX.out.trans hx9)).look nm (by simp only [maxLen]; omega)
      have HO9 := hide (hx9.own HO.out)
      have HX9 := hide (HX.out.trans hx9)
      have HATN := hide (HAT.out nm)
      clear hx9 HO HX HRUN
      go_upto_region 5 with fail
      generalize wr.alloc (.cells #[.int .i64 (4 * (j : Int)), .string (str nm), .int .i64 kind] neT) = W9 at *
      generalize wr.heap.size = gn at *
      clear q0 q1 q2
      have HB9 := hide hb9
      have b0 : W9.cell? ⟨gn, 0, none⟩ = some (.int .i64 (4 * (j : Int))) := hb9.cell 0
      have b1 : W9.cell? ⟨gn, 1, none⟩ = some (.string (str nm)) := hb9.cell 1
      have b2 : W9.cell? ⟨gn, 2, none⟩ = some (.int .i64 kind) := hb9.cell 2
      clear hb9
      cases hlook : at_ nm with
      | none =>
        have HFN := hide (show F = none by rw [← HRU.out]; exact wordsP_none hlook)
        rw [hlook] at hl1
        clear hlook
        go_wp2_with fail
        exact bodyPost_ret (v := .tuple #[.slice none 0 0, .int .i64 4]) (by simp [results, Tryd.results32, go_sem]) rfl ⟨HX9.out, .inr ⟨HFN.out, rfl⟩⟩
      | some tz =>
        obtain ⟨ht1, ht2⟩ := HATN.out tz hlook
        have HRS := hide (show wordsP at_ beg (o.needs.drop (k + 1)) (out.set j (placeI (out.getD j 0 : Nat) kind (beg + 4 * (j : Int)) tz).toNat) = F by
          have h1 := HRU.out
          rw [wordsP_some hlook] at h1
          rwa [show (4 * (j : Int)).toNat / 4 = j by omega] at h1)
        rw [hlook] at hl1
        obtain ⟨g8, rfl, hg81, hg82, hg83, hg84⟩ := own_addr HO9.out (by omega)
        have hjl : j < (codeV out).length := by rw [codeV_len, hlen]; exact hj
        obtain ⟨x0, fx0⟩ := own_cell HO9.out j (List.getElem?_eq_getElem hjl)
        have hxj : out.getD j 0 < 4294967296 := HWD.out _ (by rw [List.getD_eq_getElem?_getD, List.getElem?_eq_getElem (by omega)]; exact List.getElem_mem _)
        rw [show (codeV out)[j] = .int .u32 ((out.getD j 0 : Nat) : Int) by simp [codeV, List.getD_eq_getElem?_getD, List.getElem?_eq_getElem (show j < out.length by omega)]] at x0
        have HCS := hide (codeV_set out j (placeI (out.getD j 0 : Nat) kind (beg + 4 * (j : Int)) tz).toNat)
        generalize out.getD j 0 = xw at *
        have HPL := hide (fun W : World => place_ok (xw : Int) kind (beg + 4 * (j : Int)) tz W (by omega) (by omega) hk1 hk2 (by omega) (by omega) ht1 ht2)
        have hpb := placeI_bd (xw : Int) kind (beg + 4 * (j : Int)) tz (by omega) (by omega) ht1 ht2
        obtain ⟨pz, hpz⟩ : ∃ pz : Nat, placeI (xw : Int) kind (beg + 4 * (j : Int)) tz = (pz : Int) := ⟨_, (Int.toNat_of_nonneg hpb.1).symm⟩
        rw [hpz] at HRS HCS HPL hpb
        rw [Int.toNat_natCast] at HRS HCS
        have hq4 : (4 * (j : Int)).tdiv 4 = (j : Int) := by rw [Int.tdiv_eq_ediv_of_nonneg (by omega)]; omega
        clear hlook hpz HATN HRU
        go_upto_region 8 with fail
        go_quiet ((go_at_call 41; exact Calls.quiet_of_same (HPL.out _)))
        have HXQ := hide ((Ext.refl W9).drewN nq)
        have HO10 := hide (HXQ.out.own HO9.out)
        have HX10 := hide (HX9.out.trans HXQ.out)
        have hb10 := HB9.out.ext HXQ.out
        clear x0 fx0 b0 b1 b2 hl1 HO9 HX9 HB9 HPL HXQ
        generalize W9.drewN nq = W10 at *
        have b0 : W10.cell? ⟨gn, 0, none⟩ = some (.int .i64 (4 * (j : Int))) := hb10.cell 0
        obtain ⟨x0, fx0⟩ := own_cell HO10.out j (List.getElem?_eq_getElem hjl)
        have ho11 := own_set HO10.out j (.int .u32 (pz : Int))
        rw [HCS.out] at ho11
        have HO11 := hide ho11
        have HX11 := hide (HX10.out.setCell (p := ⟨g8, j, none⟩) hg81 (.int .u32 (pz : Int)))
        clear ho11 hb10
        go_wp2_with fail
        go_roundw
        case rel => exact ⟨k + 1, out.set j pz, by omega, by go_num, by rw [List.length_set, hlen], (fun x hx => by
          rcases List.mem_or_eq_of_mem_set hx with h | h
          · exact HWD.out x h
          · rw [h]; omega), HRS.out, HO11.out, HX11.out⟩
        case measure => simp [intOf]; omega
    · obtain rfl : k = n4 := by omega
      have HFN := hide (show F = some out by rw [← HRUN.out, List.drop_of_length_le (by omega)]; rfl)
      clear HRUN
      go_wp2_with fail
      exact bodyPost_ret (v := .tuple #[.slice A8 n1 c8, .int .i64 0]) (by simp [results, Tryd.results32, go_sem]) rfl ⟨HX.out, .inl ⟨out, A8, c8, HFN.out, hlen, HWD.out, rfl, HO.out⟩⟩
end Go.Proofs.YtljlniehbenefaaDoor
