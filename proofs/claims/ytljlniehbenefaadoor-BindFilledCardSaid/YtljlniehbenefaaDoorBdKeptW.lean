/- The walk of BindKept. -/
import Derived.Test.YtljlniehbenefaaDoorBdApartW
import Derived.Test.YtljlniehbenefaaDoorBdByL
import Derived.Deep.QuietTactic
import Derived.BigQuiet
import Derived.Lib.EndianBits
namespace Go.Proofs.YtljlniehbenefaaDoor
open Go.RowKit
set_option linter.unusedVariables false

set_option maxHeartbeats 4000000 in
set_option maxRecDepth 100000 in
theorem kclos_any (x : NeD) (k gk : Nat) (w : World) (hk : k ≤ 1000) (hc : w.cell? ⟨gk, 0, none⟩ = some (.int .i64 (k : Int))) :
    Calls Tryd.prog 19 #[.agg #[.int .i64 x.pos, .string (str x.name), .int .i64 x.kind], .pointer (some ⟨gk, 0, none⟩)] w fun e w' => e = .returned (.bool (decide (x.pos = 4 * (k : Int)))) ∧ Ext w w' := by
  obtain ⟨pos, nm, kind⟩ := x
  have hx := (Ext.refl w).alloc (.cells #[.int .i64 pos, .string (str nm), .int .i64 kind] neT)
  have HX := hide hx
  have hb := Blk.new w neT #[.int .i64 pos, .string (str nm), .int .i64 kind]
  have hc2 := hx.cell hc
  clear hx hc
  go_enter Tryd.func19, Tryd.ntmps19
  go_upto_region 1 with fail
  generalize w.alloc (.cells #[.int .i64 pos, .string (str nm), .int .i64 kind] neT) = W at *
  generalize w.heap.size = g at *
  have p0 : W.cell? ⟨g, 0, none⟩ = some (.int .i64 pos) := hb.cell 0
  clear hb
  by_cases h : pos = 4 * (k : Int)
  · have HD := hide (decide_eq_true h)
    have t1 : (pos == 4 * (k : Int)) = true := by simpa using h
    clear h
    go_wp2_with fail
    go_ret
    exact ⟨by dsimp only; rw [HD.out]; rfl, HX.out⟩
  · have HD := hide (decide_eq_false h)
    have t1 : (pos == 4 * (k : Int)) = false := by simpa using h
    clear h
    go_wp2_with fail
    go_ret
    exact ⟨by dsimp only; rw [HD.out]; rfl, HX.out⟩
def IxRel (w : World) (l : List NeD) (q : NeD → Bool) (v8 : Value) (wr : World) : Prop := ∃ i : Nat, i ≤ l.length ∧ v8 = .int .i64 i ∧ (∀ x ∈ l.take i, q x = false) ∧ Ext w wr
set_option maxHeartbeats 4000000 in
set_option maxRecDepth 100000 in
theorem index_needs (A : Option Addr) (n c B : Nat) (l : List NeD) (k gk : Nat) (w : World) (hr : Reads w B 3 A n (l.flatMap neC)) (hB : B ≤ w.heap.size) (hn : n ≤ 1000) (hk : k ≤ 1000) (hc : w.cell? ⟨gk, 0, none⟩ = some (.int .i64 (k : Int))) :
    Calls Tryd.prog 34 #[.slice A n c, .func (.func 19) #[] #[.pointer (some ⟨gk, 0, none⟩)]] w fun e w' => ∃ z : Int, e = .returned (.int .i64 z) ∧ -1 ≤ z ∧ decide (0 ≤ z) = l.any (fun x => decide (x.pos = 4 * (k : Int))) ∧ Ext w w' := by
  have hl : l.length = n := flat_len neC_len (by omega) hr
  have HR := hide hr
  have HC := hide hc
  clear hr hc
  go_enter Tryd.func34, Tryd.ntmps34
  go_wp2_with fail
  go_loopw [8] (IxRel w l (fun x => decide (x.pos = 4 * (k : Int)))) (fun i _ => n - (intOf i).toNat)
  case atStart => exact ⟨0, Nat.zero_le _, rfl, by simp, Ext.refl _⟩
  case round =>
    obtain ⟨i, hi, rfl, hno, hx⟩ := hrel
    have HNO := hide hno
    have HX := hide hx
    clear hno hx
    by_cases hlt : i < n
    · have hil : i < l.length := by omega
      obtain ⟨b, off, rfl, -⟩ := HR.out.addr (by omega) (by omega)
      have q0 := HX.out.cell (Reads.elem neC_len HR.out i hil (by omega) 0 (by omega) rfl)
      have q1 := HX.out.cell (Reads.elem neC_len HR.out i hil (by omega) 1 (by omega) rfl)
      have q2 := HX.out.cell (Reads.elem neC_len HR.out i hil (by omega) 2 (by omega) rfl)
      rw [Nat.add_zero] at q0
      have HM := hide (List.getElem_mem hil)
      have HT := hide (show (decide (l[i].pos = 4 * (k : Int)) = false) → ∀ x ∈ l.take (i + 1), decide (x.pos = 4 * (k : Int)) = false from fun h x hx => by
        rw [List.take_succ_eq_append_getElem hil] at hx
        rcases List.mem_append.1 hx with hx | hx
        · exact HNO.out x hx
        · rw [List.mem_singleton] at hx; rw [hx]; exact h)
      have HCL := hide (kclos_any l[i] k gk wr hk (HX.out.cell HC.out))
      generalize l[i] = x at *
      obtain ⟨pos, nm, kind⟩ := x
      dsimp only at q0 q1 q2 HT HCL
      go_upto_region 4 with fail
      by_cases hp : pos = 4 * (k : Int)
      · rw [decide_eq_true hp] at HCL
        have HANY := hide (show l.any (fun x => decide (x.pos = 4 * (k : Int))) = true from List.any_eq_true.2 ⟨_, HM.out, by simpa using hp⟩)
        clear hp HT
        go_wp2_with fail
        refine HCL.out.mono ?_
        rintro e w5 ⟨rfl, hx5⟩
        go_wp2_with fail
        go_ret
        exact ⟨(i : Int), rfl, by omega, by rw [HANY.out]; simp, HX.out.trans hx5⟩
      · rw [decide_eq_false hp] at HCL HT
        have HT2 := hide (HT.out rfl)
        clear hp HT
        go_wp2_with fail
        refine HCL.out.mono ?_
        rintro e w5 ⟨rfl, hx5⟩
        have HX5 := hide (HX.out.trans hx5)
        go_wp2_with fail
        go_roundw
        case rel => exact ⟨i + 1, by omega, by go_num, HT2.out, HX5.out⟩
        case measure => simp [intOf]; omega
    · obtain rfl : i = n := by omega
      have HANY := hide (show l.any (fun x => decide (x.pos = 4 * (k : Int))) = false by
        rw [List.any_eq_false]
        intro x hx
        have h1 : decide (x.pos = 4 * (k : Int)) = false := HNO.out x (by rw [List.take_of_length_le (by omega)]; exact hx)
        rw [h1]; simp)
      go_wp2_with fail
      go_ret
      exact ⟨-1, rfl, by omega, by rw [HANY.out]; rfl, HX.out⟩
set_option maxHeartbeats 4000000 in
set_option maxRecDepth 100000 in
theorem contains_needs (A : Option Addr) (n c B : Nat) (l : List NeD) (k gk : Nat) (w : World) (hr : Reads w B 3 A n (l.flatMap neC)) (hB : B ≤ w.heap.size) (hn : n ≤ 1000) (hk : k ≤ 1000) (hc : w.cell? ⟨gk, 0, none⟩ = some (.int .i64 (k : Int))) :
    Calls Tryd.prog 18 #[.slice A n c, .func (.func 19) #[] #[.pointer (some ⟨gk, 0, none⟩)]] w fun e w' => e = .returned (.bool (l.any fun x => decide (x.pos = 4 * (k : Int)))) ∧ Ext w w' := by
  have HI := hide (index_needs A n c B l k gk w hr hB hn hk hc)
  generalize (l.any fun x => decide (x.pos = 4 * (k : Int))) = an at *
  clear hr hc
  go_enter Tryd.func18, Tryd.ntmps18
  go_wp2_with fail
  refine HI.out.mono ?_
  rintro e w1 ⟨z, rfl, hz, hd, hx⟩
  have HX := hide hx
  have HD := hide hd
  clear hd hx
  go_wp2_with fail
  go_ret
  exact ⟨by rw [← HD.out]; rfl, HX.out⟩
theorem join4 (z0 z1 z2 z3 : Nat) (h0 : z0 < 256) (h1 : z1 < 256) (h2 : z2 < 256) (h3 : z3 < 256) :
    bits .or .u32 (z0 : Int) ((z1 : Int) * 256) = (z0 : Int) + (z1 : Int) * 256 ∧ bits .or .u32 ((z0 : Int) + (z1 : Int) * 256) ((z2 : Int) * 65536) = (z0 : Int) + (z1 : Int) * 256 + (z2 : Int) * 65536 ∧ bits .or .u32 ((z0 : Int) + (z1 : Int) * 256 + (z2 : Int) * 65536) ((z3 : Int) * 16777216) = (z0 : Int) + (z1 : Int) * 256 + (z2 : Int) * 65536 + (z3 : Int) * 16777216 := by
  have e1 := bits_join_low .u32 32 (by decide) (fun n h₀ h₁ => by rw [IntKind.wrap_u32]; omega) 8 (z0 : Int) ((z1 : Int) * 256) (by omega) (by omega) (by omega) (by omega) (by omega) (by omega)
  have e2 := bits_join_low .u32 32 (by decide) (fun n h₀ h₁ => by rw [IntKind.wrap_u32]; omega) 16 ((z0 : Int) + (z1 : Int) * 256) ((z2 : Int) * 65536) (by omega) (by omega) (by omega) (by omega) (by omega) (by omega)
  have e3 := bits_join_low .u32 32 (by decide) (fun n h₀ h₁ => by rw [IntKind.wrap_u32]; omega) 24 ((z0 : Int) + (z1 : Int) * 256 + (z2 : Int) * 65536) ((z3 : Int) * 16777216) (by omega) (by omega) (by omega) (by omega) (by omega) (by omega)
  exact ⟨e1, e2, e3⟩
/-- The bytes of word k of part i, in the whole. -/
theorem word_at {bs : Bs} {c : Nat} {W : List Nat} (h : ∀ y, y < 4 * W.length → bs[c + y]? = (W.flatMap w4)[y]?) (k : Nat) (hk : k < W.length) (b : Nat) (hb : b < 4) : bs[c + 4 * k + b]? = (w4 W[k])[b]? := by
  rw [Nat.add_assoc, h (4 * k + b) (by omega), flat4 W k b hk hb]
theorem getD_of {bs : Bs} {i : Nat} {x : UInt8} (h : bs[i]? = some x) : bs.getD i 0 = x := by rw [List.getD_eq_getElem?_getD, h]; rfl
theorem w4_join (x : Nat) (h : x < 4294967296) : (((w4 x).getD 0 0).toNat + ((w4 x).getD 1 0).toNat * 256 + ((w4 x).getD 2 0).toNat * 65536 + ((w4 x).getD 3 0).toNat * 16777216) = x := by
  show (u8N x).toNat + (u8N (x / 256)).toNat * 256 + (u8N (x / 65536)).toNat * 65536 + (u8N (x / 16777216)).toNat * 16777216 = x
  rw [u8N_nat, u8N_nat, u8N_nat, u8N_nat]
  omega
def Kp1Rel (w3 : World) (n : Nat) (v55 : Value) (wr : World) : Prop := ∃ i : Nat, i ≤ n ∧ v55 = .int .i64 i ∧ Ext w3 wr
def Kp2Rel (w3 : World) (n gb : Nat) (ob : Array Value) (v77 : Value) (wr : World) : Prop := ∃ k : Nat, k ≤ n ∧ v77 = .int .i64 k ∧ Blk wr gb obT ob ∧ Ext w3 wr
set_option maxHeartbeats 16000000 in
set_option maxRecDepth 100000 in
theorem kept_walk (A : Option Addr) (n c : Nat) (l : List RawP) (w : World) (h : PartsRd w A n l) :
    Calls Tryd.prog 6 #[.slice A n c] w fun e w' => e = .returned (.bool true) ∧ Ext w w' := by
  have HP := hide h
  have HOB := hide (objects_any A n c l w h)
  clear h
  go_enter Tryd.func6, Tryd.ntmps6
  go_wp2_with fail
  refine HOB.out.mono ?_
  rintro e w1 ⟨ps, A1, c1, rfl, hacc, hst⟩
  have hf := facts_of HP.out hacc
  have HF := hide hf
  have HG := hide (hst.good hf.chk hf.sm)
  have HX1 := hide hst.ext
  have hn6 := hf.len
  have hfit := hf.fits
  have HFIT := hide hfit
  have HBC := hide (bytes_any A1 ps.length c1 ps w1 HG.out (by omega) hfit)
  clear hacc hst hf HOB
  go_wp2_with fail
  refine HBC.out.mono ?_
  rintro e w2 ⟨hx2, hcase⟩
  have HX2 := hide (HX1.out.trans hx2)
  have HG2 := hide (HG.out.ext hx2)
  have HSP := hide (spots_any A1 ps.length c1 ps w2 HG2.out (by omega) hfit)
  clear HBC HX1 HG
  obtain ⟨Ab, nb, cb, z, rfl, hz⟩ : ∃ Ab nb cb z, e = .returned (.tuple #[.slice Ab nb cb, .int .i64 z]) ∧ ((z = 4 ∨ z = 5) ∨ (z = 0 ∧ nb = endL ps ∧ ∃ S bs, bytesP ps S = some bs ∧ w2.ownsRow w1.heap.size 5 1 (.slice Ab nb cb) nb (bytesV bs))) := by
    rcases hcase with ⟨S, bs, Ab, cb, h1, h2, h3, rfl, h4⟩ | ⟨h1, rfl⟩ | ⟨S, h1, h2, rfl⟩
    · exact ⟨Ab, endL ps, cb, 0, rfl, .inr ⟨rfl, rfl, S, bs, h2, h4⟩⟩
    · exact ⟨none, 0, 0, 5, rfl, .inl (.inr rfl)⟩
    · exact ⟨none, 0, 0, 4, rfl, .inl (.inl rfl)⟩
  clear hx2 hcase
  have HZ := hide hz
  clear hz
  go_wp2_with fail
  refine HSP.out.mono ?_
  rintro e w3 ⟨As, cs, rfl, ho3, hx3⟩
  have HRS := hide (Reads.of_own ho3)
  have HX3 := hide (HX2.out.trans hx3)
  have HG3 := hide (HG2.out.ext hx3)
  have hx3' := hide hx3
  clear ho3 hx3 HSP HX2 HG2
  go_wp2_with fail
  refine (linked_ok w3).mono ?_
  rintro e w4x ⟨rfl, hx4⟩
  have HRS4 := hide (hx4.reads HRS.out (Nat.le_refl _))
  have HX4 := hide (HX3.out.trans hx4)
  have HG4 := hide (HG3.out.ext hx4)
  have HX24 := hide (hx3'.out.trans hx4)
  clear hx4 HRS HX3 HG3 hx3'
  rcases HZ.out with hz | ⟨rfl, rfl, S, bs, hbp, hob⟩
  case inl =>
    clear HZ
    rcases hz with rfl | rfl
    all_goals
      go_wp2_with fail
      go_ret
      exact ⟨rfl, HX4.out⟩
  case inr =>
    have HBP := hide hbp
    have HRB := hide (HX24.out.reads (Reads.of_own hob) (Nat.le_refl _))
    have hnb := own_le hob
    have HZ2 := hide HX24.out.size
    clear hbp hob HZ HX24
    obtain ⟨N, hN⟩ : ∃ N, endL ps = N := ⟨_, rfl⟩
    have HN := hide hN
    rw [hN] at hfit HRB hnb ⊢
    clear hN
    go_wp2_with fail
    go_loopw [55] (Kp1Rel w4x ps.length) (fun i _ => ps.length - (intOf i).toNat)
    case atStart => exact ⟨0, Nat.zero_le _, rfl, Ext.refl _⟩
    case round =>
      obtain ⟨i, hi, rfl, hx⟩ := hrel
      have HX := hide hx
      clear hx
      by_cases hlt : i < ps.length
      · obtain ⟨b, off, o, v, hi', rfl, hpi, hrd, hck, hsm, q0, q1, q2, q3⟩ := (HG4.out.ext HX.out).at_ i hlt
        obtain ⟨hbl, W, hW, hWl, hWb, hWd⟩ := bytesP_spec HBP.out i hi'
        have hcf := code_fits ps i hi'
        have hdf := data_fits ps i hi'
        rw [HN.out] at hbl hcf hdf
        rw [hpi] at hW hWl hWd hcf hdf
        obtain ⟨bs', os, rfl, -⟩ := HRS4.out.addr (by omega) (by omega)
        have hsl : i < (spotsL ps).length := by simp [spotsL]; omega
        have s0 := HX.out.cell (Reads.elem spC_len HRS4.out i hsl (by omega) 0 (by omega) rfl)
        have s1 := HX.out.cell (Reads.elem spC_len HRS4.out i hsl (by omega) 1 (by omega) rfl)
        rw [Nat.add_zero, show (spotsL ps)[i] = (cAt ps i, dAt ps i) by simp [spotsL]] at s0
        rw [show (spotsL ps)[i] = (cAt ps i, dAt ps i) by simp [spotsL]] at s1
        obtain ⟨B1, m1, d1, B2, m2, d2, B3, m3, d3, B4, m4, d4⟩ := v
        dsimp only at q0 q1 q2 q3 s0 s1 hW hWl hWd hcf hdf
        have hl1 : o.code.length = m1 := hrd.l1
        have hl2 : o.data.length = m2 := hrd.l2
        have hl4 : o.needs.length = m4 := hrd.l4
        have hm1 : m1 ≤ 128 := by have := hck.code; omega
        have hm4 : m4 ≤ 40 := by have := hck.nds; omega
        have hcpos : 16 ≤ cAt ps i := by unfold cAt; omega
        have hx9 := (Ext.refl wr).alloc (.cells #[.slice B1 m1 d1, .slice B2 m2 d2, .slice B3 m3 d3, .slice B4 m4 d4] obT)
        have hb9 := Blk.new wr obT #[.slice B1 m1 d1, .slice B2 m2 d2, .slice B3 m3 d3, .slice B4 m4 d4]
        have HX9 := hide (HX.out.trans hx9)
        have HRD := hide (hrd.ext hx9)
        have HSM := hide hsm
        have HCK := hide hck
        have s0 := hx9.cell s0
        have s1 := hx9.cell s1
        have HWB := hide hWb
        have HWD := hide hWd
        have HWK := hide (fun k hk => wordsP_keep _ _ W k hW hk)
        clear hrd hck hsm hpi hx9 hW hWb hWd HX
        generalize cAt ps i = ca at *
        generalize dAt ps i = da at *
        rw [hl1] at hWl hcf
        rw [hl2] at hdf
        go_upto_region 11 with fail
        generalize wr.alloc (.cells #[.slice B1 m1 d1, .slice B2 m2 d2, .slice B3 m3 d3, .slice B4 m4 d4] obT) = W9 at *
        generalize wr.heap.size = gb at *
        clear q0 q1 q2 q3
        have p0 : W9.cell? ⟨gb, 0, none⟩ = some (.slice B1 m1 d1) := hb9.cell 0
        have hb9' := hb9
        have HB9 := hide hb9
        have HS0 := hide s0
        have HS1 := hide s1
        have tca : decide ((ca : Int) < 0) = false := decide_eq_false (by omega)
        have tda : decide ((da : Int) < 0) = false := decide_eq_false (by omega)
        clear hb9 hb9'
        go_wp2_with fail
        clear s0 s1 p0 tca tda
        go_loopw [77] (Kp2Rel W9 m1 gb #[.slice B1 m1 d1, .slice B2 m2 d2, .slice B3 m3 d3, .slice B4 m4 d4]) (fun k _ => m1 - (intOf k).toNat)
        case atStart => exact ⟨0, Nat.zero_le _, rfl, HB9.out, Ext.refl _⟩
        case round =>
          obtain ⟨k, hk, rfl, hbx, hx⟩ := hrel
          have HBX := hide hbx
          have HX := hide hx
          clear hbx hx
          by_cases hlt2 : k < m1
          · have hkc : k < o.code.length := by omega
            have hR1 := HRD.out.code
            dsimp only at hR1
            obtain ⟨b1, o1, rfl, -, hcell⟩ := hR1.at1 (by omega)
            have q0 := HX.out.cell (hcell k hlt2)
            rw [show (codeV o.code)[k]'(by rw [codeV_len]; exact hkc) = .int .u32 (o.code[k] : Int) by simp [codeV]] at q0
            have p3 : wr.cell? ⟨gb, 3, none⟩ = some (.slice B4 m4 d4) := HBX.out.cell 3
            have hxk := (Ext.refl wr).alloc (.cells #[.int .i64 (k : Int)] 3)
            have hbk := Blk.new wr 3 #[.int .i64 (k : Int)]
            have HXK := hide (HX.out.trans hxk)
            have p3 := hxk.cell p3
            have hR4 := (HX.out.trans hxk).reads HRD.out.needs (Nat.le_refl _)
            dsimp only at hR4
            have hck0 : (wr.alloc (.cells #[.int .i64 (k : Int)] 3)).cell? ⟨wr.heap.size, 0, none⟩ = some (.int .i64 (k : Int)) := hbk.cell 0
            have HCT := hide (contains_needs B4 m4 d4 W9.heap.size o.needs k wr.heap.size _ hR4 ((HX.out.trans hxk).size) (by omega) (by omega) hck0)
            have HXW := hide (HSM.out.word _ (List.getElem_mem hkc))
            have HKW := hide (show (o.needs.any fun x => decide (x.pos = 4 * (k : Int))) = false → W[k]? = some o.code[k] from fun h => by
              rw [HWK.out k (fun n hn e => ?_), List.getElem?_eq_getElem hkc]
              rw [List.any_eq_false] at h
              have h1 := h n hn
              have h2 := HCK.out.needs n hn
              obtain ⟨-, -, -, h3, -, h4⟩ := h2
              apply h1
              rw [decide_eq_true_eq]
              omega)
            have hmf : ∀ (fn : Fn) (first cap : Array Value) (w : World), (Instr.makeFunc fn first cap).run Tryd.prog w = .ok (.func fn first cap) w := fun _ _ _ _ => rfl
            have HBK := hide hbk
            have HBX2 := hide (HBX.out.ext hxk)
            generalize o.code[k] = x at *
            clear hR1 hcell hR4 hck0 hxk hbk hkc
            generalize (o.needs.any fun x => decide (x.pos = 4 * (k : Int))) = an at *
            go_upto_region 16 with fail
            generalize wr.alloc (.cells #[.int .i64 (k : Int)] 3) = WK at *
            generalize wr.heap.size = gk at *
            clear q0
            go_wp2_with fail
            refine HCT.out.mono ?_
            rintro e w7 ⟨rfl, hx7⟩
            have HX7 := hide (HXK.out.trans hx7)
            have HBX7 := hide (HBX2.out.ext hx7)
            have gk0 : w7.cell? ⟨gk, 0, none⟩ = some (.int .i64 (k : Int)) := (HBK.out.ext hx7).cell 0
            have s0 := HX7.out.cell HS0.out
            have hkW : k < W.length := by omega
            obtain ⟨m, hm⟩ : ∃ m, ca + 4 * k = m := ⟨_, rfl⟩
            have hmN : m + 4 ≤ N := by omega
            have hw1 : IntKind.i64.wrap (4 * (k : Int)) = 4 * (k : Int) := by rw [IntKind.wrap_i64]; omega
            have hw2 : IntKind.i64.wrap ((ca : Int) + 4 * (k : Int)) = (m : Int) := by rw [IntKind.wrap_i64]; omega
            have hw3 : (ca : Int) + 4 * (k : Int) = (m : Int) := by omega
            have HB0 := hide (getD_of ((word_at HWB.out k hkW 0 (by omega)).trans (show (w4 W[k])[0]? = some ((w4 W[k]).getD 0 0) from rfl)))
            have HB1 := hide (getD_of ((word_at HWB.out k hkW 1 (by omega)).trans (show (w4 W[k])[1]? = some ((w4 W[k]).getD 1 0) from rfl)))
            have HB2 := hide (getD_of ((word_at HWB.out k hkW 2 (by omega)).trans (show (w4 W[k])[2]? = some ((w4 W[k]).getD 2 0) from rfl)))
            have HB3 := hide (getD_of ((word_at HWB.out k hkW 3 (by omega)).trans (show (w4 W[k])[3]? = some ((w4 W[k]).getD 3 0) from rfl)))
            rw [hm] at HB0 HB1 HB2 HB3
            have HJ := hide (show an = false → ((w4 W[k]).getD 0 0).toNat + ((w4 W[k]).getD 1 0).toNat * 256 + ((w4 W[k]).getD 2 0).toNat * 65536 + ((w4 W[k]).getD 3 0).toNat * 16777216 = x from fun h => by
              have h1 := HKW.out h
              rw [List.getElem?_eq_getElem hkW] at h1
              injection h1 with h1
              rw [h1]
              exact w4_join x HXW.out)
            generalize hwx : W[k] = wk at *
            clear hwx hx7 HXK HBX2 HBK HCT hmf
            have hRB := (HX9.out.trans HX7.out).reads HRB.out HZ2.out
            obtain ⟨bB, oB, rfl, -⟩ := hRB.at1 (by omega)
            have c0 := cells_of hRB m (by omega)
            have c1' := cells_of hRB (m + 1) (by omega)
            have c2' := cells_of hRB (m + 2) (by omega)
            have c3' := cells_of hRB (m + 3) (by omega)
            rw [show bs.getD m 0 = (w4 wk).getD 0 0 from HB0.out] at c0
            rw [HB1.out] at c1'
            rw [HB2.out] at c2'
            rw [HB3.out] at c3'
            have z0b := ((w4 wk).getD 0 0).toNat_lt
            have z1b := ((w4 wk).getD 1 0).toNat_lt
            have z2b := ((w4 wk).getD 2 0).toNat_lt
            have z3b := ((w4 wk).getD 3 0).toNat_lt
            generalize ((w4 wk).getD 0 0).toNat = z0 at *
            generalize ((w4 wk).getD 1 0).toNat = z1 at *
            generalize ((w4 wk).getD 2 0).toNat = z2 at *
            generalize ((w4 wk).getD 3 0).toNat = z3 at *
            obtain ⟨j1, j2, j3⟩ := join4 z0 z1 z2 z3 z0b z1b z2b z3b
            go_upto_region 17 with fail
            go_quiet (fail)
            have HXQ := hide ((Ext.refl w7).drewN nq)
            have HX8 := hide (HX7.out.trans HXQ.out)
            have HBX8 := hide (HBX7.out.ext HXQ.out)
            have c0 := HXQ.out.cell c0
            have c1' := HXQ.out.cell c1'
            have c2' := HXQ.out.cell c2'
            have c3' := HXQ.out.cell c3'
            clear s0 gk0 hw1 hw2 hw3 HXQ HX7 HBX7
            generalize w7.drewN nq = W8 at *
            obtain ⟨e1, he1⟩ : ∃ e1, m + 1 = e1 := ⟨_, rfl⟩
            obtain ⟨e2, he2⟩ : ∃ e2, m + 2 = e2 := ⟨_, rfl⟩
            obtain ⟨e3, he3⟩ : ∃ e3, m + 3 = e3 := ⟨_, rfl⟩
            rw [he1] at c1'
            rw [he2] at c2'
            rw [he3] at c3'
            have hi1 : (m : Int) + 1 = (e1 : Int) := by omega
            have hi2 : (m : Int) + 2 = (e2 : Int) := by omega
            have hi3 : (m : Int) + 3 = (e3 : Int) := by omega
            have hwi1 : IntKind.i64.wrap (e1 : Int) = (e1 : Int) := by rw [IntKind.wrap_i64]; omega
            have hwi2 : IntKind.i64.wrap (e2 : Int) = (e2 : Int) := by rw [IntKind.wrap_i64]; omega
            have hwi3 : IntKind.i64.wrap (e3 : Int) = (e3 : Int) := by rw [IntKind.wrap_i64]; omega
            have t4 : decide ((N : Int) < (m : Int) + 4) = false := decide_eq_false (by omega)
            have u0 : IntKind.u32.wrap (z0 : Int) = (z0 : Int) := by rw [IntKind.wrap_u32]; omega
            have u1 : IntKind.u32.wrap (z1 : Int) = (z1 : Int) := by rw [IntKind.wrap_u32]; omega
            have u2 : IntKind.u32.wrap (z2 : Int) = (z2 : Int) := by rw [IntKind.wrap_u32]; omega
            have u3 : IntKind.u32.wrap (z3 : Int) = (z3 : Int) := by rw [IntKind.wrap_u32]; omega
            have u4 : IntKind.u32.wrap ((z1 : Int) * 256) = (z1 : Int) * 256 := by rw [IntKind.wrap_u32]; omega
            have u5 : IntKind.u32.wrap ((z2 : Int) * 65536) = (z2 : Int) * 65536 := by rw [IntKind.wrap_u32]; omega
            have u6 : IntKind.u32.wrap ((z3 : Int) * 16777216) = (z3 : Int) * 16777216 := by rw [IntKind.wrap_u32]; omega
            have hN1 : e1 < N ∧ e2 < N ∧ e3 < N ∧ m < N := by omega
            obtain ⟨hN1, hN2, hN3, hN4⟩ := hN1
            cases an with
            | true =>
              go_upto_region 18 with fail
              go_quiet (fail)
              have HX9' := hide (HX8.out.trans ((Ext.refl W8).drewN nq))
              have HBX9 := hide (HBX8.out.ext ((Ext.refl W8).drewN nq))
              go_wp2_with fail
              go_roundw
              case rel => exact ⟨k + 1, by omega, by go_num, HBX9.out, HX9'.out⟩
              case measure => simp [intOf]; omega
            | false =>
              have hj := HJ.out rfl
              have hj2 : (z0 : Int) + (z1 : Int) * 256 + (z2 : Int) * 65536 + (z3 : Int) * 16777216 = (x : Int) := by omega
              clear HJ hj
              go_upto_region 18 with fail
              go_quiet (fail)
              have HX9' := hide (HX8.out.trans ((Ext.refl W8).drewN nq))
              have HBX9 := hide (HBX8.out.ext ((Ext.refl W8).drewN nq))
              go_wp2_with fail
              go_roundw
              case rel => exact ⟨k + 1, by omega, by go_num, HBX9.out, HX9'.out⟩
              case measure => simp [intOf]; omega
          · obtain rfl : k = m1 := by omega
            clear hlt2
            have s1 := HX.out.cell HS1.out
            have p1 : wr.cell? ⟨gb, 1, none⟩ = some (.slice B2 m2 d2) := HBX.out.cell 1
            have hRB := (HX9.out.trans HX.out).reads HRB.out HZ2.out
            obtain ⟨de, hde⟩ : ∃ de, da + m2 = de := ⟨_, rfl⟩
            have hj0 : Tryd.prog.info? 5 = some _ := rfl
            obtain ⟨A', hcut, hR', -⟩ := cut_mid (P := Tryd.prog) Tryd.underlying36 hj0 rfl hRB (da : Int) (de : Int) da de cb rfl rfl (by omega) (by omega) hnb.1 .i64 .i64
            have hRD2 := HX.out.reads HRD.out.data (Nat.le_refl _)
            dsimp only at hRD2
            have heq : (bs.drop da).take (de - da) = o.data := by
              apply List.ext_getElem?
              intro y
              rw [List.getElem?_take]
              by_cases hy : y < de - da
              · rw [if_pos hy, List.getElem?_drop]
                exact HWD.out y (by omega)
              · rw [if_neg hy]
                exact (List.getElem?_eq_none (by omega)).symm
            rw [bytesV_drop, bytesV_take, heq] at hR'
            have hcv : ∀ d, (convert 36 9 (.slice A' (de - da) (cb - da))).run Tryd.prog (wr.drewN d) = .ok (.string (str o.data)) (wr.drewN d) := fun d => conv_str' (P := Tryd.prog) Tryd.underlying36 Tryd.underlying5 Tryd.underlying9 (hR'.drewN d) _
            have hcu : ∀ d, (convert 36 9 (.slice B2 m2 d2)).run Tryd.prog (wr.drewN d) = .ok (.string (str o.data)) (wr.drewN d) := fun d => conv_str' (P := Tryd.prog) Tryd.underlying36 Tryd.underlying5 Tryd.underlying9 (hRD2.drewN d) _
            have hw1 : IntKind.i64.wrap ((da : Int) + (m2 : Int)) = (de : Int) := by rw [IntKind.wrap_i64]; omega
            have t1 : decide ((N : Int) < (de : Int)) = false := decide_eq_false (by omega)
            have t2 : decide (N < de) = false := decide_eq_false (by omega)
            clear hR' hRD2 hRB heq
            generalize de - da = nq' at *
            generalize cb - da = cq at *
            generalize str o.data = sd at *
            go_upto_region 21 with fail
            go_quiet (fail)
            go_wp2_with fail
            go_roundw
            case rel => exact ⟨i + 1, by omega, by go_num, (HX9.out.trans HX.out).drewN _⟩
            case measure => simp [intOf]; omega
      · obtain rfl : i = ps.length := by omega
        go_wp2_with fail
        go_ret
        exact ⟨rfl, HX4.out.trans HX.out⟩
end Go.Proofs.YtljlniehbenefaaDoor
