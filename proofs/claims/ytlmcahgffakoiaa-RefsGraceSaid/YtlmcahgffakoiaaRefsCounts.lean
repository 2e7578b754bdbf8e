/- The contracts of refs.checked and refs.Counts. -/
import Derived.Test.YtlmcahgffakoiaaRefsPlain
import Derived.Test.YtlmcahgffakoiaaTraceCode
import Derived.Test.YtlmcahgffakoiaaIntsC
import Derived.Deep.RegionHeld3
namespace Go.Proofs.Ytlmcahgffakoiaa
open Go.RowKit
set_option linter.unusedVariables false

theorem boolC_info : (Try.prog.info? 4).map (fun i => (i.zero, i.size, i.bytes)) = some (some (.bool false), 1, 1) := by kernel_rfl
theorem cnt_info : (Try.prog.info? 48).map (fun i => (i.zero, i.size, i.bytes)) = some (some (.agg #[.int .i64 0, .int .i64 0]), 2, 16) := by kernel_rfl
theorem rchecked_ok (l : List RecD) (ok : ∀ r ∈ l, r.Ok) (A : Option Addr) (n c B : Nat) (w : World) (hr : Reads w B 4 A n (recsV l)) (hB : B ≤ w.heap.size) (hn : l.length = n) (h400 : n ≤ 400) (hc : n ≤ c) :
    Calls Try.prog 15 #[.slice A n c] w fun e w' => e = .returned (.int .i64 0) ∧ Ext w w' := by
  have H := hide (encode_ok l ok A n c B w hr hB hn h400 hc)
  clear hr ok hn
  go_enter Try.func15, Try.ntmps15
  go_wp2_with fail
  refine H.out.mono ?_
  rintro e w' ⟨A', c', rfl, -, hx⟩
  go_wp2_with fail
  go_ret
  exact ⟨rfl, hx⟩
theorem cellD {w : World} {p : Addr} {v : Value} (h : w.cell? p = some v) : w.drew.cell? p = some v := h
abbrev BA (w : World) (g : Nat) (f : Nat → Bool) : Prop := Arr w g 53 64 (fun x => .bool (f x))
abbrev IA (w : World) (g : Nat) (f : Nat → Int) : Prop := Arr w g 55 64 (fun x => .int .i64 (f x))
theorem BA.set {w : World} {g : Nat} {f : Nat → Bool} (h : BA w g f) (o : Nat) (ho : o < 64) (v : Bool) : BA (w.setCell ⟨g, o, none⟩ (.bool v)) g (updN f o v) :=
  (Arr.set h o ho (.bool v)).congr (fun x _ => by unfold updN; split <;> rfl)
theorem IA.set {w : World} {g : Nat} {f : Nat → Int} (h : IA w g f) (o : Nat) (ho : o < 64) (v : Int) : IA (w.setCell ⟨g, o, none⟩ (.int .i64 v)) g (updN f o v) :=
  (Arr.set h o ho (.int .i64 v)).congr (fun x _ => by unfold updN; split <;> rfl)
def CntRel (w : World) (l : List RecD) (n g h : Nat) (i : Value) (wr : World) : Prop := ∃ k : Nat, k ≤ n ∧ i = .int .i64 k ∧ BA wr g (stS (l.take k)).there ∧ IA wr h (stS (l.take k)).held ∧ Ext w wr
def CntOut (w : World) (s : RefSt) (h : Nat) (out i : Value) (wr : World) : Prop :=
  ∃ (k : Nat) (A : Option Addr) (m c : Nat), k ≤ 64 ∧ i = .int .i64 k ∧ out = .slice A m c ∧ m ≤ 64 ∧ (cntL s k).length = m ∧ wr.ownsRow (h + 1) 48 2 (.slice A m c) m (cntsV (cntL s k)) ∧ IA wr h s.held ∧ Ext w wr ∧ h < wr.heap.size
def CntPost (w : World) (l : List RecD) (e : Ending) (w' : World) : Prop :=
  ∃ (A : Option Addr) (c n : Nat), e = .returned (.tuple #[.slice A n c, .int .i64 0]) ∧ n ≤ 64 ∧ (cntL (stS l) 64).length = n ∧ w'.ownsRow w.heap.size 48 2 (.slice A n c) n (cntsV (cntL (stS l) 64)) ∧ Ext w w'

set_option maxHeartbeats 4000000 in
set_option maxRecDepth 100000 in
theorem counts_any (l : List RecD) (ok : ∀ r ∈ l, r.Ok) (A : Option Addr) (n c B : Nat) (w : World) (hr : Reads w B 4 A n (recsV l)) (hB : B ≤ w.heap.size) (hn : l.length = n) (h400 : n ≤ 400) (hc : n ≤ c) :
    Calls Try.prog 12 #[.slice A n c] w (CntPost w l) := by
  obtain ⟨j0, hj0, hy0, hy1, hy2⟩ := info_parts cnt_info
  obtain ⟨ib, hib, -, hib1, -⟩ := info_parts boolC_info
  have HC := hide (rchecked_ok l ok A n c B w hr hB hn h400 hc)
  have HR := hide hr
  have HK := hide ok
  have HN := hide hn
  clear hr ok hn
  go_enter Try.func12, Try.ntmps12
  go_wp2_with fail
  refine HC.out.mono ?_
  rintro e w1 ⟨rfl, hx1⟩
  have HX1 := hide hx1
  clear hx1 HC
  go_upto_region 6 with fail
  obtain ⟨W, hW⟩ : ∃ W, W = (w1.alloc (.cells (List.replicate 64 (Value.bool false)).toArray 53)).alloc (.cells (List.replicate 64 (Value.int .i64 0)).toArray 55) := ⟨_, rfl⟩
  have HT := hide (show BA W w1.heap.size (fun _ => false) by rw [hW]; exact ((Blk.new _ _ _).alloc _).arr _ rfl)
  have HH := hide (show IA W (w1.heap.size + 1) (fun _ => 0) by rw [hW]; exact (Blk.new' _ _ _ (by simp)).arr _ rfl)
  have HXW := hide (show Ext w W by rw [hW]; exact (HX1.out.alloc _).alloc _)
  simp only [List.replicate] at hW
  rw [← hW]
  have hg1 : w.heap.size ≤ w1.heap.size := HX1.out.size
  clear hW HX1
  generalize w1.heap.size = g at *
  go_wp2_with fail
  go_loopw [19] (CntRel w l n g (g + 1)) (fun i _ => n - (intOf i).toNat)
  case atStart => exact ⟨0, Nat.zero_le _, rfl, HT.out, HH.out, HXW.out⟩
  case round =>
    obtain ⟨k, hk, rfl, hT, hH, hx⟩ := hrel
    clear HT HH HXW
    have HT := hide hT
    have HH := hide hH
    have HX := hide hx
    clear hT hH hx
    by_cases hlt : k < n
    · obtain ⟨b, off, rfl, hb⟩ := reads4_addr HR.out (by omega)
      have hkl : k < l.length := by rw [HN.out]; exact hlt
      obtain ⟨q0, q1, q2, q3⟩ := rec_cells (HX.out.reads HR.out hB) k hlt hkl
      obtain ⟨o1, o2, o3, o4, o5, o6, o7, o8⟩ := HK.out l[k] (List.getElem_mem hkl)
      have HS := hide (show stS (l.take (k + 1)) = stepS (stS (l.take k)) l[k] by rw [List.take_succ_eq_append_getElem hkl, stS_snoc])
      have hbd := held_bound (l.take k)
      have hbl : (l.take k).length ≤ 400 := by rw [List.length_take]; omega
      generalize l[k] = r at *
      obtain ⟨rk, rc, rt, ro'⟩ := r
      dsimp only at o1 o2 o3 o4 o5 o6 o7 o8 q0 q1 q2 q3
      obtain ⟨ro, rfl⟩ : ∃ o : Nat, ro' = (o : Int) := ⟨ro'.toNat, by omega⟩
      have hro : ro < 64 := by omega
      have hri0 : (0 : Int) ≤ (ro : Int) := by omega
      have hri1 : (ro : Int) < 64 := by omega
      have hb0 := hbd ro
      clear hbd
      generalize stS (l.take k) = s at *
      have hh1 : -400 ≤ s.held ro := by omega
      have hh2 : s.held ro ≤ 400 := by omega
      clear hb0
      have HT2 := hide (HT.out.alloc (recBox rk rc rt ro))
      have HH2 := hide (HH.out.alloc (recBox rk rc rt ro))
      have HX2 := hide (HX.out.alloc (recBox rk rc rt ro))
      have hgw : g + 1 < wr.heap.size := HH.out.lt
      go_upto_region 10 with fail
      have hbx : Blk (wr.alloc (recBox rk rc rt ro)) wr.heap.size 27 #[.int .i64 rk, .int .i64 rc, .int .i64 rt, .int .i64 ro] := Blk.new _ _ _
      generalize wr.alloc (recBox rk rc rt ro) = W2 at *
      have p3 : W2.cell? ⟨wr.heap.size, 3, none⟩ = some (.int .i64 ro) := hbx.cell 3
      clear q0 q1 q2 q3 hbx HT HH HX
      have c1 : W2.cell? ⟨g, ro, none⟩ = some (.bool (s.there ro)) := HT2.out.cell ro hro
      have c2 : W2.cell? ⟨g + 1, ro, none⟩ = some (.int .i64 (s.held ro)) := HH2.out.cell ro hro
      have c3 := HT2.out.frozen ro
      have c4 := HH2.out.frozen ro
      generalize wr.heap.size = gx at *
      by_cases h5 : rk = 5
      · subst h5
        have HST := hide (show stepS s ⟨5, rc, rt, ro⟩ = ⟨updN s.there ro true, updN s.later ro false, updN s.held ro 1⟩ from rfl)
        go_upto_region 11 with fail
        go_region_held3 (fun w' => w'.cell? ⟨gx, 3, none⟩ = some (.int .i64 ro)) (((repeat (first | assumption | refine cellD ?_ | refine far1 ?_ (by dsimp only; omega) _)); done)) (fail)
        have HT3 := hide (Arr.drew ((BA.set HT2.out ro hro true).far (p := ⟨g + 1, ro, none⟩) (by dsimp only; omega) (.int .i64 1)))
        have HH3 := hide (Arr.drew (IA.set (Arr.far HH2.out (p := ⟨g, ro, none⟩) (by dsimp only; omega) (.bool true)) ro hro 1))
        have HX3 := hide (Ext.drew ((HX2.out.setCell (p := ⟨g, ro, none⟩) hg1 (.bool true)).setCell (p := ⟨g + 1, ro, none⟩) (by dsimp only; omega) (.int .i64 1)))
        go_wp2_with fail
        go_roundw
        case rel => exact ⟨k + 1, by omega, by go_num, by rw [HS.out, HST.out]; exact HT3.out, by rw [HS.out, HST.out]; exact HH3.out, HX3.out⟩
        case measure => simp [intOf]; omega
      by_cases h6 : rk = 6
      · subst h6
        have HST := hide (show stepS s ⟨6, rc, rt, ro⟩ = ⟨s.there, s.later, updN s.held ro (s.held ro + 1)⟩ from rfl)
        have HT3 := hide (Arr.far HT2.out (p := ⟨g + 1, ro, none⟩) (by dsimp only; omega) (.int .i64 (s.held ro + 1)))
        have HH3 := hide (IA.set HH2.out ro hro (s.held ro + 1))
        have HX3 := hide (HX2.out.setCell (p := ⟨g + 1, ro, none⟩) (by dsimp only; omega) (.int .i64 (s.held ro + 1)))
        go_wp2_with fail
        go_roundw
        case rel => exact ⟨k + 1, by omega, by go_num, by rw [HS.out, HST.out]; exact HT3.out, by rw [HS.out, HST.out]; exact HH3.out, HX3.out⟩
        case measure => simp [intOf]; omega
      by_cases h7 : rk = 7
      · subst h7
        have HST := hide (show stepS s ⟨7, rc, rt, ro⟩ = ⟨s.there, s.later, updN s.held ro (s.held ro - 1)⟩ from rfl)
        have HT3 := hide (Arr.far HT2.out (p := ⟨g + 1, ro, none⟩) (by dsimp only; omega) (.int .i64 (s.held ro - 1)))
        have HH3 := hide (IA.set HH2.out ro hro (s.held ro - 1))
        have HX3 := hide (HX2.out.setCell (p := ⟨g + 1, ro, none⟩) (by dsimp only; omega) (.int .i64 (s.held ro - 1)))
        go_wp2_with fail
        go_roundw
        case rel => exact ⟨k + 1, by omega, by go_num, by rw [HS.out, HST.out]; exact HT3.out, by rw [HS.out, HST.out]; exact HH3.out, HX3.out⟩
        case measure => simp [intOf]; omega
      by_cases h9 : rk = 9
      · subst h9
        have HST := hide (show stepS s ⟨9, rc, rt, ro⟩ = ⟨updN s.there ro false, updN s.later ro false, s.held⟩ from rfl)
        have HT3 := hide (BA.set HT2.out ro hro false)
        have HH3 := hide (Arr.far HH2.out (p := ⟨g, ro, none⟩) (by dsimp only; omega) (.bool false))
        have HX3 := hide (HX2.out.setCell (p := ⟨g, ro, none⟩) hg1 (.bool false))
        go_wp2_with fail
        go_roundw
        case rel => exact ⟨k + 1, by omega, by go_num, by rw [HS.out, HST.out]; exact HT3.out, by rw [HS.out, HST.out]; exact HH3.out, HX3.out⟩
        case measure => simp [intOf]; omega
      · have HST := hide (show (stepS s ⟨rk, rc, rt, ro⟩).there = s.there ∧ (stepS s ⟨rk, rc, rt, ro⟩).held = s.held by
          simp only [stepS, h5, h6, h7, h9, if_false]
          split <;> exact ⟨rfl, rfl⟩)
        have t5 : (rk == 5) = false := by simpa using h5
        have t6 : (rk == 6) = false := by simpa using h6
        have t7 : (rk == 7) = false := by simpa using h7
        have t9 : (rk == 9) = false := by simpa using h9
        go_wp2_with fail
        go_roundw
        case rel => exact ⟨k + 1, by omega, by go_num, by rw [HS.out, HST.out.1]; exact HT2.out, by rw [HS.out, HST.out.2]; exact HH2.out, HX2.out⟩
        case measure => simp [intOf]; omega
    · obtain rfl : n = k := by omega
      have HTK := hide (show l.take n = l from List.take_of_length_le (by rw [HN.out]; exact Nat.le_refl _))
      rw [HTK.out] at HT HH
      have hbd := held_bound l
      have hgw : g + 1 < wr.heap.size := HH.out.lt
      have HBD := hide hbd
      clear hbd
      obtain ⟨s, hse⟩ : ∃ s, stS l = s := ⟨_, rfl⟩
      rw [hse] at HT HH HBD
      have HSE := hide hse
      clear hse
      obtain ⟨cs, hcs, hlen, hld⟩ := HT.out.whole
      have HCS := hide hcs
      have HLD := hide hld
      have HSZ := hide (show (Try.prog.info? 53).map (·.size) = some cs.length by rw [hlen]; kernel_rfl)
      clear hcs hlen hld
      go_wp2_with ((with_reducible refine wpList_load_mid rfl 53 (.tmp 5) rfl g 0 rfl cs _ HLD.out Try.underlying53 rfl HSZ.out ?_))
      go_loopw [9, 56] (CntOut w s (g + 1)) (fun _ i _ => 64 - (intOf i).toNat)
      case atStart => exact ⟨0, none, 0, 0, Nat.zero_le _, rfl, rfl, Nat.zero_le _, rfl, World.ownsRow_nil _ _ _ _, HH.out, HX.out, hgw⟩
      case round =>
        obtain ⟨k, A5, m5, c5, hk, rfl, rfl, hm5, hl5, ho5, hH5, hx5, hs5⟩ := hrel
        have HL5 := hide hl5
        have HO5 := hide ho5
        have HX5 := hide hx5
        have HH5 := hide hH5
        have hmk : m5 ≤ k := by have := HL5.out; rw [cntL_length] at this; have := setL_le s.there k; omega
        clear hl5 ho5 hx5 hH5
        by_cases hlt5 : k < 64
        · have hix := index_arr (P := Try.prog) Try.underlying53 Try.underlying4 rfl hib hib1 cs.toArray k hlt5 (by simpa using HCS.out k hlt5) .i64
          have HTS := hide (cntL_succ s k)
          have c2 : wr.cell? ⟨g + 1, k, none⟩ = some (.int .i64 (s.held k)) := HH5.out.cell k hlt5
          have hki : (k : Int) < 64 := by omega
          by_cases hM : s.there k = true
          · rw [hM] at hix
            have HMK := hide hM
            clear hM
            generalize s.held k = z at *
            have HB7 := hide (Blk.new wr 48 #[.int .i64 (k : Int), .int .i64 z])
            go_wp2_with (at_builtin; refine wpList_append_any _ rfl (.tmp 61) (.tmp 67) _ rfl (g + 2) 48 j0 _ 2 16 Try.underlying43 hj0 hy0 hy1 hy2 rfl (by omega) _ m5 _ rfl (HO5.out.alloc _) _ _ 1 1 _ rfl HB7.out.reads2 (by simp [Value.oneCell']) (by simp only [maxLen]; omega) (by omega) (by simp; omega) ?_; intro A8 c8 w8 ho8 hg8 ha8)
            have HO8 := hide (show w8.ownsRow (g + 1 + 1) 48 2 (.slice A8 (m5 + 1) c8) (m5 + 1) (cntsV (cntL s (k + 1))) by
              rw [HTS.out, if_pos HMK.out, cntsV_append]; exact ho8)
            have HX8 := hide (show Ext w w8 from (HX5.out.alloc _).grown hg8 (fun j hj => by have := (HO5.out.lt j hj).1; omega))
            have HH8 := hide (Arr.grown (HH5.out.alloc (.cells #[.int .i64 (k : Int), .int .i64 z] 48)) hg8 (fun e => by have := (HO5.out.lt _ e.symm).1; omega))
            have hs8 : g + 1 < w8.heap.size := by have := hg8.size; simp at this; omega
            clear ho8 hg8 ha8 hix
            go_roundw
            case rel => exact ⟨k + 1, A8, m5 + 1, c8, by omega, by go_num, rfl, by omega, by rw [HTS.out, if_pos HMK.out, List.length_append, HL5.out]; rfl, HO8.out, HH8.out, HX8.out, hs8⟩
            case measure => simp [intOf]; omega
          · have hMf : s.there k = false := by simpa using hM
            rw [hMf] at hix
            have HMK := hide hM
            clear hM hMf
            go_wp2_with fail
            go_roundw
            case rel => exact ⟨k + 1, A5, m5, c5, by omega, by go_num, rfl, hm5, by rw [HTS.out, if_neg HMK.out, List.append_nil, HL5.out], by rw [HTS.out, if_neg HMK.out, List.append_nil]; exact HO5.out, HH5.out, HX5.out, hs5⟩
            case measure => simp [intOf]; omega
        · obtain rfl : k = 64 := by omega
          go_wp2_with fail
          go_ret2
          exact ⟨A5, c5, m5, rfl, hm5, by rw [HSE.out]; exact HL5.out, by rw [HSE.out]; exact own_mono HO5.out (by omega), HX5.out⟩
end Go.Proofs.Ytlmcahgffakoiaa
