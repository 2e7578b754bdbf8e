/- Raw parts as arguments, the contract of object for them; lists of them, the contract of objects. -/
import Derived.Test.YtljlniehbenefaaDoorObObj
import Derived.Test.YtljlniehbenefaaDoorBdP
namespace Go.Proofs.YtljlniehbenefaaDoor
open Go.RowKit
set_option linter.unusedVariables false

theorem nm_ok_bounds {o : ObD} (h : ChkOk o) {n : NmD} (hn : n ∈ o.names) : 1 ≤ n.wh ∧ n.wh ≤ 2 ∧ 0 ≤ n.pos := by
  obtain ⟨-, h2, h3, -⟩ := h.names n hn
  unfold sizeW at h3
  split at h3
  · omega
  · split at h3
    · omega
    · omega
abbrev paT : TypeId := 76
/-- A raw part that can be read. -/
structure PartRd (w : World) (v : ObV) (code : List Nat) (data : Bs) (nms nds : List Int) : Prop where
  r1 : Reads w w.heap.size 1 v.A1 v.n1 (codeV code)
  r2 : Reads w w.heap.size 1 v.A2 v.n2 (bytesV data)
  r3 : Reads w w.heap.size 1 v.A3 v.n3 (intsV nms)
  r4 : Reads w w.heap.size 1 v.A4 v.n4 (intsV nds)
  c1 : v.n1 ≤ v.c1 ∧ v.c1 ≤ maxLen ∧ (v.A1 = none → v.n1 = 0)
  c2 : v.n2 ≤ v.c2 ∧ v.c2 ≤ maxLen ∧ (v.A2 = none → v.n2 = 0)
  c3 : v.n3 ≤ maxLen
  c4 : v.n4 ≤ maxLen
  word : ∀ x ∈ code, x < 4294967296
  z3 : ∀ z ∈ nms, -9223372036854775808 ≤ z ∧ z ≤ 9223372036854775807
  z4 : ∀ z ∈ nds, -9223372036854775808 ≤ z ∧ z ≤ 9223372036854775807
theorem PartRd.ext {w w' : World} {v : ObV} {code : List Nat} {data : Bs} {nms nds : List Int} (h : PartRd w v code data nms nds) (hx : Ext w w') : PartRd w' v code data nms nds :=
  ⟨(hx.reads h.r1 (Nat.le_refl _)).more hx.size, (hx.reads h.r2 (Nat.le_refl _)).more hx.size, (hx.reads h.r3 (Nat.le_refl _)).more hx.size, (hx.reads h.r4 (Nat.le_refl _)).more hx.size, h.c1, h.c2, h.c3, h.c4, h.word, h.z3, h.z4⟩
theorem object_ok {w : World} {v : ObV} {code : List Nat} {data : Bs} {nms nds : List Int} (h : PartRd w v code data nms nds) :
    Calls Tryd.prog 23 #[.agg v.cells] w fun e w' => ∃ v' : ObV, e = .returned (.agg v'.cells) ∧ ObOwn w' w.heap.size (objR code data nms nds) v' ∧ Ext w w' :=
  object_any code data nms nds v.A1 v.n1 v.c1 v.A2 v.n2 v.c2 v.A3 v.n3 v.c3 v.A4 v.n4 v.c4 w h.r1 h.c1.1 h.c1.2.1 h.c1.2.2 h.r2 h.c2.1 h.c2.2.1 h.c2.2.2 h.r3 h.c3 h.z3 h.r4 h.c4 h.z4
theorem chk_sm {o : ObD} (h : ChkOk o) (hc : ∀ x ∈ o.code, x < 4294967296) : ObSm o := by
  refine ⟨Nat.le_trans h.code (by omega), Nat.le_trans h.data (by omega), Nat.le_trans h.nms (by omega), Nat.le_trans h.nds (by omega), hc, fun n hn => ?_, fun n hn => ?_⟩
  · have h1 := nameB_len (h.names n hn).1
    have h2 := nm_ok_bounds h hn
    have h3 := (h.names n hn).2.2.1
    have h4 := sizeW_lt h n.wh
    omega
  · have h1 := nameB_len (h.needs n hn).1
    obtain ⟨-, h2, h3, h4, h5, -⟩ := h.needs n hn
    have h6 := h.code
    omega
theorem objR_word {code : List Nat} (h : ∀ x ∈ code, x < 4294967296) (data : Bs) (nms nds : List Int) : ∀ x ∈ (objR code data nms nds).code, x < 4294967296 := fun x hx => h x (List.mem_of_mem_take hx)
/-- A raw part in memory. -/
structure RawP where
  v : ObV
  code : List Nat
  data : Bs
  nms : List Int
  nds : List Int
def RawP.o (r : RawP) : ObD := objR r.code r.data r.nms r.nds
def rawC (r : RawP) : List Value := obC r.v
theorem rawC_len (r : RawP) : (rawC r).length = 4 := rfl
structure PartsRd (w : World) (A : Option Addr) (n : Nat) (l : List RawP) : Prop where
  row : Reads w w.heap.size 4 A n (l.flatMap rawC)
  each : ∀ r ∈ l, PartRd w r.v r.code r.data r.nms r.nds
  nb : n ≤ maxLen
theorem ob_info : (Tryd.prog.info? 39).map (fun i => (i.zero, i.size, i.bytes)) = some (some (.agg #[.slice none 0 0, .slice none 0 0, .slice none 0 0, .slice none 0 0]), 4, 96) := by kernel_rfl
/-- Objects made so far. -/
structure ObsSt (w : World) (acc : List ObX) (A : Option Addr) (c : Nat) (wr : World) : Prop where
  row : wr.ownsRow w.heap.size obT 4 (.slice A acc.length c) acc.length (acc.flatMap obXC)
  each : ∀ p ∈ acc, ObOwn wr w.heap.size p.1 p.2
  ext : Ext w wr
section
variable {w wr w' : World} {acc : List ObX} {A : Option Addr} {c : Nat}
theorem ObsSt.to (h : ObsSt w acc A c wr) (hx : Ext wr w') : ObsSt w acc A c w' := ⟨hx.own h.row, fun p hp => (h.each p hp).ext hx, h.ext.trans hx⟩
theorem ObsSt.more (h : ObsSt w acc A c wr) {p : ObX} {A8 : Option Addr} {c8 : Nat} (hp : ObOwn wr w.heap.size p.1 p.2) (ho : w'.ownsRow w.heap.size obT 4 (.slice A8 (acc.length + 1) c8) (acc.length + 1) (acc.flatMap obXC ++ obXC p)) (hg : wr.grownBy w' (Value.ownBlock (.slice A acc.length c))) : ObsSt w (acc ++ [p]) A8 c8 w' := by
  have hlen : (acc ++ [p]).length = acc.length + 1 := by simp
  refine ⟨by rw [hlen, List.flatMap_append, List.flatMap_cons, List.flatMap_nil, List.append_nil]; exact ho, fun q hq => ?_, h.ext.grown hg (fun k hk => (h.row.lt k hk).1)⟩
  have h0 : ObOwn wr w.heap.size q.1 q.2 := by
    rcases List.mem_append.1 hq with hq | hq
    · exact h.each q hq
    · rw [List.mem_singleton] at hq; rw [hq]; exact hp
  exact ⟨own_keptB h0.code hg (fun j hj => own_own_ne h0.code h.row (by decide) j hj), own_keptB h0.data hg (fun j hj => own_own_ne h0.data h.row (by decide) j hj),
    own_keptB h0.names hg (fun j hj => own_own_ne h0.names h.row (by decide) j hj), own_keptB h0.needs hg (fun j hj => own_own_ne h0.needs h.row (by decide) j hj)⟩
theorem ObsSt.good (h : ObsSt w acc A c wr) (hck : ∀ p ∈ acc, ChkOk p.1) (hsm : ∀ p ∈ acc, ObSm p.1) : Good wr A acc.length acc := ⟨rfl, Reads.of_own h.row, fun p hp => (h.each p hp).rd, hck, hsm⟩
end
def ObjsRel (w : World) (l : List RawP) (v3 v8 : Value) (wr : World) : Prop :=
  ∃ (k : Nat) (acc : List ObX) (A : Option Addr) (c : Nat), k ≤ l.length ∧ v8 = .int .i64 k ∧ v3 = .slice A acc.length c ∧ acc.map Prod.fst = (l.take (min k 6)).map RawP.o ∧ ObsSt w acc A c wr
set_option maxHeartbeats 8000000 in
set_option maxRecDepth 100000 in
theorem objects_any (A : Option Addr) (n c : Nat) (l : List RawP) (w : World) (h : PartsRd w A n l) :
    Calls Tryd.prog 8 #[.slice A n c] w fun e w' => ∃ acc A' c', e = .returned (.slice A' (List.length acc) c') ∧ acc.map Prod.fst = (l.take 6).map RawP.o ∧ ObsSt w acc A' c' w' := by
  obtain ⟨i0, hi0, hz0, hz1, hz2⟩ := info_parts ob_info
  have hl : l.length = n := flat_len rawC_len (by omega) h.row
  have hnb := h.nb
  unfold maxLen at hnb
  have HP := hide h
  clear h
  go_enter Tryd.func8, Tryd.ntmps8
  go_wp2_with fail
  go_loopw [3, 8] (ObjsRel w l) (fun _ i _ => n - (intOf i).toNat)
  case atStart => exact ⟨0, [], none, 0, Nat.zero_le _, rfl, rfl, rfl, World.ownsRow_nil _ _ _ _, (fun p hp => by cases hp), Ext.refl _⟩
  case round =>
    obtain ⟨k, acc, A3, c3, hk, rfl, rfl, hacc, hst⟩ := hrel
    have HST := hide hst
    have HACC := hide hacc
    have hal : acc.length ≤ 6 := by
      have := congrArg List.length hacc
      rw [List.length_map, List.length_map, List.length_take] at this
      omega
    clear hst hacc
    by_cases hlt : k < n
    · have hkl : k < l.length := by omega
      obtain ⟨b, off, rfl, -⟩ := HP.out.row.addr (by omega) (by omega)
      have q0 := HST.out.ext.cell (Reads.elem rawC_len HP.out.row k hkl (by omega) 0 (by omega) rfl)
      have q1 := HST.out.ext.cell (Reads.elem rawC_len HP.out.row k hkl (by omega) 1 (by omega) rfl)
      have q2 := HST.out.ext.cell (Reads.elem rawC_len HP.out.row k hkl (by omega) 2 (by omega) rfl)
      have q3 := HST.out.ext.cell (Reads.elem rawC_len HP.out.row k hkl (by omega) 3 (by omega) rfl)
      rw [Nat.add_zero] at q0
      have hpr := HP.out.each l[k] (List.getElem_mem hkl)
      have HTK := hide (show k < 6 → (l.take (min (k + 1) 6)).map RawP.o = (l.take (min k 6)).map RawP.o ++ [l[k].o] from fun h6 => by
        rw [Nat.min_eq_left (by omega), Nat.min_eq_left (by omega), List.take_succ_eq_append_getElem hkl, List.map_append]; rfl)
      have HTK2 := hide (show ¬ k < 6 → (l.take (min (k + 1) 6)).map RawP.o = (l.take (min k 6)).map RawP.o from fun h6 => by
        rw [Nat.min_eq_right (by omega), Nat.min_eq_right (by omega)])
      generalize l[k] = r at *
      obtain ⟨⟨A1, n1, c1, A2, n2, c2, A4, n4, c4, A5, n5, c5⟩, code, data, nms, nds⟩ := r
      dsimp only at q0 q1 q2 q3 hpr
      have hb9 := Blk.new wr paT #[.slice A1 n1 c1, .slice A2 n2 c2, .slice A4 n4 c4, .slice A5 n5 c5]
      have hx9 := (Ext.refl wr).alloc (.cells #[.slice A1 n1 c1, .slice A2 n2 c2, .slice A4 n4 c4, .slice A5 n5 c5] paT)
      have HST9 := hide (HST.out.to hx9)
      have HOB := hide (object_ok ((hpr.ext HST.out.ext).ext hx9))
      clear hx9 HST hpr
      go_upto_region 5 with fail
      generalize wr.alloc (.cells #[.slice A1 n1 c1, .slice A2 n2 c2, .slice A4 n4 c4, .slice A5 n5 c5] paT) = W9 at *
      generalize wr.heap.size = gp at *
      have p0 : W9.cell? ⟨gp, 0, none⟩ = some (.slice A1 n1 c1) := hb9.cell 0
      have p1 : W9.cell? ⟨gp, 1, none⟩ = some (.slice A2 n2 c2) := hb9.cell 1
      have p2 : W9.cell? ⟨gp, 2, none⟩ = some (.slice A4 n4 c4) := hb9.cell 2
      have p3 : W9.cell? ⟨gp, 3, none⟩ = some (.slice A5 n5 c5) := hb9.cell 3
      clear q0 q1 q2 q3 hb9
      by_cases h6 : k < 6
      · have HT := hide (HTK.out h6)
        have HHS := hide HST9.out.ext.size
        go_wp2_with fail
        refine HOB.out.mono ?_
        rintro e w6 ⟨u, rfl, hoo, hx6⟩
        obtain ⟨B1, m1, d1, B2, m2, d2, B3, m3, d3, B4, m4, d4⟩ := u
        have hown : ObOwn w6 w.heap.size (objR code data nms nds) ⟨B1, m1, d1, B2, m2, d2, B3, m3, d3, B4, m4, d4⟩ := ⟨own_mono hoo.code HHS.out, own_mono hoo.data HHS.out, own_mono hoo.names HHS.out, own_mono hoo.needs HHS.out⟩
        have hxa := (Ext.refl w6).alloc (.cells #[.slice B1 m1 d1, .slice B2 m2 d2, .slice B3 m3 d3, .slice B4 m4 d4] obT)
        have HOWN := hide (hown.ext hxa)
        have HSTA := hide ((HST9.out.to hx6).to hxa)
        have HRW := hide ((Blk.new w6 obT #[.slice B1 m1 d1, .slice B2 m2 d2, .slice B3 m3 d3, .slice B4 m4 d4]).rowsF' 1 4 rfl)
        have HL1 := hide (show acc.length + 1 ≤ maxLen by simp only [maxLen]; omega)
        have HL2 := hide (show (acc.length + 1) * 96 ≤ 140737488355328 by omega)
        have HON := hide (show ∀ u ∈ [Value.slice B1 m1 d1, .slice B2 m2 d2, .slice B3 m3 d3, .slice B4 m4 d4], u.oneCell' = true by simp [Value.oneCell'])
        clear hoo hx6 hown hxa p0 p1 p2 p3 HOB HST9
        simp only [ObV.cells]
        go_wp2_with (at_builtin; refine wpList_append_any _ rfl (.tmp 15) (.tmp 18) 23 rfl w.heap.size obT i0 _ 4 96 Tryd.underlying23 hi0 hz0 hz1 hz2 rfl (by decide) (.slice A3 acc.length c3) acc.length (acc.flatMap obXC) rfl HSTA.out.row _ _ 1 1 [.slice B1 m1 d1, .slice B2 m2 d2, .slice B3 m3 d3, .slice B4 m4 d4] rfl HRW.out HON.out HL1.out HL2.out HSTA.out.ext.size ?_; intro A8 c8 w8 ho8 hg8 ha8; have HSTN := hide (ObsSt.more (p := (objR code data nms nds, ⟨B1, m1, d1, B2, m2, d2, B3, m3, d3, B4, m4, d4⟩)) HSTA.out HOWN.out ho8 hg8))
        clear ho8 hg8 ha8
        go_roundw
        case rel => exact ⟨k + 1, acc ++ [(objR code data nms nds, ⟨B1, m1, d1, B2, m2, d2, B3, m3, d3, B4, m4, d4⟩)], A8, c8, by omega, by go_num, by simp, by rw [HT.out, List.map_append, HACC.out]; rfl, HSTN.out⟩
        case measure => simp [intOf]; omega
      · have HT := hide (HTK2.out h6)
        clear p0 p1 p2 p3
        go_wp2_with fail
        go_roundw
        case rel => exact ⟨k + 1, acc, A3, c3, by omega, by go_num, rfl, by rw [HT.out, HACC.out], HST9.out⟩
        case measure => simp [intOf]; omega
    · obtain rfl : k = n := by omega
      have HFN := hide (show acc.map Prod.fst = (l.take 6).map RawP.o by
        rw [HACC.out]
        congr 1
        rcases Nat.le_total k 6 with h | h
        · rw [Nat.min_eq_left h, List.take_of_length_le (by omega), List.take_of_length_le (by omega)]
        · rw [Nat.min_eq_right h])
      go_wp2_with fail
      go_ret
      exact ⟨acc, A3, c3, rfl, HFN.out, HST.out⟩
end Go.Proofs.YtljlniehbenefaaDoor
