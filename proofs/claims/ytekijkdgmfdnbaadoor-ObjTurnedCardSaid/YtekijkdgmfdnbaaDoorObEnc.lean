/- The contract of obj.Encode. -/
import Derived.Test.YtekijkdgmfdnbaaDoorObWr
namespace Go.Proofs.YtekijkdgmfdnbaaDoor
open Go.RowKit
set_option linter.unusedVariables false

theorem marked_reads (w : World) (C : Array Value) (e : TypeId) (f : Nat × Nat) : Reads (w.alloc (.cells C e f)) (w.heap.size + 1) 1 (some ⟨w.heap.size, 0, none⟩) C.size C.toList := by
  refine ⟨by simp, fun _ => ⟨_, rfl, by simp, fun j u hu => ?_⟩⟩
  rw [add_lit, Nat.zero_add, cell_of_row _ w.heap.size j C e f (heap_alloc_new w _)]
  simpa using hu
theorem bytesClone_any (A : Option Addr) (n c B : Nat) (xs : List Value) (w : World) (hr : Reads w B 1 A n xs) (h1 : ∀ u ∈ xs, u.oneCell' = true) (hB : B ≤ w.heap.size) (hn : n ≤ 1000000) (hA : A = none → n = 0) :
    Calls Tryd.prog 15 #[.slice A n c] w fun e w' => ∃ A' c', e = .returned (.slice A' n c') ∧ w'.ownsRow w.heap.size 5 1 (.slice A' n c') n xs ∧ Ext w w' := by
  obtain ⟨i0, hi0, hz0, hz1, hz2⟩ := info_parts byte_info
  have q : ∀ (w : World) (a : Option Addr) (n c n' c' : Nat), (binOp .eql 23 (.slice a n c) (.slice none n' c')).run Tryd.prog w = .ok (.bool a.isNone) w := fun w a n c n' c' => Lib.run_eql_slice_nil w _ _ a n c n' c' Tryd.underlying23
  rcases A with _ | ad
  · obtain rfl := hA rfl
    have hx : xs = [] := List.eq_nil_of_length_eq_zero (by simpa using hr.1)
    subst hx
    go_enter Tryd.func15, Tryd.ntmps15
    go_wp2
    go_ret
    exact ⟨_, _, rfl, World.ownsRow_nil _ _ _ _, Ext.refl _⟩
  · have hr' := hr.alloc hB (.cells #[] 5)
    have HR := hide hr'
    clear hr hr' hA
    go_enter Tryd.func15, Tryd.ntmps15
    go_wp2_with (at_builtin; refine wpList_append_any _ rfl (.tmp 5) (.tmp 6) _ rfl w.heap.size 5 i0 _ 1 1 Tryd.underlying23 hi0 hz0 hz1 hz2 rfl (by omega) _ 0 [] rfl (World.ownsRow_made w #[] 0 (Nat.le_refl _) (Nat.zero_le _) rfl) B (some ad) n c xs rfl HR.out h1 (by simp only [maxLen]; omega) (by omega) (by simp) ?_; intro A1 c1 w1 hown1 hg1 hat1)
    go_ret
    refine ⟨A1, c1, by simp, by simpa using hown1, ?_⟩
    exact ((Ext.refl w).alloc _).grown hg1 (fun k hk => by injection hk with hk; subst hk; exact Nat.le_refl _)

/-- The bytes of a part that may be are few. -/
theorem flat_le {α : Type} {f : α → Bs} {k : Nat} : ∀ (l : List α), (∀ x ∈ l, (f x).length ≤ k) → (l.flatMap f).length ≤ l.length * k := by
  intro l
  induction l with
  | nil => intro _; simp
  | cons x l ih =>
    intro h
    rw [List.flatMap_cons, List.length_append, List.length_cons, Nat.add_mul]
    have := h x (by simp)
    have := ih (fun y hy => h y (by simp [hy]))
    omega
theorem enc_le {o : ObD} (h : ChkOk o) : (encL o).length ≤ 5000 := by
  have h1 := flat_le (f := wordL) (k := 4) o.code (fun x _ => by simp [wordL, halfL])
  have h2 := flat_le (f := nmL) (k := 17) o.names (fun n hn => by have := (nameB_len (h.names n hn).1).2; simp [nmL, textL, halfL]; omega)
  have h3 := flat_le (f := neL) (k := 17) o.needs (fun n hn => by have := (nameB_len (h.needs n hn).1).2; simp [neL, textL, halfL]; omega)
  have := h.code
  have := h.data
  have := h.nms
  have := h.nds
  simp only [encL, bodyL, signL, halfL, List.length_append, List.length_cons, List.length_nil]
  omega
structure EncSt (w : World) (cs : Array Value) (gw : Nat) (bs : Bs) (wr : World) : Prop where
  box : Blk wr w.heap.size obT cs
  out : WrAt w gw bs wr
theorem EncSt.to {w : World} {cs : Array Value} {gw : Nat} {bs : Bs} {wr wr' : World} (h : EncSt w cs gw bs wr) (hx : Ext wr wr') : EncSt w cs gw bs wr' := ⟨h.box.ext hx, h.out.to hx⟩
theorem EncSt.more {w : World} {cs : Array Value} {gw : Nat} {bs bs' : Bs} {wr wr' : World} (h : EncSt w cs gw bs wr) (h1 : WrAt w gw bs' wr') (h2 : KeepsW wr wr') : EncSt w cs gw bs' wr' := ⟨h2 _ _ _ (by decide) (by decide) h.box, h1⟩
def EncRel {α : Type} (w : World) (cs : Array Value) (gw : Nat) (E T : Bs) (f : α → Bs) (l : List α) (v : Value) (wr : World) : Prop :=
  ∃ (k : Nat) (bs : Bs), k ≤ l.length ∧ v = .int .i64 k ∧ bs ++ ((l.drop k).flatMap f ++ T) = E ∧ EncSt w cs gw bs wr
theorem enc_len_of {bs T E : Bs} (h : bs ++ T = E) (hE : E.length ≤ 5000) : bs.length ≤ 5000 := by
  have := congrArg List.length h
  rw [List.length_append] at this
  omega
/-- half at a number of the walk. -/
theorem half_int (z : Int) (h0 : 0 ≤ z) (h1 : z < 4611686018427387904) (g : Nat) (bs : Bs) (w0 w : World) (h : WrAt w0 g bs w) (hl : bs.length ≤ 5000) :
    Calls Tryd.prog 13 #[.pointer (some ⟨g, 0, none⟩), .int .i64 z] w fun e w' => e = .returned (.tuple #[]) ∧ WrAt w0 g (bs ++ halfL z.toNat) w' ∧ KeepsW w w' := by
  have := half_any z.toNat (by omega) g bs w0 w h (by omega)
  rwa [show ((z.toNat : Nat) : Int) = z by omega] at this
theorem and16 (n : Int) (h : 0 ≤ n) (h' : n ≤ 4294967295) : bits .and .u32 n 65535 = n % 65536 :=
  bits_mask .u32 32 (by decide) (fun n h₀ h₁ => by rw [IntKind.wrap_u32]; omega) 16 (by decide) n h (by omega)
def opE13 : Op := Op.load 23 (Operand.tmp 53)
theorem opE13_eq : opE13 = Op.load 23 (Operand.tmp 53) := rfl
theorem ext_atE {a b c : World} {r : Option Nat} (hg : b.grownBy c r) (h : Ext a b) : Ext a b := h
theorem enc_len3 {a b c d T E : Bs} (h : a ++ b ++ c ++ d ++ T = E) (hE : E.length ≤ 5000) : (a ++ b).length ≤ 5000 ∧ (a ++ b ++ c).length ≤ 5000 := by
  have := congrArg List.length h
  simp only [List.length_append] at this ⊢
  omega
theorem nm_ok_bounds {o : ObD} (h : ChkOk o) {n : NmD} (hn : n ∈ o.names) : 1 ≤ n.wh ∧ n.wh ≤ 2 ∧ 0 ≤ n.pos := by
  obtain ⟨-, h2, h3, -⟩ := h.names n hn
  unfold sizeW at h3
  split at h3
  · omega
  · split at h3
    · omega
    · omega
theorem own_none {w : World} {base size n c : Nat} {e : TypeId} {A : Option Addr} {xs : List Value} (h : w.ownsRow base e size (.slice A n c) n xs) (hA : A = none) : n = 0 := by
  obtain ⟨A', c', he, -, -, h4⟩ := own_form h
  injection he with h1 h2 h3
  exact (h4 (h1 ▸ hA)).1
def EncPost (w : World) (o : ObD) (e : Ending) (w' : World) : Prop :=
  Ext w w' ∧ ((ChkOk o ∧ ∃ A n c, e = .returned (.tuple #[.slice A n c, .int .i64 0]) ∧ w'.ownsRow w.heap.size 5 1 (.slice A n c) n (bytesV (encL o)))
    ∨ (¬ ChkOk o ∧ ∃ z : Int, z ≠ 0 ∧ e = .returned (.tuple #[.slice none 0 0, .int .i64 z])))
set_option maxHeartbeats 8000000 in
set_option maxRecDepth 100000 in
theorem encode_any (o : ObD) (v : ObV) (w : World) (hr : ObRd w o v) (hs : ObSm o) : Calls Tryd.prog 6 #[.agg v.cells] w (EncPost w o) := by
  obtain ⟨A1, n1, c1, A2, n2, c2, A3, n3, c3, A4, n4, c4⟩ := v
  have l1 := hr.l1
  have l2 := hr.l2
  have l3 := hr.l3
  have l4 := hr.l4
  dsimp only at l1 l2 l3 l4
  have HR := hide hr
  have HS := hide hs
  have hb0 := Blk.new w obT #[.slice A1 n1 c1, .slice A2 n2 c2, .slice A3 n3 c3, .slice A4 n4 c4]
  have HX0 := hide ((Ext.refl w).alloc (.cells #[.slice A1 n1 c1, .slice A2 n2 c2, .slice A3 n3 c3, .slice A4 n4 c4] obT))
  have HCK := hide (fun W (hx : Ext w W) => check_any o ⟨A1, n1, c1, A2, n2, c2, A3, n3, c3, A4, n4, c4⟩ W (hr.ext hx) hs)
  show Calls Tryd.prog 6 #[.agg #[.slice A1 n1 c1, .slice A2 n2 c2, .slice A3 n3 c3, .slice A4 n4 c4]] w (EncPost w o)
  clear hr hs
  go_enter Tryd.func6, Tryd.ntmps6
  go_wp2_with fail
  refine (HCK.out _ HX0.out).mono ?_
  rintro e w1 ⟨z, rfl, hz, hx1⟩
  have HX1 := hide (HX0.out.trans hx1)
  have HB1 := hide (hb0.ext hx1)
  clear hb0 hx1 HX0 HCK
  by_cases h0 : z = 0
  case neg =>
    have HNO := hide (show ¬ ChkOk o from fun h => h0 (hz.2 h))
    have t0 : (z == 0) = false := by simpa using h0
    clear hz
    go_wp2_with fail
    exact bodyPost_ret (v := .tuple #[.slice none 0 0, .int .i64 z]) (by simp [results, Tryd.results6, go_sem]) rfl ⟨HX1.out, .inr ⟨HNO.out, z, h0, rfl⟩⟩
  case pos =>
    subst h0
    have HOK := hide (hz.1 rfl)
    clear hz
    have hcv := Lib.run_convert_bytes_const w1 23 5 #[.int .u8 82, .int .u8 79, .int .u8 49] 3 3 Tryd.underlying23 Tryd.underlying5
    go_upto_region 5 with fail
    clear hcv
    have hsg := marked_reads w1 #[.int .u8 82, .int .u8 79, .int .u8 49] 5 (3, 4)
    have hx2 := (Ext.refl w1).alloc (.cells #[.int .u8 82, .int .u8 79, .int .u8 49] 5 (3, 4))
    have hgw : (w1.alloc (.cells #[.int .u8 82, .int .u8 79, .int .u8 49] 5 (3, 4))).heap.size = w1.heap.size + 1 := by simp
    generalize w1.alloc (.cells #[.int .u8 82, .int .u8 79, .int .u8 49] 5 (3, 4)) = W2 at *
    have hbw := Blk.new W2 wrT #[.slice (some ⟨w1.heap.size, 0, none⟩) 3 3]
    have hsg3 := hsg.alloc (by omega) (.cells #[.slice (some ⟨w1.heap.size, 0, none⟩) 3 3] wrT)
    have hx3 := hx2.alloc (.cells #[.slice (some ⟨w1.heap.size, 0, none⟩) 3 3] wrT)
    rw [hgw] at hbw
    have HX3 := hide (HX1.out.trans hx3)
    have HB3 := hide (HB1.out.ext hx3)
    have HSG := hide (show Reads (W2.alloc (.cells #[.slice (some ⟨w1.heap.size, 0, none⟩) 3 3] wrT)) (w1.heap.size + 1) 1 (some ⟨w1.heap.size, 0, none⟩) 3 (bytesV signL) from hsg3)
    have HBW := hide hbw
    have hsz3 := hx3.size
    have hsz1 := HX1.out.size
    clear hsg hx2 hgw hbw hsg3 hx3 HB1
    generalize W2.alloc (.cells #[.slice (some ⟨w1.heap.size, 0, none⟩) 3 3] wrT) = W3 at *
    have z0 : W3.cell? ⟨w.heap.size, 0, none⟩ = some (.slice A1 n1 c1) := HB3.out.cell 0
    have hn1 : n1 ≤ 128 := by have := HOK.out.code; omega
    go_wp2_with fail
    refine (half_new n1 (by omega) (w1.heap.size + 1) (w1.heap.size + 1) ⟨w1.heap.size, 0, none⟩ w W3 (by omega) HBW.out HSG.out (by have := HBW.out.lt; omega) HX3.out).mono ?_
    rintro e w4 ⟨rfl, hwr4, hkw4⟩
    generalize w1.heap.size + 1 = gw at *
    have HE := hide (enc_le HOK.out)
    obtain ⟨cs, hcs⟩ : ∃ cs : Array Value, cs = #[.slice A1 n1 c1, .slice A2 n2 c2, .slice A3 n3 c3, .slice A4 n4 c4] := ⟨_, rfl⟩
    have HCS := hide hcs
    have HST4 := hide (show EncSt w cs gw (signL ++ halfL n1) w4 from ⟨by rw [hcs]; exact hkw4 _ _ _ (by decide) (by decide) HB3.out, hwr4⟩)
    clear hcs hwr4 hkw4 HSG HBW HX3 HB3 z0 hsz3
    have hbx := HST4.out.box
    rw [HCS.out] at hbx
    have z0 : w4.cell? ⟨w.heap.size, 0, none⟩ = some (.slice A1 n1 c1) := hbx.cell 0
    clear hbx
    go_wp2_with fail
    clear z0
    go_loopw [30] (EncRel w cs gw (encL o) (halfL o.data.length ++ (o.data ++ (halfL o.names.length ++ (o.names.flatMap nmL ++ (halfL o.needs.length ++ o.needs.flatMap neL))))) wordL o.code) (fun i _ => n1 - (intOf i).toNat)
    case atStart => exact ⟨0, _, Nat.zero_le _, rfl, by rw [List.drop_zero]; simp only [encL, bodyL, List.append_assoc, l1], HST4.out⟩
    case round =>
      obtain ⟨k, bs, hk, rfl, hE, hst⟩ := hrel
      have HE1 := hide hE
      have HST := hide hst
      clear hE hst HST4
      have HLB := hide (enc_len_of HE1.out HE.out)
      by_cases hlt : k < n1
      · have hkl : k < o.code.length := by omega
        obtain ⟨b1, o1, rfl, -, hcell⟩ := HR.out.code.at1 (by dsimp only; omega)
        have q0 := HST.out.out.ext.cell (hcell k hlt)
        have hx32 := HS.out.word o.code[k] (List.getElem_mem hkl)
        rw [show (codeV o.code)[k]'(by rw [codeV_len]; exact hkl) = .int .u32 (o.code[k] : Int) by simp [codeV]] at q0
        have HN2 := hide (show bs ++ halfL (o.code[k] % 65536) ++ halfL (o.code[k] / 65536) ++ ((o.code.drop (k + 1)).flatMap wordL ++ (halfL o.data.length ++ (o.data ++ (halfL o.names.length ++ (o.names.flatMap nmL ++ (halfL o.needs.length ++ o.needs.flatMap neL)))))) = encL o by
          rw [← HE1.out, List.drop_eq_getElem_cons hkl, List.flatMap_cons]
          simp only [wordL, List.append_assoc])
        generalize o.code[k] = x at *
        clear hcell HE1
        have HH1 := hide (half_int ((x : Int) % 65536) (by omega) (by omega) gw bs w wr HST.out.out HLB.out)
        rw [show ((x : Int) % 65536).toNat = x % 65536 by omega] at HH1
        have HH2 := hide (fun W bs' (h1 : WrAt w gw bs' W) (h2 : bs'.length ≤ 5000) => half_int ((x : Int) / 65536) (by omega) (by omega) gw bs' w W h1 h2)
        rw [show ((x : Int) / 65536).toNat = x / 65536 by omega] at HH2
        have hw1 : wrap64 (bits .and .u32 (x : Int) 65535) = ((x % 65536 : Nat) : Int) := by rw [and16 _ (by omega) (by omega), wrap64]; omega
        go_wp2_with fail
        clear hw1
        refine HH1.out.mono ?_
        rintro e w5 ⟨rfl, hwr5, hkw5⟩
        have HST5 := hide (HST.out.more hwr5 hkw5)
        have HLB5 := hide (enc_len_of (show bs ++ halfL (x % 65536) ++ _ = encL o by rw [← HN2.out, List.append_assoc (bs ++ halfL (x % 65536))]) HE.out)
        clear hwr5 hkw5 HST
        go_wp2_with fail
        refine (HH2.out _ _ HST5.out.out HLB5.out).mono ?_
        rintro e w6 ⟨rfl, hwr6, hkw6⟩
        have HST6 := hide (HST5.out.more hwr6 hkw6)
        clear hwr6 hkw6 HST5
        go_wp2_with fail
        go_roundw
        case rel => exact ⟨k + 1, _, by omega, by go_num, HN2.out, HST6.out⟩
        case measure => simp [intOf]; omega
      · obtain rfl : k = n1 := by omega
        have hE2 := HE1.out
        rw [List.drop_of_length_le (by omega), List.flatMap_nil, List.nil_append] at hE2
        have HE2 := hide hE2
        have hbx := HST.out.box
        rw [HCS.out] at hbx
        have z1 : wr.cell? ⟨w.heap.size, 1, none⟩ = some (.slice A2 n2 c2) := hbx.cell 1
        have hn2 : n2 ≤ 256 := by have := HOK.out.data; omega
        clear hE2 HE1 hbx
        go_wp2_with fail
        refine (half_int _ (by omega) (by omega) gw bs w wr HST.out.out HLB.out).mono ?_
        rintro e w5 ⟨rfl, hwr5, hkw5⟩
        rw [Int.toNat_natCast, ← l2] at hwr5
        have HST5 := hide (HST.out.more hwr5 hkw5)
        have HE3 := hide (show bs ++ halfL o.data.length ++ (o.data ++ (halfL o.names.length ++ (o.names.flatMap nmL ++ (halfL o.needs.length ++ o.needs.flatMap neL)))) = encL o by rw [← HE2.out, List.append_assoc])
        have HLB5 := hide (enc_len_of HE3.out HE.out)
        clear hwr5 hkw5 HST z1 HE2 HLB
        generalize bs ++ halfL o.data.length = bs5 at *
        obtain ⟨i0, hi0, hz0, hz1, hz2⟩ := info_parts u8_info'
        obtain ⟨Aw, cw, hbw, how⟩ := HST5.out.out.mem
        have HBW := hide hbw
        have HOW := hide how
        have HXW := hide HST5.out.out.ext
        have HLW := hide HST5.out.out.lo
        have HDW := hide (HXW.out.reads HR.out.data (Nat.le_refl _))
        have hsz5 := HXW.out.size
        dsimp only at HDW
        have hbx := HST5.out.box
        rw [HCS.out] at hbx
        have z0 : w5.cell? ⟨gw, 0, none⟩ = some (.slice Aw bs5.length cw) := hbw.cell 0
        have z1 : w5.cell? ⟨w.heap.size, 1, none⟩ = some (.slice A2 n2 c2) := hbx.cell 1
        have HNE := hide (own_blk_ne how hbw (by decide)).symm
        have HL1 := hide (show bs5.length + n2 ≤ maxLen by have := HLB5.out; simp only [maxLen]; omega)
        have HL2 := hide (show (bs5.length + n2) * 1 ≤ 140737488355328 by have := HLB5.out; omega)
        clear hbw how
        have HBO := hide hbx
        have HX5 := hide (show gw ≠ w.heap.size from fun e => by have h1 := HBW.out; have h2 := HST5.out.box; rw [e] at h1; exact Blk.ne_ h1 h2 (by decide) rfl)
        go_upto_region 13 with fail
        rw [← opE13_eq]
        have hOp := opE13_eq
        have m0 : w5.drew.cell? ⟨gw, 0, none⟩ = some (.slice Aw bs5.length cw) := z0
        go_region_held3 (fun w' => w'.cell? ⟨w.heap.size, 1, none⟩ = some (.slice A2 n2 c2))
          (first | exact z1 | exact k1 | exact far1 k1 HX5.out _ | fail)
          (first
            | (refine step_append_any _ (by rfl) (.tmp 54) (.tmp 56) 23 (by rfl) w.heap.size 5 i0 _ 1 1 Tryd.underlying23 hi0 hz0 hz1 hz2 rfl (by decide) (.slice Aw bs5.length cw) bs5.length (bytesV bs5) (by rfl) (Ext.own (w := w5) (by ((repeat (first | with_reducible exact Ext.refl _ | with_reducible assumption | with_reducible refine Ext.alloc ?_ _ | with_reducible refine Ext.drew ?_ | with_reducible refine Ext.drewN ?_ _ | with_reducible refine Ext.setCell ?_ (by first | exact Nat.le_refl _ | assumption | (simp; done) | omega) _ | with_reducible refine Ext.trans ?_ (by with_reducible assumption))); done)) HOW.out) w.heap.size A2 n2 c2 (bytesV o.data) (by rfl) (Ext.reads (w := w5) (by ((repeat (first | with_reducible exact Ext.refl _ | with_reducible assumption | with_reducible refine Ext.alloc ?_ _ | with_reducible refine Ext.drew ?_ | with_reducible refine Ext.drewN ?_ _ | with_reducible refine Ext.setCell ?_ (by first | exact Nat.le_refl _ | assumption | (simp; done) | omega) _ | with_reducible refine Ext.trans ?_ (by with_reducible assumption))); done)) HDW.out hsz5) (bytesV_one _) HL1.out HL2.out (Nat.le_trans hsz5 (Ext.size (w := w5) (by ((repeat (first | with_reducible exact Ext.refl _ | with_reducible assumption | with_reducible refine Ext.alloc ?_ _ | with_reducible refine Ext.drew ?_ | with_reducible refine Ext.drewN ?_ _ | with_reducible refine Ext.setCell ?_ (by first | exact Nat.le_refl _ | assumption | (simp; done) | omega) _ | with_reducible refine Ext.trans ?_ (by with_reducible assumption))); done)))) ?_; intro A8 c8 w8 ho8 hg8 ha8
               have HU := hide (ext_atE hg8 (show Ext w5 _ by ((repeat (first | with_reducible exact Ext.refl _ | with_reducible assumption | with_reducible refine Ext.alloc ?_ _ | with_reducible refine Ext.drew ?_ | with_reducible refine Ext.drewN ?_ _ | with_reducible refine Ext.setCell ?_ (by first | exact Nat.le_refl _ | assumption | (simp; done) | omega) _ | with_reducible refine Ext.trans ?_ (by with_reducible assumption))); done)))
               have k8 := (Blk.grown (HBW.out.ext HU.out) hg8 HNE.out).frozen 0
               have k9 : w8.cell? ⟨gw, 0, none⟩ = some (.slice Aw bs5.length cw) := (Blk.grown (HBW.out.ext HU.out) hg8 HNE.out).cell 0
               have k1 : w8.cell? ⟨w.heap.size, 1, none⟩ = some (.slice A2 n2 c2) := (Blk.grown (HBO.out.ext HU.out) hg8 (own_blk_ne HOW.out HBO.out (by decide)).symm).cell 1)
            | fail)
        all_goals
          have h9 := WrAt.told (x := o.data) (n' := bs5.length + n2) HLW.out (HBW.out.ext HU.out) (HU.out.own HOW.out) (HXW.out.trans HU.out) (by rw [List.length_append]; omega) ho8 hg8
          have HST9 := hide ((HST5.out.to HU.out).more h9.1 h9.2)
          have HE4 := hide (show bs5 ++ o.data ++ (halfL o.names.length ++ (o.names.flatMap nmL ++ (halfL o.needs.length ++ o.needs.flatMap neL))) = encL o by rw [← HE3.out, List.append_assoc])
          have HLB9 := hide (enc_len_of HE4.out HE.out)
          clear ho8 hg8 ha8 k8 k9 k1 h9 m0 hOp z0 z1 hbx HE3
          go_upto_region 14 with fail
          generalize w8.setCell ⟨gw, 0, none⟩ (.slice A8 (bs5.length + n2) c8) = w9 at *
          clear HU HBW HOW HXW HLW HDW HNE HL1 HL2 HBO HST5
          generalize bs5 ++ o.data = bs9 at *
          have hbx := HST9.out.box
          rw [HCS.out] at hbx
          have z2 : w9.cell? ⟨w.heap.size, 2, none⟩ = some (.slice A3 n3 c3) := hbx.cell 2
          have hn3 : n3 ≤ 24 := by have := HOK.out.nms; omega
          clear hbx
          have HH1 := hide (half_int (n3 : Int) (by omega) (by omega) gw bs9 w w9 HST9.out.out HLB9.out)
          rw [Int.toNat_natCast, ← l3] at HH1
          rw [l3] at HH1
          go_wp2_with fail
          refine HH1.out.mono ?_
          rintro e w10 ⟨rfl, hwr5, hkw5⟩
          have HST10 := hide (HST9.out.more hwr5 hkw5)
          rw [l3] at HE4
          have HE5 := hide (show bs9 ++ halfL n3 ++ (o.names.flatMap nmL ++ (halfL o.needs.length ++ o.needs.flatMap neL)) = encL o by rw [← HE4.out, List.append_assoc])
          clear hwr5 hkw5 HST9 z2 HE4 HH1 HLB9
          generalize bs9 ++ halfL n3 = bs10 at *
          have hbx := HST10.out.box
          rw [HCS.out] at hbx
          have z2 : w10.cell? ⟨w.heap.size, 2, none⟩ = some (.slice A3 n3 c3) := hbx.cell 2
          clear hbx
          go_wp2_with fail
          clear z2
          go_loopw [68] (EncRel w cs gw (encL o) (halfL o.needs.length ++ o.needs.flatMap neL) nmL o.names) (fun i _ => n3 - (intOf i).toNat)
          case atStart => exact ⟨0, _, Nat.zero_le _, rfl, by rw [List.drop_zero]; exact HE5.out, HST10.out⟩
          case round =>
            obtain ⟨k, bs, hk, rfl, hE, hst⟩ := hrel
            have HE1 := hide hE
            have HST := hide hst
            clear hE hst HST10 HE5
            have HLB := hide (enc_len_of HE1.out HE.out)
            by_cases hlt : k < n3
            · have hkl : k < o.names.length := by omega
              have R3 := HR.out.names
              dsimp only at R3
              obtain ⟨b3, o3, rfl, -⟩ := R3.addr (by omega) (by omega)
              have q0 := HST.out.out.ext.cell (Reads.elem nmC_len R3 k hkl (by omega) 0 (by omega) rfl)
              have q1 := HST.out.out.ext.cell (Reads.elem nmC_len R3 k hkl (by omega) 1 (by omega) rfl)
              have q2 := HST.out.out.ext.cell (Reads.elem nmC_len R3 k hkl (by omega) 2 (by omega) rfl)
              have q3 := HST.out.out.ext.cell (Reads.elem nmC_len R3 k hkl (by omega) 3 (by omega) rfl)
              rw [Nat.add_zero] at q0
              obtain ⟨m1, ⟨m2, m3⟩, m4, m5⟩ := HS.out.nm o.names[k] (List.getElem_mem hkl)
              obtain ⟨y1, y2, y3⟩ := nm_ok_bounds HOK.out (List.getElem_mem hkl)
              have HN2 := hide (show bs ++ textL o.names[k].name ++ halfL (o.names[k].wh + (if o.names[k].weak = true then 4 else 0)).toNat ++ halfL o.names[k].pos.toNat ++ ((o.names.drop (k + 1)).flatMap nmL ++ (halfL o.needs.length ++ o.needs.flatMap neL)) = encL o by
                rw [← HE1.out, List.drop_eq_getElem_cons hkl, List.flatMap_cons]
                simp only [nmL, List.append_assoc])
              generalize o.names[k] = nm at *
              obtain ⟨nn, wh, pos, weak⟩ := nm
              dsimp only at q0 q1 q2 q3 m1 m2 m3 m4 m5 y1 y2 y3 HN2
              have hb9 := Blk.new wr nmT #[.string (str nn), .int .i64 wh, .int .i64 pos, .bool weak]
              have HXB := hide ((Ext.refl wr).alloc (.cells #[.string (str nn), .int .i64 wh, .int .i64 pos, .bool weak] nmT))
              go_upto_region 18 with fail
              clear q0 q1 q2 q3 HE1
              have HST1 := hide (HST.out.to HXB.out)
              clear HST HXB
              generalize wr.alloc (.cells #[.string (str nn), .int .i64 wh, .int .i64 pos, .bool weak] nmT) = W9 at *
              generalize wr.heap.size = gn at *
              have b0 : W9.cell? ⟨gn, 0, none⟩ = some (.string (str nn)) := hb9.cell 0
              have HB9 := hide hb9
              clear hb9
              have HT := hide (text_any nn (by omega) gw bs w W9 HST1.out.out (by have := HLB.out; omega))
              have HHH := hide (fun z (h0 : 0 ≤ z) (h1 : z < 4611686018427387904) W bs' (h1' : WrAt w gw bs' W) (h2 : bs'.length ≤ 5000) => half_int z h0 h1 gw bs' w W h1' h2)
              go_wp2_with fail
              refine HT.out.mono ?_
              rintro e W10 ⟨rfl, hwr5, hkw5⟩
              have HST2 := hide (HST1.out.more hwr5 hkw5)
              have hb10 := hkw5 _ _ _ (by decide) (by decide) HB9.out
              have HB10 := hide hb10
              have b1 : W10.cell? ⟨gn, 1, none⟩ = some (.int .i64 wh) := hb10.cell 1
              have b3' : W10.cell? ⟨gn, 3, none⟩ = some (.bool weak) := hb10.cell 3
              have HLB2 := hide (enc_len3 HN2.out HE.out).1
              clear hwr5 hkw5 HST1 b0 HT HB9 hb10 HLB
              cases weak
              case' true =>
                have HNW := hide (show (wh + (if true = true then (4 : Int) else 0)) = wh + 4 from rfl)
                have hw4 : IntKind.i64.wrap (wh + 4) = wh + 4 := by rw [IntKind.wrap_i64]; omega
                have HH1 := hide (HHH.out (wh + 4) (by omega) (by omega) W10 _ HST2.out.out HLB2.out)
              case' false =>
                have HNW := hide (show (wh + (if false = true then (4 : Int) else 0)) = wh + 0 from rfl)
                rw [Int.add_zero] at HNW
                have HH1 := hide (HHH.out wh (by omega) (by omega) W10 _ HST2.out.out HLB2.out)
              all_goals
                rw [HNW.out] at HN2
                go_wp2_with fail
                refine HH1.out.mono ?_
                rintro e W11 ⟨rfl, hwr5, hkw5⟩
                have HST3 := hide (HST2.out.more hwr5 hkw5)
                have hb11 := hkw5 _ _ _ (by decide) (by decide) HB10.out
                have b2 : W11.cell? ⟨gn, 2, none⟩ = some (.int .i64 pos) := hb11.cell 2
                have HLB3 := hide (enc_len3 HN2.out HE.out).2
                have HH2 := hide (HHH.out pos (by omega) (by omega) W11 _ HST3.out.out HLB3.out)
                clear hwr5 hkw5 HST2 b1 b3' HH1 HB10 hb11 HLB2
                go_wp2_with fail
                refine HH2.out.mono ?_
                rintro e W12 ⟨rfl, hwr5, hkw5⟩
                have HST4 := hide (HST3.out.more hwr5 hkw5)
                clear hwr5 hkw5 HST3 b2 HH2
                go_wp2_with fail
                go_roundw
                case rel => exact ⟨k + 1, _, by omega, by go_num, HN2.out, HST4.out⟩
                case measure => simp [intOf]; omega
            · obtain rfl : k = n3 := by omega
              have hE2 := HE1.out
              rw [List.drop_of_length_le (by omega), List.flatMap_nil, List.nil_append, l4] at hE2
              have HE2 := hide hE2
              have hbx := HST.out.box
              rw [HCS.out] at hbx
              have z3 : wr.cell? ⟨w.heap.size, 3, none⟩ = some (.slice A4 n4 c4) := hbx.cell 3
              have hn4 : n4 ≤ 40 := by have := HOK.out.nds; omega
              have HH1 := hide (half_int (n4 : Int) (by omega) (by omega) gw bs w wr HST.out.out HLB.out)
              rw [Int.toNat_natCast] at HH1
              clear hE2 HE1 hbx
              go_wp2_with fail
              refine HH1.out.mono ?_
              rintro e w10 ⟨rfl, hwr5, hkw5⟩
              have HST10 := hide (HST.out.more hwr5 hkw5)
              have HE5 := hide (show bs ++ halfL n4 ++ (o.needs.flatMap neL ++ []) = encL o by rw [← HE2.out, List.append_assoc, List.append_nil])
              clear hwr5 hkw5 HST z3 HE2 HH1 HLB
              generalize bs ++ halfL n4 = bs10 at *
              have hbx := HST10.out.box
              rw [HCS.out] at hbx
              have z3 : w10.cell? ⟨w.heap.size, 3, none⟩ = some (.slice A4 n4 c4) := hbx.cell 3
              clear hbx
              go_wp2_with fail
              clear z3
              go_loopw [98] (EncRel w cs gw (encL o) [] neL o.needs) (fun i _ => n4 - (intOf i).toNat)
              case atStart => exact ⟨0, _, Nat.zero_le _, rfl, by rw [List.drop_zero]; exact HE5.out, HST10.out⟩
              case round =>
                obtain ⟨k', bs', hk', rfl, hE, hst⟩ := hrel
                have HE1 := hide hE
                have HST := hide hst
                clear hE hst HST10 HE5
                have HLB := hide (enc_len_of HE1.out HE.out)
                by_cases hlt2 : k' < n4
                · have hkl : k' < o.needs.length := by omega
                  have R4 := HR.out.needs
                  dsimp only at R4
                  obtain ⟨b4, o4, rfl, -⟩ := R4.addr (by omega) (by omega)
                  have q0 := HST.out.out.ext.cell (Reads.elem neC_len R4 k' hkl (by omega) 0 (by omega) rfl)
                  have q1 := HST.out.out.ext.cell (Reads.elem neC_len R4 k' hkl (by omega) 1 (by omega) rfl)
                  have q2 := HST.out.out.ext.cell (Reads.elem neC_len R4 k' hkl (by omega) 2 (by omega) rfl)
                  rw [Nat.add_zero] at q0
                  obtain ⟨m1, ⟨m2, m3⟩, m4, m5⟩ := HS.out.ne o.needs[k'] (List.getElem_mem hkl)
                  obtain ⟨-, y1, y2, y3, -, -⟩ := HOK.out.needs o.needs[k'] (List.getElem_mem hkl)
                  have HN2 := hide (show bs' ++ textL o.needs[k'].name ++ halfL o.needs[k'].kind.toNat ++ halfL o.needs[k'].pos.toNat ++ ((o.needs.drop (k' + 1)).flatMap neL ++ []) = encL o by
                    rw [← HE1.out, List.drop_eq_getElem_cons hkl, List.flatMap_cons]
                    simp only [neL, List.append_assoc])
                  generalize o.needs[k'] = ne at *
                  obtain ⟨pos, nn, kind⟩ := ne
                  dsimp only at q0 q1 q2 m1 m2 m3 m4 m5 y1 y2 y3 HN2
                  have hb9 := Blk.new wr neT #[.int .i64 pos, .string (str nn), .int .i64 kind]
                  have HXB := hide ((Ext.refl wr).alloc (.cells #[.int .i64 pos, .string (str nn), .int .i64 kind] neT))
                  go_upto_region 29 with fail
                  clear q0 q1 q2 HE1
                  have HST1 := hide (HST.out.to HXB.out)
                  clear HST HXB
                  generalize wr.alloc (.cells #[.int .i64 pos, .string (str nn), .int .i64 kind] neT) = W9 at *
                  generalize wr.heap.size = gn at *
                  have b1 : W9.cell? ⟨gn, 1, none⟩ = some (.string (str nn)) := hb9.cell 1
                  have HB9 := hide hb9
                  clear hb9
                  have HT := hide (text_any nn (by omega) gw bs' w W9 HST1.out.out (by have := HLB.out; omega))
                  have HHH := hide (fun z (h0 : 0 ≤ z) (h1 : z < 4611686018427387904) W bs' (h1' : WrAt w gw bs' W) (h2 : bs'.length ≤ 5000) => half_int z h0 h1 gw bs' w W h1' h2)
                  go_wp2_with fail
                  refine HT.out.mono ?_
                  rintro e W10 ⟨rfl, hwr5, hkw5⟩
                  have HST2 := hide (HST1.out.more hwr5 hkw5)
                  have hb10 := hkw5 _ _ _ (by decide) (by decide) HB9.out
                  have HB10 := hide hb10
                  have b2 : W10.cell? ⟨gn, 2, none⟩ = some (.int .i64 kind) := hb10.cell 2
                  have HLB2 := hide (enc_len3 HN2.out HE.out).1
                  have HH1 := hide (HHH.out kind (by omega) (by omega) W10 _ HST2.out.out HLB2.out)
                  clear hwr5 hkw5 HST1 b1 HT HB9 hb10 HLB
                  go_wp2_with fail
                  refine HH1.out.mono ?_
                  rintro e W11 ⟨rfl, hwr5, hkw5⟩
                  have HST3 := hide (HST2.out.more hwr5 hkw5)
                  have hb11 := hkw5 _ _ _ (by decide) (by decide) HB10.out
                  have b0 : W11.cell? ⟨gn, 0, none⟩ = some (.int .i64 pos) := hb11.cell 0
                  have HLB3 := hide (enc_len3 HN2.out HE.out).2
                  have HH2 := hide (HHH.out pos (by omega) (by omega) W11 _ HST3.out.out HLB3.out)
                  clear hwr5 hkw5 HST2 b2 HH1 HB10 hb11 HLB2
                  go_wp2_with fail
                  refine HH2.out.mono ?_
                  rintro e W12 ⟨rfl, hwr5, hkw5⟩
                  have HST4 := hide (HST3.out.more hwr5 hkw5)
                  clear hwr5 hkw5 HST3 b0 HH2
                  go_wp2_with fail
                  go_roundw
                  case rel => exact ⟨k' + 1, _, by omega, by go_num, HN2.out, HST4.out⟩
                  case measure => simp [intOf]; omega
                · obtain rfl : k' = n4 := by omega
                  have hE2 := HE1.out
                  rw [List.drop_of_length_le (by omega), List.flatMap_nil, List.append_nil, List.append_nil] at hE2
                  subst hE2
                  obtain ⟨Aw, cw, hbw, how⟩ := HST.out.out.mem
                  have HXW := hide HST.out.out.ext
                  have z0 : wr.cell? ⟨gw, 0, none⟩ = some (.slice Aw (encL o).length cw) := hbw.cell 0
                  have HCL := hide (bytesClone_any Aw (encL o).length cw wr.heap.size (bytesV (encL o)) wr (Reads.of_own how) (bytesV_one _) (Nat.le_refl _) (by have := HE.out; omega) (fun h => own_none how h))
                  have hsz := HXW.out.size
                  clear hbw how
                  go_wp2_with fail
                  refine HCL.out.mono ?_
                  rintro e w99 ⟨A9, c9, rfl, ho9, hx9⟩
                  go_wp2_with fail
                  exact bodyPost_ret (v := .tuple #[.slice A9 (encL o).length c9, .int .i64 0]) (by simp [results, Tryd.results6, go_sem]) rfl ⟨HXW.out.trans hx9, .inl ⟨HOK.out, A9, _, c9, rfl, own_mono ho9 hsz⟩⟩
end Go.Proofs.YtekijkdgmfdnbaaDoor
