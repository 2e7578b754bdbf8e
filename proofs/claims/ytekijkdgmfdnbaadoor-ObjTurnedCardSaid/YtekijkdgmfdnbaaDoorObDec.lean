/- The contract of obj.Decode. -/
import Derived.Test.YtekijkdgmfdnbaaDoorObMany
import Derived.Test.YtekijkdgmfdnbaaDoorShelf
namespace Go.Proofs.YtekijkdgmfdnbaaDoor
open Go.RowKit
set_option linter.unusedVariables false

def numsI (bs : Bs) : List Int := bs.map fun b => (b.toNat : Int)
theorem numsI_len (bs : Bs) : (numsI bs).length = bs.length := by simp [numsI]
theorem numsI_bytes (bs : Bs) : Lib.bytesOf (numsI bs) = bs := by
  unfold Lib.bytesOf numsI
  rw [List.map_map]
  conv => rhs; rw [← List.map_id bs]
  exact List.map_congr_left fun b _ => by simp
theorem bytesIn_of {w : World} {B n : Nat} {A : Option Addr} {bs : Bs} (h : Reads w B 1 A n (bytesV bs)) : Lib.BytesIn w A n (numsI bs) := by
  intro hn
  have hl : bs.length = n := by have := h.1; rw [bytesV_length] at this; omega
  obtain ⟨b, o, rfl, -⟩ := h.at1 hn
  refine ⟨b, o, rfl, fun i hi => ?_⟩
  rw [cells_of h i hi]
  congr 2
  simp [numsI, List.getD_eq_getElem?_getD, List.getElem?_map, List.getElem?_eq_getElem (show i < bs.length by omega)]
theorem equal_any (A A' : Option Addr) (n c n' c' B B' : Nat) (a b : Bs) (w : World) (h1 : Reads w B 1 A n (bytesV a)) (h2 : Reads w B' 1 A' n' (bytesV b)) :
    Calls Tryd.prog 27 #[.slice A n c, .slice A' n' c'] w fun e w' => e = .returned (.bool (decide (a = b))) ∧ w' = w := by
  have l1 : a.length = n := by have := h1.1; rw [bytesV_length] at this; omega
  have l2 : b.length = n' := by have := h2.1; rw [bytesV_length] at this; omega
  have := Tryd.bytes_Equal_all A A' n c n' c' (numsI a) (numsI b) w (by rw [numsI_len, l1]) (by rw [numsI_len, l2]) (bytesIn_of h1) (bytesIn_of h2)
  rw [numsI_bytes, numsI_bytes] at this
  refine this.mono ?_
  rintro e w' ⟨rfl, h⟩
  exact ⟨by by_cases h : a = b <;> simp [h], h⟩
theorem prefix_any (A A' : Option Addr) (n c n' c' B B' : Nat) (a b : Bs) (w : World) (hnc : n ≤ c) (h1 : Reads w B 1 A n (bytesV a)) (h2 : Reads w B' 1 A' n' (bytesV b)) :
    Calls Tryd.prog 19 #[.slice A n c, .slice A' n' c'] w fun e w' => e = .returned (.bool (b.isPrefixOf a)) ∧ w' = w := by
  have l1 : a.length = n := by have := h1.1; rw [bytesV_length] at this; omega
  have l2 : b.length = n' := by have := h2.1; rw [bytesV_length] at this; omega
  have := Tryd.bytes_HasPrefix_all A A' n c n' c' (numsI a) (numsI b) w (by rw [numsI_len, l1]) (by rw [numsI_len, l2]) hnc (bytesIn_of h1) (bytesIn_of h2)
  rw [numsI_bytes, numsI_bytes] at this
  exact this
def DecPost (w : World) (bs : Bs) (e : Ending) (w' : World) : Prop :=
  Ext w w' ∧ ((∃ z : Int, DecIs bs none z ∧ e = .returned (.tuple #[.agg #[.slice none 0 0, .slice none 0 0, .slice none 0 0, .slice none 0 0], .int .i64 z]))
    ∨ ∃ o v, DecIs bs (some o) 0 ∧ ObSm o ∧ e = .returned (.tuple #[.agg (ObV.cells v), .int .i64 0]) ∧ ObOwn w' w.heap.size o v)
theorem not_sign {bs : Bs} (h : signL.isPrefixOf bs = false) : DecIs bs none 3 :=
  .form fun o s _ _ he => by
    have : signL.isPrefixOf bs = true := by rw [← he]; simp [encL, List.isPrefixOf_iff_prefix]
    rw [h] at this
    cases this
theorem sign_drop {bs : Bs} (h : signL.isPrefixOf bs = true) : 3 ≤ bs.length ∧ bs = signL ++ bs.drop 3 := by
  rw [List.isPrefixOf_iff_prefix] at h
  obtain ⟨t, rfl⟩ := h
  exact ⟨by simp [signL], by simp [signL]⟩
/-- The result's box is told. -/
theorem DecSt.back {w0 w : World} {g2 gr gv go : Nat} {s : Option Bs} {o : ObD} {v : ObV} (h : DecSt w0 g2 gr gv go s o v w) (a b c d : Value) :
    Blk ((((w.setCell ⟨g2, 0, none⟩ a).setCell ⟨g2, 1, none⟩ b).setCell ⟨g2, 2, none⟩ c).setCell ⟨g2, 3, none⟩ d) g2 obT #[a, b, c, d] ∧ ObOwn ((((w.setCell ⟨g2, 0, none⟩ a).setCell ⟨g2, 1, none⟩ b).setCell ⟨g2, 2, none⟩ c).setCell ⟨g2, 3, none⟩ d) w0.heap.size o v ∧ Ext w0 ((((w.setCell ⟨g2, 0, none⟩ a).setCell ⟨g2, 1, none⟩ b).setCell ⟨g2, 2, none⟩ c).setCell ⟨g2, 3, none⟩ d) := by
  have r1 := h.res.set_ 0 a
  have r2 := r1.set_ 1 b
  have r3 := r2.set_ 2 c
  have hl := h.l2
  exact ⟨r3.set_ 3 d, (((h.own.far h.res (by decide) (by decide) (by decide) (by decide) 0 a).far r1 (by decide) (by decide) (by decide) (by decide) 1 b).far r2 (by decide) (by decide) (by decide) (by decide) 2 c).far r3 (by decide) (by decide) (by decide) (by decide) 3 d,
    (((h.ext.setCell (p := ⟨g2, 0, none⟩) hl _).setCell (p := ⟨g2, 1, none⟩) hl _).setCell (p := ⟨g2, 2, none⟩) hl _).setCell (p := ⟨g2, 3, none⟩) hl _⟩
set_option maxHeartbeats 8000000 in
set_option maxRecDepth 100000 in
theorem decode_any (bs : Bs) (A : Option Addr) (n c : Nat) (w : World) (hr : Reads w w.heap.size 1 A n (bytesV bs)) (hnc : n ≤ c) (hcm : c ≤ maxLen) :
    Calls Tryd.prog 8 #[.slice A n c] w (DecPost w bs) := by
  have l1 : bs.length = n := by have := hr.1; rw [bytesV_length] at this; omega
  have HR := hide hr
  have HB0 := hide (Blk.new w obT #[.slice none 0 0, .slice none 0 0, .slice none 0 0, .slice none 0 0])
  have HX0 := hide ((Ext.refl w).alloc (.cells #[.slice none 0 0, .slice none 0 0, .slice none 0 0, .slice none 0 0] obT))
  have hmf : ∀ (fn : Fn) (first cap : Array Value) (w : World), (Instr.makeFunc fn first cap).run Tryd.prog w = .ok (.func fn first cap) w := fun _ _ _ _ => rfl
  clear hr
  go_enter Tryd.func8, Tryd.ntmps8
  go_upto_region 1 with fail
  generalize w.alloc (.cells #[.slice none 0 0, .slice none 0 0, .slice none 0 0, .slice none 0 0] obT) = w1 at *
  have hcv := Lib.run_convert_bytes_const w1 23 5 #[.int .u8 82, .int .u8 79, .int .u8 49] 3 3 Tryd.underlying23 Tryd.underlying5
  have hsg := marked_reads w1 #[.int .u8 82, .int .u8 79, .int .u8 49] 5 (3, 4)
  have HX2 := hide (HX0.out.alloc (.cells #[.int .u8 82, .int .u8 79, .int .u8 49] 5 (3, 4)))
  have HB2 := hide (HB0.out.alloc (.cells #[.int .u8 82, .int .u8 79, .int .u8 49] 5 (3, 4)))
  have HSG := hide (show Reads (w1.alloc (.cells #[.int .u8 82, .int .u8 79, .int .u8 49] 5 (3, 4))) (w1.heap.size + 1) 1 (some ⟨w1.heap.size, 0, none⟩) 3 (bytesV signL) from hsg)
  have HP := hide (prefix_any A (some ⟨w1.heap.size, 0, none⟩) n c 3 3 w.heap.size (w1.heap.size + 1) bs signL _ hnc (HX2.out.reads HR.out (Nat.le_refl _)) HSG.out)
  clear hsg HSG
  by_cases hpre : signL.isPrefixOf bs = true
  case neg =>
    have hpf : signL.isPrefixOf bs = false := Bool.eq_false_iff.2 hpre
    have HNS := hide (not_sign hpf)
    rw [hpf] at HP
    clear hpre hpf
    go_wp2_with fail
    refine HP.out.mono ?_
    rintro e w2 ⟨rfl, rfl⟩
    clear hcv HP HX0 HB0
    generalize w1.alloc (.cells #[.int .u8 82, .int .u8 79, .int .u8 49] 5 (3, 4)) = w2 at *
    have f0 := HB2.out.frozen 0
    have f1 := HB2.out.frozen 1
    have f2 := HB2.out.frozen 2
    have f3 := HB2.out.frozen 3
    have b0 : w2.cell? ⟨w.heap.size, 0, none⟩ = some (.slice none 0 0) := HB2.out.cell 0
    have b1 : w2.cell? ⟨w.heap.size, 1, none⟩ = some (.slice none 0 0) := HB2.out.cell 1
    have b2 : w2.cell? ⟨w.heap.size, 2, none⟩ = some (.slice none 0 0) := HB2.out.cell 2
    have b3 : w2.cell? ⟨w.heap.size, 3, none⟩ = some (.slice none 0 0) := HB2.out.cell 3
    go_wp2_with fail
    have hs9 := (((HB2.out.set_ 0 (.slice none 0 0)).set_ 1 (.slice none 0 0)).set_ 2 (.slice none 0 0)).set_ 3 (.slice none 0 0)
    have HX9 := hide ((((HX2.out.setCell (p := ⟨w.heap.size, 0, none⟩) (Nat.le_refl _) (.slice none 0 0)).setCell (p := ⟨w.heap.size, 1, none⟩) (Nat.le_refl _) (.slice none 0 0)).setCell (p := ⟨w.heap.size, 2, none⟩) (Nat.le_refl _) (.slice none 0 0)).setCell (p := ⟨w.heap.size, 3, none⟩) (Nat.le_refl _) (.slice none 0 0))
    generalize (((w2.setCell ⟨w.heap.size, 0, none⟩ (.slice none 0 0)).setCell ⟨w.heap.size, 1, none⟩ (.slice none 0 0)).setCell ⟨w.heap.size, 2, none⟩ (.slice none 0 0)).setCell ⟨w.heap.size, 3, none⟩ (.slice none 0 0) = W9 at *
    have y0 : W9.cell? ⟨w.heap.size, 0, none⟩ = some (.slice none 0 0) := hs9.cell 0
    have y1 : W9.cell? ⟨w.heap.size, 1, none⟩ = some (.slice none 0 0) := hs9.cell 1
    have y2 : W9.cell? ⟨w.heap.size, 2, none⟩ = some (.slice none 0 0) := hs9.cell 2
    have y3 : W9.cell? ⟨w.heap.size, 3, none⟩ = some (.slice none 0 0) := hs9.cell 3
    exact bodyPost_ret (v := .tuple #[.agg #[.slice none 0 0, .slice none 0 0, .slice none 0 0, .slice none 0 0], .int .i64 3]) (by simp [results, Tryd.results8, go_sem, y0, y1, y2, y3]) rfl ⟨HX9.out, .inl ⟨3, HNS.out, rfl⟩⟩
  case pos =>
    obtain ⟨hn3, hdr⟩ := sign_drop hpre
    rw [hpre] at HP
    have HDR := hide hdr
    obtain ⟨i0, hi0, hz0, hz1, hz2⟩ := info_parts u8_info'
    obtain ⟨A', hs2, hr2, hA2⟩ := cut_from (P := Tryd.prog) Tryd.underlying23 hi0 hz1 (HX2.out.reads HR.out (Nat.le_refl _)) 3 c (by omega) hnc .i64
    rw [bytesV_drop] at hr2
    have hs2 : ∀ W : World, (Instr.slice 23 (.slice A n c) (some (.int .i64 3)) none none).run Tryd.prog W = .ok (.slice A' (n - 3) (c - 3)) W := hs2
    have HR2 := hide hr2
    clear hpre hdr hr2 hA2
    go_wp2_with fail
    refine HP.out.mono ?_
    rintro e w2 ⟨rfl, rfl⟩
    clear hcv HP HX0 HB0
    generalize w1.alloc (.cells #[.int .u8 82, .int .u8 79, .int .u8 49] 5 (3, 4)) = w2 at *
    have HX5 := hide (((HX2.out.alloc (.cells #[.slice A' (n - 3) (c - 3), .bool false] rdT)).alloc (.cells #[.pointer (some ⟨w2.heap.size, 0, none⟩)] rvT)).alloc (.cells #[.slice none 0 0, .slice none 0 0, .slice none 0 0, .slice none 0 0] obT))
    have hx5 := ((((Ext.refl w2).alloc (.cells #[.slice A' (n - 3) (c - 3), .bool false] rdT)).alloc (.cells #[.pointer (some ⟨w2.heap.size, 0, none⟩)] rvT)).alloc (.cells #[.slice none 0 0, .slice none 0 0, .slice none 0 0, .slice none 0 0] obT))
    have hgl := HB2.out.lt
    have HST0 := hide (show DecSt w w.heap.size w2.heap.size (w2.heap.size + 1) (w2.heap.size + 1 + 1) (some (bs.drop 3)) ⟨[], [], [], []⟩ ⟨none, 0, 0, none, 0, 0, none, 0, 0, none, 0, 0⟩ (((w2.alloc (.cells #[.slice A' (n - 3) (c - 3), .bool false] rdT)).alloc (.cells #[.pointer (some ⟨w2.heap.size, 0, none⟩)] rvT)).alloc (.cells #[.slice none 0 0, .slice none 0 0, .slice none 0 0, .slice none 0 0] obT)) from
      ⟨HB2.out.ext hx5, (Blk.new' _ rvT _ (by simp)).alloc _, ⟨A', n - 3, c - 3, bs.drop 3, ((Blk.new w2 rdT _).alloc _).alloc _, hx5.reads HR2.out (by omega), by omega, by omega, fun _ e => (Option.some.inj e).symm⟩, Blk.new' _ obT _ (by simp), World.ownsRow_nil _ _ _ _, World.ownsRow_nil _ _ _ _, World.ownsRow_nil _ _ _ _, World.ownsRow_nil _ _ _ _, HX5.out, by omega, by omega, by omega, by omega, by omega⟩)
    go_upto_region 5 with fail
    clear HX5 hx5 HR2 HB2 HX2 hs2
    generalize ((w2.alloc (.cells #[.slice A' (n - 3) (c - 3), .bool false] rdT)).alloc (.cells #[.pointer (some ⟨w2.heap.size, 0, none⟩)] rvT)).alloc (.cells #[.slice none 0 0, .slice none 0 0, .slice none 0 0, .slice none 0 0] obT) = W3 at *
    generalize w2.heap.size + 1 + 1 = go at *
    generalize w2.heap.size + 1 = gv at *
    generalize w2.heap.size = gr at *
    have HDM := hide (show decM (bs.drop 3) = (⟨(dec1 (bs.drop 3)).1, (dec2 (dec1 (bs.drop 3)).2).1, (dec3 (dec2 (dec1 (bs.drop 3)).2).2).1, (dec4 (dec3 (dec2 (dec1 (bs.drop 3)).2).2).2).1⟩, (dec4 (dec3 (dec2 (dec1 (bs.drop 3)).2).2).2).2) from rfl)
    have HM1 := hide (many_any wordM (fun l => ⟨l, [], [], []⟩) 21 cf1 w.heap.size gr gv go w (fun s acc v W hl h => each1_any _ gr gv go s _ v w W h hl) (some (bs.drop 3)) _ W3 HST0.out)
    have z0 := HST0.out.rv0
    clear HST0
    go_wp2_with fail
    refine HM1.out.mono ?_
    rintro e w4 ⟨rfl, v4, hst4⟩
    have HST4 := hide (show DecSt w w.heap.size gr gv go (dec1 (bs.drop 3)).2 ⟨(dec1 (bs.drop 3)).1, [], [], []⟩ v4 w4 from hst4)
    clear hst4 HM1 z0
    generalize (dec1 (bs.drop 3)).1 = cs at *
    generalize (dec1 (bs.drop 3)).2 = s1 at *
    have z0 := HST4.out.rv0
    have hk := hv_lt s1
    go_upto_region 6 with fail
    go_region_held3 (fun w' => w'.cell? ⟨gv, 0, none⟩ = some (.pointer (some ⟨gr, 0, none⟩)))
      (first | exact z0 | exact d0 | exact d1 | exact d2 | exact far1 d2 (Blk.ne_ HST8.out.box HST8.out.rv (by decide)) _ | (refine Ext.cell (w := w6) ?_ d0; ((repeat (first | with_reducible exact Ext.refl _ | with_reducible assumption | with_reducible refine Ext.alloc ?_ _ | with_reducible refine Ext.drew ?_ | with_reducible refine Ext.drewN ?_ _ | with_reducible refine Ext.setCell ?_ (by first | exact Nat.le_refl _ | assumption | (simp; done) | omega) _ | with_reducible refine Ext.trans ?_ (by with_reducible assumption))); done)) | (refine Ext.cell (w := w7) ?_ d1; ((repeat (first | with_reducible exact Ext.refl _ | with_reducible assumption | with_reducible refine Ext.alloc ?_ _ | with_reducible refine Ext.drew ?_ | with_reducible refine Ext.drewN ?_ _ | with_reducible refine Ext.setCell ?_ (by first | exact Nat.le_refl _ | assumption | (simp; done) | omega) _ | with_reducible refine Ext.trans ?_ (by with_reducible assumption))); done)) | (refine Ext.cell (w := w4) ?_ z0; ((repeat (first | with_reducible exact Ext.refl _ | with_reducible assumption | with_reducible refine Ext.alloc ?_ _ | with_reducible refine Ext.drew ?_ | with_reducible refine Ext.drewN ?_ _ | with_reducible refine Ext.setCell ?_ (by first | exact Nat.le_refl _ | assumption | (simp; done) | omega) _ | with_reducible refine Ext.trans ?_ (by with_reducible assumption))); done)) | fail)
      (first
        | (go_at_call_of 22 (Value.pointer (some ⟨gr, 0, none⟩)); refine (half_ds (HST4.out.to (by ((repeat (first | with_reducible exact Ext.refl _ | with_reducible assumption | with_reducible refine Ext.alloc ?_ _ | with_reducible refine Ext.drew ?_ | with_reducible refine Ext.drewN ?_ _ | with_reducible refine Ext.setCell ?_ (by first | exact Nat.le_refl _ | assumption | (simp; done) | omega) _ | with_reducible refine Ext.trans ?_ (by with_reducible assumption))); done)))).mono ?_; rintro e w6 ⟨rfl, -, hst6⟩
           have HST6 := hide hst6
           have d0 := hst6.rv0
           clear hst6)
        | (go_at_call_of 23 (Value.pointer (some ⟨gr, 0, none⟩)); refine (take_ds (hv s1) (by omega) (HST6.out.to (by ((repeat (first | with_reducible exact Ext.refl _ | with_reducible assumption | with_reducible refine Ext.alloc ?_ _ | with_reducible refine Ext.drew ?_ | with_reducible refine Ext.drewN ?_ _ | with_reducible refine Ext.setCell ?_ (by first | exact Nat.le_refl _ | assumption | (simp; done) | omega) _ | with_reducible refine Ext.trans ?_ (by with_reducible assumption))); done)))).mono ?_; rintro e w7 ⟨⟨A7, m7, c7, rfl, hr7, hl7, ha7⟩, -, hst7⟩
           have HST7 := hide hst7
           have HR7 := hide hr7
           have HA7 := hide ha7
           have HL7 := hide hl7
           have d1 := hst7.rv0
           clear hst7 hr7 ha7 hl7)
        | (go_at_call_of 15 (Value.slice A7 m7 c7); refine (bytesClone_any A7 m7 c7 w.heap.size _ _ ((show Ext w7 _ by ((repeat (first | with_reducible exact Ext.refl _ | with_reducible assumption | with_reducible refine Ext.alloc ?_ _ | with_reducible refine Ext.drew ?_ | with_reducible refine Ext.drewN ?_ _ | with_reducible refine Ext.setCell ?_ (by first | exact Nat.le_refl _ | assumption | (simp; done) | omega) _ | with_reducible refine Ext.trans ?_ (by with_reducible assumption))); done)).reads HR7.out HST7.out.ext.size) (bytesV_one _) (Nat.le_trans HST7.out.ext.size (Ext.size (w := w7) (by ((repeat (first | with_reducible exact Ext.refl _ | with_reducible assumption | with_reducible refine Ext.alloc ?_ _ | with_reducible refine Ext.drew ?_ | with_reducible refine Ext.drewN ?_ _ | with_reducible refine Ext.setCell ?_ (by first | exact Nat.le_refl _ | assumption | (simp; done) | omega) _ | with_reducible refine Ext.trans ?_ (by with_reducible assumption))); done)))) (by have := HL7.out; have := kv_len (hv s1) (hs_ s1); omega) HA7.out).mono ?_; rintro e w8 ⟨A8, c8, rfl, ho8, hx8⟩
           have HX8 := hide (Ext.trans (a := w7) (by ((repeat (first | with_reducible exact Ext.refl _ | with_reducible assumption | with_reducible refine Ext.alloc ?_ _ | with_reducible refine Ext.drew ?_ | with_reducible refine Ext.drewN ?_ _ | with_reducible refine Ext.setCell ?_ (by first | exact Nat.le_refl _ | assumption | (simp; done) | omega) _ | with_reducible refine Ext.trans ?_ (by with_reducible assumption))); done)) hx8)
           have HO8 := hide (own_mono ho8 (Nat.le_trans HST7.out.ext.size (Ext.size (w := w7) (by ((repeat (first | with_reducible exact Ext.refl _ | with_reducible assumption | with_reducible refine Ext.alloc ?_ _ | with_reducible refine Ext.drew ?_ | with_reducible refine Ext.drewN ?_ _ | with_reducible refine Ext.setCell ?_ (by first | exact Nat.le_refl _ | assumption | (simp; done) | omega) _ | with_reducible refine Ext.trans ?_ (by with_reducible assumption))); done)))))
           have HST8 := hide (HST7.out.to HX8.out)
           have d2 := HST8.out.rv0
           have k8 := HST8.out.box.frozen 1
           have k9 : w8.cell? ⟨go, 1, none⟩ = some (.slice v4.A2 v4.n2 v4.c2) := HST8.out.box.cell 1
           clear ho8 hx8)
        | fail)
    have hd9 : ∃ v9, DecSt w w.heap.size gr gv go (dec2 s1).2 ⟨cs, (dec2 s1).1, [], []⟩ v9 (w8.setCell ⟨go, 1, none⟩ (.slice A8 m7 c8)) := ⟨_, DecSt.data_ HST7.out HO8.out HX8.out⟩
    obtain ⟨v9, hst9⟩ := hd9
    have HST9 := hide hst9
    clear hst9 d0 d1 d2 k8 k9 z0 HST8 HX8 HO8 HL7 HA7 HR7 HST7 HST6 HST4
    generalize w8.setCell ⟨go, 1, none⟩ (.slice A8 m7 c8) = W9 at *
    generalize (dec2 s1).1 = ds at *
    generalize (dec2 s1).2 = s2 at *
    have HM2 := hide (many_any nmM (fun l => ⟨cs, ds, l, []⟩) 24 cf2 w.heap.size gr gv go w (fun s acc v W hl h => each2_any _ gr gv go s _ v w W h hl) s2 _ W9 HST9.out)
    have z0 := HST9.out.rv0
    clear HST9
    go_wp2_with fail
    refine HM2.out.mono ?_
    rintro e w10 ⟨rfl, v10, hst10⟩
    have HST10 := hide (show DecSt w w.heap.size gr gv go (dec3 s2).2 ⟨cs, ds, (dec3 s2).1, []⟩ v10 w10 from hst10)
    clear hst10 HM2 z0
    generalize (dec3 s2).1 = ns at *
    generalize (dec3 s2).2 = s3 at *
    have HM3 := hide (many_any neM (fun l => ⟨cs, ds, ns, l⟩) 26 cf3 w.heap.size gr gv go w (fun s acc v W hl h => each3_any _ gr gv go s _ v w W h hl) s3 _ w10 HST10.out)
    have z0 := HST10.out.rv0
    clear HST10
    go_wp2_with fail
    refine HM3.out.mono ?_
    rintro e w11 ⟨rfl, v11, hst11⟩
    have HST11 := hide (show DecSt w w.heap.size gr gv go (dec4 s3).2 ⟨cs, ds, ns, (dec4 s3).1⟩ v11 w11 from hst11)
    clear hst11 HM3 z0
    generalize (dec4 s3).1 = es at *
    generalize (dec4 s3).2 = s4 at *
    have HSM := hide (decM_sm (bs.drop 3))
    have HDR2 := hide (decM_rest (bs.drop 3))
    rw [HDM.out] at HSM HDR2
    have z0 := HST11.out.rv0
    obtain ⟨Ar, nr, cr, rr, hbr, -⟩ := HST11.out.rd
    have z1 : w11.cell? ⟨gr, 1, none⟩ = some (.bool s4.isNone) := hbr.cell 1
    clear hbr HDM hmf
    generalize hG2 : w.heap.size = g2 at *
    have f0 := HST11.out.res.frozen 0
    have f1 := HST11.out.res.frozen 1
    have f2 := HST11.out.res.frozen 2
    have f3 := HST11.out.res.frozen 3
    have b0 : w11.cell? ⟨g2, 0, none⟩ = some (.slice none 0 0) := HST11.out.res.cell 0
    have b1 : w11.cell? ⟨g2, 1, none⟩ = some (.slice none 0 0) := HST11.out.res.cell 1
    have b2 : w11.cell? ⟨g2, 2, none⟩ = some (.slice none 0 0) := HST11.out.res.cell 2
    have b3 : w11.cell? ⟨g2, 3, none⟩ = some (.slice none 0 0) := HST11.out.res.cell 3
    cases s4 with
    | none =>
      simp only [Option.isNone_none] at z1
      go_wp2_with fail
      have hbk := DecSt.back HST11.out (.slice none 0 0) (.slice none 0 0) (.slice none 0 0) (.slice none 0 0)
      generalize (((w11.setCell ⟨g2, 0, none⟩ (.slice none 0 0)).setCell ⟨g2, 1, none⟩ (.slice none 0 0)).setCell ⟨g2, 2, none⟩ (.slice none 0 0)).setCell ⟨g2, 3, none⟩ (.slice none 0 0) = W12 at *
      have HBK := hide hbk
      have y0 : W12.cell? ⟨g2, 0, none⟩ = some (.slice none 0 0) := hbk.1.cell 0
      have y1 : W12.cell? ⟨g2, 1, none⟩ = some (.slice none 0 0) := hbk.1.cell 1
      have y2 : W12.cell? ⟨g2, 2, none⟩ = some (.slice none 0 0) := hbk.1.cell 2
      have y3 : W12.cell? ⟨g2, 3, none⟩ = some (.slice none 0 0) := hbk.1.cell 3
      refine bodyPost_ret (v := .tuple #[.agg #[.slice none 0 0, .slice none 0 0, .slice none 0 0, .slice none 0 0], .int .i64 21]) (by simp [results, Tryd.results8, go_sem, y0, y1, y2, y3]) rfl ?_
      refine ⟨HBK.out.2.2, .inl ⟨21, .short ?_, rfl⟩⟩
      cases h : restR (bs.drop 3) with
      | none => rfl
      | some x =>
        have h1 := HDR2.out.2 x.1 x.2 h
        injection h1 with _ h1
        cases h1
    | some tl =>
      simp only [Option.isNone_some] at z1
      have HIS := hide (show ∀ o' s', restR (bs.drop 3) = some (o', s') → o' = ⟨cs, ds, ns, es⟩ by
        intro o' s' h
        have h1 := HDR2.out.2 o' s' h
        injection h1 with h1 _
        exact h1.symm)
      have HSO := hide (show restR (bs.drop 3) = some (⟨cs, ds, ns, es⟩, tl) by
        cases h : restR (bs.drop 3) with
        | none => have h1 := HDR2.out.1 h; cases h1
        | some x =>
          have h1 := HDR2.out.2 x.1 x.2 h
          injection h1 with h1 h2
          injection h2 with h2
          rw [h1, h2])
      obtain ⟨o, ho⟩ : ∃ o : ObD, ⟨cs, ds, ns, es⟩ = o := ⟨_, rfl⟩
      rw [ho] at HIS HSO HST11 HSM
      obtain ⟨A1, n1, c1, A2, n2, c2, A3, n3, c3, A4, n4, c4⟩ := v11
      have HEN := hide (encode_any o ⟨A1, n1, c1, A2, n2, c2, A3, n3, c3, A4, n4, c4⟩ w11 HST11.out.own.rd HSM.out)
      have q0 : w11.cell? ⟨go, 0, none⟩ = some (.slice A1 n1 c1) := HST11.out.box.cell 0
      have q1 : w11.cell? ⟨go, 1, none⟩ = some (.slice A2 n2 c2) := HST11.out.box.cell 1
      have q2 : w11.cell? ⟨go, 2, none⟩ = some (.slice A3 n3 c3) := HST11.out.box.cell 2
      have q3 : w11.cell? ⟨go, 3, none⟩ = some (.slice A4 n4 c4) := HST11.out.box.cell 3
      clear ho HDR2
      go_wp2_with fail
      refine HEN.out.mono ?_
      rintro e w12 ⟨hx12, hcase⟩
      have HST12 := hide (HST11.out.to hx12)
      have HR12 := hide (HST12.out.ext.reads HR.out (by omega))
      clear hx12 HEN HST11 f0 f1 f2 f3 b0 b1 b2 b3 q0 q1 q2 q3 z0 z1
      have f0 := HST12.out.res.frozen 0
      have f1 := HST12.out.res.frozen 1
      have f2 := HST12.out.res.frozen 2
      have f3 := HST12.out.res.frozen 3
      have b0 : w12.cell? ⟨g2, 0, none⟩ = some (.slice none 0 0) := HST12.out.res.cell 0
      have b1 : w12.cell? ⟨g2, 1, none⟩ = some (.slice none 0 0) := HST12.out.res.cell 1
      have b2 : w12.cell? ⟨g2, 2, none⟩ = some (.slice none 0 0) := HST12.out.res.cell 2
      have b3 : w12.cell? ⟨g2, 3, none⟩ = some (.slice none 0 0) := HST12.out.res.cell 3
      have q0 : w12.cell? ⟨go, 0, none⟩ = some (.slice A1 n1 c1) := HST12.out.box.cell 0
      have q1 : w12.cell? ⟨go, 1, none⟩ = some (.slice A2 n2 c2) := HST12.out.box.cell 1
      have q2 : w12.cell? ⟨go, 2, none⟩ = some (.slice A3 n3 c3) := HST12.out.box.cell 2
      have q3 : w12.cell? ⟨go, 3, none⟩ = some (.slice A4 n4 c4) := HST12.out.box.cell 3
      rcases hcase with ⟨hok, Ae, ne, ce, rfl, hoe⟩ | ⟨hno, z, hz, rfl⟩
      · have HOK := hide hok
        have HEQ := hide (equal_any Ae A ne ce n c _ g2 (encL o) bs w12 (Reads.of_own hoe) HR12.out)
        clear hok hoe
        by_cases heq : encL o = bs
        · have HEB := hide heq
          rw [decide_eq_true heq] at HEQ
          clear heq
          go_wp2_with fail
          refine HEQ.out.mono ?_
          rintro e w13 ⟨rfl, rfl⟩
          go_wp2_with fail
          have hbk := DecSt.back HST12.out (.slice A1 n1 c1) (.slice A2 n2 c2) (.slice A3 n3 c3) (.slice A4 n4 c4)
          generalize (((w13.setCell ⟨g2, 0, none⟩ (.slice A1 n1 c1)).setCell ⟨g2, 1, none⟩ (.slice A2 n2 c2)).setCell ⟨g2, 2, none⟩ (.slice A3 n3 c3)).setCell ⟨g2, 3, none⟩ (.slice A4 n4 c4) = W12 at *
          have HBK := hide hbk
          have y0 : W12.cell? ⟨g2, 0, none⟩ = some (.slice A1 n1 c1) := hbk.1.cell 0
          have y1 : W12.cell? ⟨g2, 1, none⟩ = some (.slice A2 n2 c2) := hbk.1.cell 1
          have y2 : W12.cell? ⟨g2, 2, none⟩ = some (.slice A3 n3 c3) := hbk.1.cell 2
          have y3 : W12.cell? ⟨g2, 3, none⟩ = some (.slice A4 n4 c4) := hbk.1.cell 3
          refine bodyPost_ret (v := .tuple #[.agg #[.slice A1 n1 c1, .slice A2 n2 c2, .slice A3 n3 c3, .slice A4 n4 c4], .int .i64 0]) (by simp [results, Tryd.results8, go_sem, y0, y1, y2, y3]) rfl ?_
          exact ⟨HBK.out.2.2, .inr ⟨o, ⟨A1, n1, c1, A2, n2, c2, A3, n3, c3, A4, n4, c4⟩, .ok HSO.out HOK.out HEB.out, HSM.out, rfl, HBK.out.2.1⟩⟩
        · have HEB := hide heq
          rw [decide_eq_false heq] at HEQ
          clear heq
          go_wp2_with fail
          refine HEQ.out.mono ?_
          rintro e w13 ⟨rfl, rfl⟩
          go_wp2_with fail
          have hbk := DecSt.back HST12.out (.slice none 0 0) (.slice none 0 0) (.slice none 0 0) (.slice none 0 0)
          generalize (((w13.setCell ⟨g2, 0, none⟩ (.slice none 0 0)).setCell ⟨g2, 1, none⟩ (.slice none 0 0)).setCell ⟨g2, 2, none⟩ (.slice none 0 0)).setCell ⟨g2, 3, none⟩ (.slice none 0 0) = W12 at *
          have HBK := hide hbk
          have y0 : W12.cell? ⟨g2, 0, none⟩ = some (.slice none 0 0) := hbk.1.cell 0
          have y1 : W12.cell? ⟨g2, 1, none⟩ = some (.slice none 0 0) := hbk.1.cell 1
          have y2 : W12.cell? ⟨g2, 2, none⟩ = some (.slice none 0 0) := hbk.1.cell 2
          have y3 : W12.cell? ⟨g2, 3, none⟩ = some (.slice none 0 0) := hbk.1.cell 3
          refine bodyPost_ret (v := .tuple #[.agg #[.slice none 0 0, .slice none 0 0, .slice none 0 0, .slice none 0 0], .int .i64 3]) (by simp [results, Tryd.results8, go_sem, y0, y1, y2, y3]) rfl ?_
          exact ⟨HBK.out.2.2, .inl ⟨3, .form fun o' s' h1 _ h2 => HEB.out (by rw [← HIS.out o' s' h1]; exact h2), rfl⟩⟩
      · have t0 : (z == 0) = false := by simpa using hz
        have t1 : (!(z == 0)) = true := by simpa using hz
        have HNO := hide hno
        clear hno
        go_upto_region 12 with fail
        go_wp2_with fail
        have hbk := DecSt.back HST12.out (.slice none 0 0) (.slice none 0 0) (.slice none 0 0) (.slice none 0 0)
        generalize (((w12.setCell ⟨g2, 0, none⟩ (.slice none 0 0)).setCell ⟨g2, 1, none⟩ (.slice none 0 0)).setCell ⟨g2, 2, none⟩ (.slice none 0 0)).setCell ⟨g2, 3, none⟩ (.slice none 0 0) = W12 at *
        have HBK := hide hbk
        have y0 : W12.cell? ⟨g2, 0, none⟩ = some (.slice none 0 0) := hbk.1.cell 0
        have y1 : W12.cell? ⟨g2, 1, none⟩ = some (.slice none 0 0) := hbk.1.cell 1
        have y2 : W12.cell? ⟨g2, 2, none⟩ = some (.slice none 0 0) := hbk.1.cell 2
        have y3 : W12.cell? ⟨g2, 3, none⟩ = some (.slice none 0 0) := hbk.1.cell 3
        refine bodyPost_ret (v := .tuple #[.agg #[.slice none 0 0, .slice none 0 0, .slice none 0 0, .slice none 0 0], .int .i64 3]) (by simp [results, Tryd.results8, go_sem, y0, y1, y2, y3]) rfl ?_
        exact ⟨HBK.out.2.2, .inl ⟨3, .form fun o' s' h1 h2 _ => HNO.out (by rw [← HIS.out o' s' h1]; exact h2), rfl⟩⟩
end Go.Proofs.YtekijkdgmfdnbaaDoor
