/- The contract of trace.Order. -/
import Derived.Test.YtngdhpjbfcgloaaOrCompact
import Derived.Test.YtngdhpjbfcgloaaOrLook
import Derived.Test.YtngdhpjbfcgloaaOrRecs
import Derived.Deep.RegionHeld3
namespace Go.Proofs.Ytngdhpjbfcgloaa
open Go.RowKit
set_option linter.unusedVariables false

def OrdRel (w : World) (l : List RecD) (n gm : Nat) (v6 v21 : Value) (wr : World) : Prop :=
  ∃ (k m q : Nat) (A : Option Addr) (c : Nat), k ≤ n ∧ v21 = .int .i64 (k : Int) ∧ v6 = .slice A m c ∧ q ≤ k ∧ (outL (l.take k)).length = m ∧ MapG wr gm q (fun t => heldF (l.take k) t) ∧ wr.ownsRow w.heap.size 24 2 (.slice A m c) m (edV (outL (l.take k))) ∧ Ext w wr
def OrdPost (w : World) (l : List RecD) (e : Ending) (w' : World) : Prop :=
  ∃ (m : Nat) (A : Option Addr) (c : Nat) (E : List EdI), e = .returned (.tuple #[.slice A m c, .int .i64 0]) ∧ (∀ x ∈ E, x ∈ outL l) ∧ ((outL l).length = 1 → m = 1) ∧ m ≤ (outL l).length ∧ w'.ownsRow w.heap.size 24 2 (.slice A m c) m (edV E) ∧ Ext w w'
theorem own_lower {w : World} {base base' size n : Nat} {e : TypeId} {v : Value} {xs : List Value} (h : w.ownsRow base e size v n xs) (hb : base' ≤ base) : w.ownsRow base' e size v n xs := by
  refine ⟨h.1, ?_⟩
  rcases h.2 with h0 | ⟨g, cap, cur, hv, hg, hr⟩
  · exact .inl h0
  · exact .inr ⟨g, cap, cur, hv, Nat.le_trans hb hg, hr⟩
theorem fr_map {w W w4 w5 : World} {gm q m : Nat} {F : Int → List Int} {vo : Value} {xs : List Value} (hm : MapG W gm q F) (ho : W.ownsRow w.heap.size 24 2 vo m xs) (hx : Ext w W) (hgm : w.heap.size ≤ gm)
    (row : Option Nat) (hrow : ∀ g, row = some g → w.heap.size ≤ g) (hne : vo.ownBlock = none ∨ vo.ownBlock ≠ row) (hg4 : W.grownBy w4 row) (hg5 : w4.grownBy w5 (some gm)) : w5.ownsRow w.heap.size 24 2 vo m xs ∧ Ext w w5 := by
  have a := (hm.apart ho (by decide)).1
  exact ⟨(ho.kept hg4 hne).kept hg5 (.inr (fun e => a e.symm)), Ext.grown (Ext.grown hx hg4 hrow) hg5 (fun k hk => by injection hk with hk; omega)⟩
theorem ext_grown {a b : World} (h : Ext a b) (row : Option Nat) : a.grownBy b row := ⟨h.os, h.tape, h.output, h.size, fun k hk _ => h.block k hk⟩
theorem own_ne {w : World} {b1 b2 m1 m2 s1 s2 : Nat} {t1 t2 : TypeId} {v1 v2 : Value} {xs ys : List Value} (h1 : w.ownsRow b1 t1 s1 v1 m1 xs) (h2 : w.ownsRow b2 t2 s2 v2 m2 ys) (hne : t1 ≠ t2) : v1.ownBlock = none ∨ v1.ownBlock ≠ v2.ownBlock := by
  rcases h1.2 with ⟨rfl, _⟩ | ⟨g, cap, cur, rfl, _, hg, _⟩
  · exact .inl rfl
  · refine .inr (fun e => ?_)
    exact own_blk_ne h2 hg (fun e => hne e.symm) e.symm
/-- What stays while a Take lays its edges. -/
def InFr (w W2 : World) (gm q gb : Nat) (F : Int → List Int) (A9 : Option Addr) (m9 c9 : Nat) (f : List Int) (cs : Array Value) (wr : World) : Prop :=
  Ext w wr ∧ MapG wr gm q F ∧ wr.ownsRow (gm + 1) 3 1 (.slice A9 m9 c9) m9 (intsV f) ∧ Blk wr gb 37 cs ∧ wr.heap[gm]? = W2.heap[gm]?
theorem InFr.alloc {w W2 wr : World} {gm q gb m9 c9 : Nat} {F : Int → List Int} {A9 : Option Addr} {f : List Int} {cs : Array Value} (h : InFr w W2 gm q gb F A9 m9 c9 f cs wr) (o : Obj) : InFr w W2 gm q gb F A9 m9 c9 f cs (wr.alloc o) :=
  ⟨h.1.alloc o, h.2.1.alloc o, h.2.2.1.alloc o, h.2.2.2.1.alloc o, (Below.heap_alloc wr o gm h.2.1.lt).trans h.2.2.2.2⟩
theorem InFr.app {w W2 wr w4 : World} {gm q gb m9 c9 m : Nat} {F : Int → List Int} {A9 : Option Addr} {f : List Int} {cs : Array Value} {vo : Value} {xs : List Value} (h : InFr w W2 gm q gb F A9 m9 c9 f cs wr)
    (ho : wr.ownsRow w.heap.size 24 2 vo m xs) (hg : wr.grownBy w4 vo.ownBlock) : InFr w W2 gm q gb F A9 m9 c9 f cs w4 := by
  obtain ⟨h1, h2, h3, h4, h5⟩ := h
  obtain ⟨a1, a2⟩ := h2.apart ho (by decide)
  refine ⟨Ext.grown h1 hg (fun k hk => (ho.lt k hk).1), h2.kept hg a1 a2, h3.kept hg (own_ne h3 ho (by decide)), h4.grown hg (fun e => own_blk_ne ho h4 (by decide) e.symm), (hg.block gm h2.lt a1).trans h5⟩
def InRel (w W2 : World) (gm q gb : Nat) (F : Int → List Int) (A9 : Option Addr) (m9 c9 : Nat) (f : List Int) (cs : Array Value) (E0 : List EdI) (ro : Int) (v6 v35 : Value) (wr : World) : Prop :=
  ∃ (j M : Nat) (A : Option Addr) (c : Nat), j ≤ m9 ∧ v35 = .int .i64 (j : Int) ∧ v6 = .slice A M c ∧ (E0 ++ (f.take j).map fun h => (h, ro)).length = M ∧ wr.ownsRow w.heap.size 24 2 (.slice A M c) M (edV (E0 ++ (f.take j).map fun h => (h, ro))) ∧ InFr w W2 gm q gb F A9 m9 c9 f cs wr
theorem reads2 (w : World) (t : TypeId) (a b : Value) : Reads (w.alloc (.cells #[a, b] t)) (w.alloc (.cells #[a, b] t)).heap.size 2 (some ⟨w.heap.size, 0, none⟩) 1 [a, b] :=
  ⟨rfl, fun _ => ⟨_, rfl, (Blk.new w t #[a, b]).lt, fun j u hu => by
    rw [add_lit, Nat.zero_add, (Blk.new w t #[a, b]).cell]
    simpa using hu⟩⟩
theorem edV_snoc (E : List EdI) (a b : Int) : edV (E ++ [(a, b)]) = edV E ++ [.int .i64 a, .int .i64 b] := by rw [edV_app]; rfl
theorem compact_none (w : World) : Calls Try.prog 23 #[.slice none 0 0] w fun e w' => e = .returned (.slice none 0 0) ∧ w = w' := by
  go_enter Try.func23, Try.ntmps23
  go_wp2_with fail
  go_ret
  exact ⟨rfl, rfl⟩
set_option maxHeartbeats 8000000 in
set_option maxRecDepth 100000 in
theorem order_any (l : List RecD) (ok : ∀ r ∈ l, r.Ok) (A : Option Addr) (n c B : Nat) (w : World) (hr : Reads w B 4 A n (recsV l)) (hB : B ≤ w.heap.size) (hn : l.length = n) (h60 : n ≤ 60) (hc : n ≤ c) :
    Calls Try.prog 10 #[.slice A n c] w (OrdPost w l) := by
  obtain ⟨i0, hi0, hz0, hz1, hz2⟩ := info_parts edge_infoO
  obtain ⟨j0, hj0, hy0, hy1, hy2⟩ := info_parts int_info
  have HC := hide (checked_ok l ok A n c B w hr hB hn (by omega) hc)
  have hmm := @run_makeMap Try.prog
  have HR := hide hr
  have HK := hide ok
  have HN := hide hn
  clear hr ok hn
  go_enter Try.func10, Try.ntmps10
  go_wp2_with fail
  refine HC.out.mono ?_
  rintro e w1 ⟨rfl, hx1⟩
  have HX1 := hide hx1
  clear hx1
  have HM0 := hide (MapG.made w1)
  have HXM := hide (HX1.out.alloc (.map #[] 0))
  have HGM := hide HX1.out.size
  go_upto_region 5 with fail
  generalize w1.alloc (.map #[] 0) = W1 at *
  obtain ⟨gm, hgm⟩ : ∃ x, w1.heap.size = x := ⟨_, rfl⟩
  rw [hgm] at HM0 HGM ⊢
  clear hgm hmm
  go_wp2_with fail
  go_loopw [6, 21] (OrdRel w l n gm) (fun _ v _ => n - (intOf v).toNat)
  case atStart => exact ⟨0, 0, 0, none, 0, Nat.zero_le _, rfl, rfl, Nat.le_refl _, rfl, HM0.out, World.ownsRow_nil _ _ _ _, HXM.out⟩
  case round =>
    obtain ⟨k, m, q, A1, c1, hk, rfl, rfl, hqk, hlm, hmp, ho, hx⟩ := hrel
    have HM := hide hmp
    have HO := hide ho
    have HX := hide hx
    have HLM := hide hlm
    clear hmp ho hx hlm
    by_cases hlt : k < n
    · obtain ⟨b, off, rfl, hb⟩ := reads4_addr HR.out (by omega)
      have hkl : k < l.length := by rw [HN.out]; exact hlt
      obtain ⟨q0, q1, q2, q3⟩ := rec_cells (HX.out.reads HR.out hB) k hlt hkl
      obtain ⟨o1, o2, o3, o4, o5, o6, o7, o8⟩ := HK.out l[k] (List.getElem_mem hkl)
      have HTK := hide (List.take_succ_eq_append_getElem hkl)
      generalize l[k] = r at *
      obtain ⟨rk, rc, rt, ro⟩ := r
      dsimp only at o1 o2 o3 o4 o5 o6 o7 o8 q0 q1 q2 q3
      have HHF := hide (show ∀ t, heldF (l.take (k + 1)) t = heldS t (heldF (l.take k) t) ⟨rk, rc, rt, ro⟩ from fun t => by rw [HTK.out, heldF_snoc])
      have HOL := hide (show outL (l.take (k + 1)) = outL (l.take k) ++ outS (l.take k) ⟨rk, rc, rt, ro⟩ from by rw [HTK.out, outL_snoc])
      go_upto_region 9 with fail
      have hbx : Blk (wr.alloc (recBox rk rc rt ro)) wr.heap.size 37 #[.int .i64 rk, .int .i64 rc, .int .i64 rt, .int .i64 ro] := Blk.new _ _ _
      have HO2 := hide (HO.out.alloc (recBox rk rc rt ro))
      have HM2 := hide (HM.out.alloc (recBox rk rc rt ro))
      have HX2 := hide (HX.out.alloc (recBox rk rc rt ro))
      generalize wr.alloc (recBox rk rc rt ro) = W2 at hbx HO2 HM2 HX2 ⊢
      obtain ⟨gb, hgb⟩ : ∃ x, wr.heap.size = x := ⟨_, rfl⟩
      rw [hgb] at hbx ⊢
      clear hgb
      have HBX := hide hbx
      have p0 := hbx.cell 0
      have p2 := hbx.cell 2
      have p3 := hbx.cell 3
      clear q0 q1 q2 q3 hbx
      obtain ⟨A9, m9, c9, hlook, hl9, hle9, ho9, hback⟩ := HM2.out.look (by simp only [maxLen]; omega) rt (by omega) (by omega)
      have HO9 := hide ho9
      have HBK := hide hback
      have HL9 := hide hl9
      have HLK := hide hlook
      clear hback ho9 hl9
      have hcase : rk = 1 ∨ rk = 2 ∨ 2 < rk := by omega
      rcases hcase with rfl | rfl | h3
      · obtain ⟨f, hf⟩ : ∃ f, heldF (l.take k) rt = f := ⟨_, rfl⟩
        have HFR := hide hf
        rw [hf] at HO9 HL9
        clear hf
        have HF1 := hide (show (fun t => heldF (l.take (k + 1)) t) = updG (fun t => heldF (l.take k) t) rt (f ++ [ro]) from funext fun t => by
          rw [HHF.out]
          unfold updG heldS
          by_cases h : rt = t
          · subst h; simp [HFR.out]
          · rw [if_neg h, if_neg (fun e => h e.symm)])
        have HF2 := hide (show outL (l.take (k + 1)) = outL (l.take k) ++ f.map (fun h => (h, ro)) from by rw [HOL.out]; simp [outS, HFR.out])
        have HBD := hide (show ∀ z ∈ f ++ [ro], -9223372036854775808 ≤ z ∧ z ≤ 9223372036854775807 from fun z hz => by
          rcases List.mem_append.1 hz with hz' | hz'
          · rw [← HFR.out] at hz'
            obtain ⟨x, hx, _, rfl⟩ := heldF_mem _ _ z hz'
            obtain ⟨_, _, _, _, _, _, a7, a8⟩ := HK.out x (List.mem_of_mem_take hx)
            omega
          · have : z = ro := by simpa using hz'
            omega)
        have HOLl := hide (show (outL (l.take k)).length ≤ 3600 from by
          have h1 := outL_len (l.take k)
          have h2 : (l.take k).length ≤ 60 := by rw [List.length_take]; omega
          exact Nat.le_trans h1 (Nat.mul_le_mul h2 h2))
        go_wp2_with fail
        go_loopw [6, 35] (InRel w W2 gm q gb (fun t => heldF (l.take k) t) A9 m9 c9 f #[.int .i64 1, .int .i64 rc, .int .i64 rt, .int .i64 ro] (outL (l.take k)) ro) (fun _ v _ => m9 - (intOf v).toNat)
        case atStart => exact ⟨0, m, A1, c1, Nat.zero_le _, rfl, rfl, by simp [HLM.out], by simpa using HO2.out, HX2.out, HM2.out, HO9.out, HBX.out, rfl⟩
        case round =>
          obtain ⟨j, M, A3, c3, hj, rfl, rfl, hM, ho3, hin⟩ := hrel
          have HM3 := hide hM
          have HIN := hide hin
          have HO3 := hide ho3
          clear hM hin ho3
          by_cases hjt : j < m9
          · obtain ⟨g9, rfl, -, -, -, -⟩ := own_addr HIN.out.2.2.1 (by omega)
            have hjf : j < f.length := by rw [HL9.out]; exact hjt
            have qh : wr.cell? ⟨g9, j, none⟩ = some (.int .i64 f[j]) := by
              have := HIN.out.2.2.1.cells (g := g9) rfl j (.int .i64 f[j]) (by simp [intsV, hjf])
              rwa [add_lit, Nat.zero_add] at this
            have q3 : wr.cell? ⟨gb, 3, none⟩ = some (.int .i64 ro) := HIN.out.2.2.2.1.cell 3
            have HT := hide (List.take_succ_eq_append_getElem hjf)
            generalize f[j] = h at *
            have hM36 : M ≤ 3700 := by
              have h1 := HM3.out
              have h2 := HOLl.out
              simp only [List.length_append, List.length_map, List.length_take] at h1
              omega
            have HSN := hide (show outL (l.take k) ++ (f.take (j + 1)).map (fun h => (h, ro)) = (outL (l.take k) ++ (f.take j).map (fun h => (h, ro))) ++ [(h, ro)] from by rw [HT.out]; simp)
            obtain ⟨E, hE⟩ : ∃ E, outL (l.take k) ++ (f.take j).map (fun h => (h, ro)) = E := ⟨_, rfl⟩
            rw [hE] at HM3 HO3 HSN
            clear hE
            have HBS := hide (HIN.out.1.size)
            go_wp2_with (at_builtin; refine wpList_append_any _ rfl (.tmp 39) (.tmp 44) 22 rfl w.heap.size 24 i0 _ 2 16 Try.underlying22 hi0 hz0 hz1 hz2 rfl (by omega) _ M (edV E) rfl (HO3.out.alloc _) _ _ 1 1 [.int .i64 h, .int .i64 ro] rfl (reads2 _ _ _ _) (by simp [Value.oneCell']) (by simp only [maxLen]; omega) (by omega) (Nat.le_trans HBS.out (by simp)) ?_; intro A4 c4 w4 ho4 hg4 ha4)
            have HIN4 := hide ((HIN.out.alloc _).app (HO3.out.alloc _) hg4)
            go_roundw
            case rel => exact ⟨j + 1, M + 1, A4, c4, by omega, by go_num, rfl, by rw [HSN.out, List.length_append, HM3.out]; rfl, by rw [HSN.out, edV_snoc]; exact ho4, HIN4.out⟩
            case measure => simp [intOf]; omega
          · have hjm : j = m9 := by omega
            subst hjm
            rw [show f.take j = f from List.take_of_length_le (by rw [HL9.out]; exact Nat.le_refl _), ← HF2.out] at HM3 HO3
            obtain ⟨hx3, hm3, ho93, hb3, hbl⟩ := HIN.out
            obtain ⟨A8, m8, c8, hl8, hlen8, hle8, ho8, hbk8⟩ := hm3.look (by simp only [maxLen]; omega) rt (by omega) (by omega)
            obtain ⟨rfl, rfl, rfl⟩ : A9 = A8 ∧ j = m8 ∧ c9 = c8 := by
              have heq := look_det HM2.out hm3 hbl (by omega) (by omega) HLK.out hl8
              injection heq with e1 e2 e3
              exact ⟨e1, e2, e3⟩
            have hgne : gm ≠ gb := by
              rintro rfl
              obtain ⟨D, ⟨es, clock, h0, _⟩, _⟩ := hm3
              unfold Blk at hb3
              rw [h0] at hb3
              cases hb3
            have p2' : wr.cell? ⟨gb, 2, none⟩ = some (.int .i64 rt) := hb3.cell 2
            have p3' : wr.cell? ⟨gb, 3, none⟩ = some (.int .i64 ro) := hb3.cell 3
            have HM4 := hide hm3
            have HX4 := hide hx3
            have HO94 := hide ho93
            have HB4 := hide hb3
            have HBK8 := hide hbk8
            have HUP := hide (fun (W : World) (hxW : Ext wr W) (A4 : Option Addr) (c4 : Nat) (w4 : World) (ho4 : w4.ownsRow (gm + 1) 3 1 (.slice A4 (j + 1) c4) (j + 1) (intsV f ++ [.int .i64 ro])) (hg4 : W.grownBy w4 (Value.ownBlock (.slice A9 j c9)))
              (ha4 : Value.ownBlock (.slice A4 (j + 1) c4) = Value.ownBlock (.slice A9 j c9) ∨ Value.ownBlock (.slice A4 (j + 1) c4) = some W.heap.size) =>
              show w4.cell? ⟨gb, 2, none⟩ = some (.int .i64 rt) ∧ w4.cell? ⟨gb, 3, none⟩ = some (.int .i64 ro) ∧ Ext w w4 ∧ ∃ w5, (Instr.mapUpdate 47 (.map (some gm)) (.int .i64 rt) (.slice A4 (j + 1) c4)).run Try.prog w4 = .ok () w5 ∧ MapG w5 gm (q + 1) (updG (fun t => heldF (l.take k) t) rt (f ++ [ro])) ∧ w5.ownsRow w.heap.size 24 2 (.slice A3 M c3) M (edV (outL (l.take (k + 1)))) ∧ Ext w w5 ∧ w4.grownBy w5 (some gm) from by
                have hne : ∀ e : some gb = Value.ownBlock (.slice A9 j c9), False := fun e => own_blk_ne HO94.out HB4.out (by decide) e.symm
                have hgw : wr.grownBy w4 (Value.ownBlock (.slice A9 j c9)) := grown_trans (ext_grown hxW _) hg4
                have hrow : ∀ g, Value.ownBlock (.slice A9 j c9) = some g → w.heap.size ≤ g := fun g hg => by
                  have := (HO94.out.lt g hg).1
                  have := HGM.out
                  omega
                obtain ⟨w5, hr5, hm5, hg5⟩ := HBK8.out w4 (.slice A4 (j + 1) c4) (f ++ [ro]) hgw (by rw [List.length_append, HL9.out]; simpa [intsV] using ho4) HBD.out (by rw [List.length_append, HL9.out]; simp; omega) (ha4.imp id (fun h => ⟨_, h, hxW.size⟩))
                obtain ⟨a1, a2⟩ := fr_map HM4.out HO3.out HX4.out HGM.out (Value.ownBlock (.slice A9 j c9)) hrow (own_ne HO3.out HO94.out (by decide)) hgw hg5
                exact ⟨hgw.cell p2' hne, hgw.cell p3' hne, Ext.grown HX4.out hgw hrow, w5, hr5, hm5, a1, a2, hg5⟩)
            clear hx3 hm3 ho93 hb3 hbl hl8 hlen8 ho8 hbk8 HIN HLK HBK HO9 HM2 HO2 HX2 HBX p0 p2 p3
            have hb1 : gm + 1 ≤ wr.heap.size := HM4.out.lt
            go_upto_region 17 with fail
            go_region_held3 (fun w' => w'.cell? ⟨gb, 2, none⟩ = some (.int .i64 rt) ∧ w'.cell? ⟨gb, 3, none⟩ = some (.int .i64 ro))
              (first | (refine ⟨hg5.cell q2 (fun e => hgne (by injection e with e; exact e.symm)), hg5.cell q3 (fun e => hgne (by injection e with e; exact e.symm))⟩) | (refine ⟨q2, q3⟩) | (refine ⟨?_, ?_⟩ <;> (refine Ext.cell (w := wr) ?_ (by assumption); ((repeat (first | with_reducible exact Ext.refl _ | with_reducible assumption | with_reducible refine Ext.alloc ?_ _ | with_reducible refine Ext.drew ?_ | with_reducible refine Ext.drewN ?_ _ | with_reducible refine Ext.setCell ?_ (by first | exact Nat.le_refl _ | assumption | (simp; done) | omega) _ | with_reducible refine Ext.trans ?_ (by with_reducible assumption))); done))) | fail)
              (first
                | (refine step_append_any _ (by rfl) (.tmp 50) (.tmp 53) 26 (by rfl) (gm + 1) 3 j0 _ 1 8 Try.underlying26 hj0 hy0 hy1 hy2 rfl (by omega) (.slice A9 j c9) j (intsV f) (by rfl) (Ext.own (w := wr) (by ((repeat (first | with_reducible exact Ext.refl _ | with_reducible assumption | with_reducible refine Ext.alloc ?_ _ | with_reducible refine Ext.drew ?_ | with_reducible refine Ext.drewN ?_ _ | with_reducible refine Ext.setCell ?_ (by first | exact Nat.le_refl _ | assumption | (simp; done) | omega) _ | with_reducible refine Ext.trans ?_ (by with_reducible assumption))); done)) HO94.out) _ (some ⟨wr.heap.size, 0, none⟩) 1 1 [.int .i64 ro] (by rfl) (Blk.new wr 3 #[.int .i64 ro]).reads (by simp [Value.oneCell']) (by simp only [maxLen]; omega) (by omega) (Nat.le_trans hb1 (Ext.size (w := wr) (by ((repeat (first | with_reducible exact Ext.refl _ | with_reducible assumption | with_reducible refine Ext.alloc ?_ _ | with_reducible refine Ext.drew ?_ | with_reducible refine Ext.drewN ?_ _ | with_reducible refine Ext.setCell ?_ (by first | exact Nat.le_refl _ | assumption | (simp; done) | omega) _ | with_reducible refine Ext.trans ?_ (by with_reducible assumption))); done)))) ?_; intro A4 c4 w4 ho4 hg4 ha4; obtain ⟨q2, q3, hx4, w5, hr5, hm5, ho5, hx5, hg5⟩ := HUP.out _ (by ((repeat (first | with_reducible exact Ext.refl _ | with_reducible assumption | with_reducible refine Ext.alloc ?_ _ | with_reducible refine Ext.drew ?_ | with_reducible refine Ext.drewN ?_ _ | with_reducible refine Ext.setCell ?_ (by first | exact Nat.le_refl _ | assumption | (simp; done) | omega) _ | with_reducible refine Ext.trans ?_ (by with_reducible assumption))); done)) A4 c4 w4 ho4 hg4 ha4)
                | fail)
            clear hr5 hg5 q2 q3 hx4 p2' p3' ho4 hg4 ha4
            go_wp2_with fail
            go_roundw
            case rel => exact ⟨k + 1, M, q + 1, A3, c3, by omega, by go_num, rfl, by omega, HM3.out, by rw [HF1.out]; exact hm5, ho5, hx5⟩
            case measure => simp [intOf]; omega
      · have HF2 := hide (show outL (l.take (k + 1)) = outL (l.take k) from by rw [HOL.out]; simp [outS])
        obtain ⟨f, hf⟩ : ∃ f, heldF (l.take k) rt = f := ⟨_, rfl⟩
        have HFR := hide hf
        rw [hf] at HO9 HL9
        clear hf
        have hw3 : W2.heap.size = W2.heap.size := rfl
        go_wp2_with fail
        refine (index_ints A9 m9 c9 W2.heap.size f ro W2 (Reads.of_own HO9.out) (by simp only [maxLen]; omega)).mono ?_
        rintro e w3 ⟨zi, rfl, hidx, rfl⟩
        rcases hidx with ⟨i, hi, rfl, hv, hfirst⟩ | ⟨rfl, hnot⟩
        · have hil : i < m9 := by rw [← HL9.out]; exact hi
          obtain ⟨g9, rfl, hg91, hg92, _⟩ := own_addr HO9.out (by omega)
          have HER := hide (show (intsV f).eraseIdx i = intsV (f.erase ro) by rw [intsV_eraseIdx, erase_first f ro i hi hv hfirst])
          have HF1 := hide (show (fun t => heldF (l.take (k + 1)) t) = updG (fun t => heldF (l.take k) t) rt (f.erase ro) from funext fun t => by
            rw [HHF.out]
            unfold updG heldS
            by_cases h : rt = t
            · subst h; simp [HFR.out]
            · rw [if_neg h, if_neg (fun e => h e.symm)])
          have hmem : ro ∈ f := hv ▸ List.getElem_mem hi
          have HLE := hide (show (f.erase ro).length = m9 - 1 from by rw [List.length_erase_of_mem hmem, HL9.out])
          have HBD := hide (show ∀ z ∈ f.erase ro, -9223372036854775808 ≤ z ∧ z ≤ 9223372036854775807 from fun z hz => by
            have hz' := List.mem_of_mem_erase hz
            rw [← HFR.out] at hz'
            obtain ⟨x, hx, _, rfl⟩ := heldF_mem _ _ z hz'
            obtain ⟨_, _, _, _, _, _, a7, a8⟩ := HK.out x (List.mem_of_mem_take hx)
            omega)
          have hgne : gm ≠ gb := by
            rintro rfl
            obtain ⟨D, ⟨es, clock, h0, _⟩, _⟩ := HM2.out
            have hb3 := HBX.out
            unfold Blk at hb3
            rw [h0] at hb3
            cases hb3
          have hgl := HM2.out.lt
          clear hv hfirst hlook hmem
          go_upto_region 21 with fail
          have HCLN := hide (iclone_any (some ⟨g9, 0, none⟩) m9 c9 W2.heap.size (intsV f) W2.drew (Reads.of_own HO9.out) (intsV_one _) (Nat.le_refl _) (by omega) (by simp))
          have HDEL := hide (fun (A3 : Option Addr) (c3 : Nat) (w3 : World) (hx3 : Ext W2.drew w3) (ho3 : w3.ownsRow W2.drew.heap.size 3 1 (.slice A3 m9 c3) m9 (intsV f)) =>
            show ∃ g3, A3 = some ⟨g3, 0, none⟩ ∧ Calls Try.prog 16 #[.slice A3 m9 c3, .int .i64 (i : Int), .int .i64 ((i : Int) + 1)] w3 fun e w4 => e = .returned (.slice (some ⟨g3, 0, none⟩) (m9 - 1) c3) ∧ Ext W2 w4 ∧ ∃ w5, (Instr.mapUpdate 47 (.map (some gm)) (.int .i64 rt) (.slice (some ⟨g3, 0, none⟩) (m9 - 1) c3)).run Try.prog w4 = .ok () w5 ∧ MapG w5 gm (q + 1) (updG (fun t => heldF (l.take k) t) rt (f.erase ro)) ∧ w4.grownBy w5 (some gm) from by
              obtain ⟨g3, rfl, hg3a, hg3b, _⟩ := own_addr ho3 (by omega)
              refine ⟨g3, rfl, (delete_own _ g3 m9 c3 i (intsV f) _ ho3 (intsV_one _) hil).mono ?_⟩
              rintro e w4 ⟨rfl, ho4, hg4⟩
              have hx4 : Ext W2 w4 := Ext.grown ((Ext.refl W2).drew.trans hx3) hg4 (fun j hj => by injection hj with hj; rw [← hj]; exact hg3a)
              rw [HER.out] at ho4
              obtain ⟨w5, hr5, hm5, hg5⟩ := HBK.out w4 (.slice (some ⟨g3, 0, none⟩) (m9 - 1) c3) (f.erase ro) ⟨hx4.os, hx4.tape, hx4.output, hx4.size, fun k hk _ => hx4.block k hk⟩ (by rw [HLE.out]; exact own_lower ho4 hgl) HBD.out (by rw [HLE.out]; omega) (.inr ⟨g3, rfl, hg3a⟩)
              exact ⟨rfl, hx4, w5, hr5, hm5, hg5⟩)
          have hwi : IntKind.i64.wrap ((i : Int) + 1) = (i : Int) + 1 := by rw [IntKind.wrap_i64]; omega
          go_region_held3 (fun w' => w'.cell? ⟨gb, 2, none⟩ = some (.int .i64 rt))
            (first | (refine hg5.cell (Ext.cell (w := W2) hx4 p2) (fun e => hgne (by injection e with e; exact e.symm))) | (refine Ext.cell (w := W2) hx4 p2) | (refine Ext.cell (w := W2) ((Ext.refl W2).drew.trans hx3) p2) | (refine Ext.cell (w := W2) ?_ p2; ((repeat (first | with_reducible exact Ext.refl _ | with_reducible assumption | with_reducible refine Ext.alloc ?_ _ | with_reducible refine Ext.drew ?_ | with_reducible refine Ext.drewN ?_ _ | with_reducible refine Ext.setCell ?_ (by first | exact Nat.le_refl _ | assumption | (simp; done) | omega) _ | with_reducible refine Ext.trans ?_ (by with_reducible assumption))); done)) | fail)
            (first
              | (go_at_call 17; refine HCLN.out.mono ?_; rintro e w3 ⟨A3, c3, rfl, ho3, hx3⟩)
              | (obtain ⟨g3, rfl, hdl⟩ := HDEL.out A3 c3 w3 hx3 ho3; go_at_call 16; refine hdl.mono ?_; rintro e w4 ⟨rfl, hx4, w5, hr5, hm5, hg5⟩)
              | fail)
          obtain ⟨a1, a2⟩ := fr_map HM2.out HO2.out HX2.out HGM.out none (fun g hg => by cases hg) (by cases h : Value.ownBlock (.slice A1 m c1) <;> simp) (ext_grown hx4 none) hg5
          have HA1 := hide a1
          have HA2 := hide a2
          have HM5 := hide hm5
          clear hr5 hg5 hx4 a1 a2 hm5 p0 p2 p3 hwi
          go_wp2_with fail
          go_roundw
          case rel => exact ⟨k + 1, m, q + 1, A1, c1, by omega, by go_num, rfl, by omega, by rw [HF2.out]; exact HLM.out, by rw [HF1.out]; exact HM5.out, by rw [HF2.out]; exact HA1.out, HA2.out⟩
          case measure => simp [intOf]; omega
        · have HF1 := hide (show (fun t => heldF (l.take (k + 1)) t) = fun t => heldF (l.take k) t from funext fun t => by
            rw [HHF.out]
            unfold heldS
            by_cases h : rt = t
            · subst h; simp [HFR.out, List.erase_of_not_mem hnot]
            · simp [h])
          clear hnot
          go_wp2_with fail
          go_roundw
          case rel => exact ⟨k + 1, m, q, A1, c1, by omega, by go_num, rfl, by omega, by rw [HF2.out]; exact HLM.out, by rw [HF1.out]; exact HM2.out, by rw [HF2.out]; exact HO2.out, HX2.out⟩
          case measure => simp [intOf]; omega
      · have t1 : (rk == 1) = false := by rw [beq_eq_false_iff_ne]; omega
        have t2 : (rk == 2) = false := by rw [beq_eq_false_iff_ne]; omega
        have n1 : rk ≠ 1 := by omega
        have n2 : rk ≠ 2 := by omega
        have HF1 := hide (show (fun t => heldF (l.take (k + 1)) t) = fun t => heldF (l.take k) t from funext fun t => by rw [HHF.out]; simp [heldS, n1, n2])
        have HF2 := hide (show outL (l.take (k + 1)) = outL (l.take k) from by rw [HOL.out]; simp [outS, n1])
        clear n1 n2
        go_wp2_with fail
        go_roundw
        case rel => exact ⟨k + 1, m, q, A1, c1, by omega, by go_num, rfl, by omega, by rw [HF2.out]; exact HLM.out, by rw [HF1.out]; exact HM2.out, by rw [HF2.out]; exact HO2.out, HX2.out⟩
        case measure => simp [intOf]; omega
    · have hkn : k = n := by omega
      subst hkn
      have hlk : l.take k = l := List.take_of_length_le (by rw [HN.out]; exact Nat.le_refl _)
      rw [hlk] at HO HLM
      have hm36 : m ≤ 3600 := by
        have h1 := outL_len l
        have h2 := HLM.out
        have h3 := HN.out
        rw [h3] at h1
        have h4 := Nat.mul_le_mul h60 h60
        omega
      obtain ⟨A', c', hv, hmc, hcm, hnone⟩ := own_form HO.out
      obtain ⟨rfl, rfl⟩ : A1 = A' ∧ c1 = c' := by
        injection hv with a b c
        exact ⟨a, c⟩
      have HNO := hide hnone
      clear hlk hv hnone HM HGM HM0
      rcases A1 with _ | ad
      · obtain ⟨rfl, rfl⟩ := HNO.out rfl
        go_wp2_with fail
        refine (Try.slices_SortFunc_enone none 0 _ _).mono ?_
        rintro e w2 ⟨rfl, hw2⟩
        have HX2 := hide (show Ext w w2 from hw2 ▸ HX.out)
        clear hw2
        go_wp2_with fail
        refine (compact_none _).mono ?_
        rintro e w3 ⟨rfl, rfl⟩
        go_wp2_with fail
        refine (eclone_any none 0 0 0 [] _ Reads.none_ (by simp) (Nat.zero_le _) (by omega) (fun _ => rfl)).mono ?_
        rintro e w4 ⟨A5, c5, rfl, ho5, hx5⟩
        go_wp2_with fail
        go_ret2
        exact ⟨0, A5, c5, [], rfl, by simp, fun h => by have := HLM.out; omega, Nat.zero_le _, own_mono ho5 HX2.out.size, HX2.out.trans hx5⟩
      · obtain ⟨g, rfl, hgb⟩ : ∃ g, ad = ⟨g, 0, none⟩ ∧ w.heap.size ≤ g := by
          rcases HO.out.2 with ⟨h1, _⟩ | ⟨g, cap, cur, h1, h2, _⟩
          · injection h1 with h1
            cases h1
          · injection h1 with h1
            injection h1 with h1
            exact ⟨g, h1, h2⟩
        clear HNO
        go_wp2_with fail
        refine (sort_edges (outL l) g m c1 w.heap.size wr HO.out (by omega)).mono ?_
        rintro e w2 ⟨rfl, E1, hp, ho2, hg2⟩
        have HP := hide hp
        have HO2 := hide ho2
        have HX2 := hide (HX.out.grown hg2 (fun j hj => by injection hj with hj; omega))
        clear hp ho2 hg2 HO HX
        go_wp2_with fail
        refine (compact_edges E1 g m c1 w.heap.size w2 HO2.out (by omega)).mono ?_
        rintro e w3 ⟨m3, E3, rfl, hE3, hone, hm3, ho3, hg3⟩
        have HE3 := hide hE3
        have HONE := hide hone
        have HO3 := hide ho3
        have HX3 := hide (HX2.out.grown hg3 (fun j hj => by injection hj with hj; omega))
        clear hE3 hone ho3 hg3 HO2 HX2
        go_wp2_with fail
        refine (eclone_any (some ⟨g, 0, none⟩) m3 c1 w3.heap.size (edV E3) w3 (Reads.of_own HO3.out) (edV_one _) (Nat.le_refl _) (by omega) (fun e => by cases e)).mono ?_
        rintro e w4 ⟨A5, c5, rfl, ho5, hx5⟩
        go_wp2_with fail
        go_ret2
        exact ⟨m3, A5, c5, E3, rfl, fun x hx => HP.out.mem_iff.1 (HE3.out x hx), fun h => HONE.out (by rw [← HLM.out]; exact h), by rw [HLM.out]; exact hm3, own_mono ho5 HX3.out.size, HX3.out.trans hx5⟩
end Go.Proofs.Ytngdhpjbfcgloaa
