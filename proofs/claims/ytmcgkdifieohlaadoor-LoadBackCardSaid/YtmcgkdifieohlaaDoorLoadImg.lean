/- Image of a file: what it accepts, and as what. -/
import Derived.Test.YtmcgkdifieohlaaDoorLoadPage
namespace Go.Proofs.YtmcgkdifieohlaaDoor
open Go.RowKit
set_option linter.unusedVariables false

theorem parse_step {cnt k : Nat} {r0 rest : List UInt8} {qs : List PgD} {p : PgD} {r : List UInt8} (hk : k < cnt) (h : parse cnt r0 = (parse (cnt - k) rest).map (qs.map era ++ ·)) (hp : pageL rest = some (era p, r)) :
    parse cnt r0 = (parse (cnt - (k + 1)) r).map ((qs ++ [p]).map era ++ ·) := by
  obtain ⟨j, hj⟩ : ∃ j, cnt - k = j + 1 := ⟨cnt - k - 1, by omega⟩
  rw [h, hj, show cnt - (k + 1) = j by omega, parse, hp, Option.bind_some, Option.map_map]
  congr 1
  funext l
  simp
theorem parse_none {cnt k : Nat} {r0 rest : List UInt8} {qs : List PgD} (hk : k < cnt) (h : parse cnt r0 = (parse (cnt - k) rest).map (qs.map era ++ ·)) (hp : pageL rest = none) : parse cnt r0 = none := by
  obtain ⟨j, hj⟩ : ∃ j, cnt - k = j + 1 := ⟨cnt - k - 1, by omega⟩
  rw [h, hj, parse, hp]
  rfl
theorem parse_end {cnt : Nat} {r0 rest : List UInt8} {qs : List PgD} (h : parse cnt r0 = (parse (cnt - cnt) rest).map (qs.map era ++ ·)) : parse cnt r0 = some (qs.map era) := by
  rw [h, Nat.sub_self, parse]
  simp
structure IS (w : World) (g : Nat) (en : Int) (qs : List PgD) (k : Nat) (A : Option Addr) (c : Nat) (wr : World) : Prop where
  res : Blk wr w.heap.size 29 zeroIm
  im : Blk wr g 29 #[.int .u32 en, .slice A k c]
  own : wr.ownsRow w.heap.size 39 3 (.slice A k c) k (pgsV qs)
  rows : ∀ q ∈ qs, PgOwn wr w.heap.size q ∧ q.Num
  far : w.heap.size < g
  ext : Ext w wr
section
variable {w : World} {g : Nat} {en : Int} {qs : List PgD} {k : Nat} {A : Option Addr} {c : Nat} {wr w' : World}
theorem IS.keep (h : IS w g en qs k A c wr) (hx : Ext wr w') : IS w g en qs k A c w' :=
  ⟨h.res.ext hx, h.im.ext hx, hx.own h.own, fun q hq => ⟨hx.own (h.rows q hq).1, (h.rows q hq).2⟩, h.far, h.ext.trans hx⟩
theorem IS.imGrown (h : IS w g en qs k A c wr) (hg : wr.grownBy w' (Value.ownBlock (.slice A k c))) : Blk w' g 29 #[.int .u32 en, .slice A k c] :=
  h.im.grown hg (fun e => own_blk_ne h.own h.im (by decide) e.symm)
theorem IS.step (h : IS w g en qs k A c wr) (p : PgD) (hp : PgOwn wr w.heap.size p) (hn : p.Num) {A4 : Option Addr} {c4 : Nat}
    (ho : w'.ownsRow w.heap.size 39 3 (.slice A4 (k + 1) c4) (k + 1) (pgsV qs ++ pgC p)) (hg : wr.grownBy w' (Value.ownBlock (.slice A k c))) :
    IS w g en (qs ++ [p]) (k + 1) A4 c4 (w'.setCell ⟨g, 1, none⟩ (.slice A4 (k + 1) c4)) := by
  have hpg : pgsV qs ++ pgC p = pgsV (qs ++ [p]) := by simp [pgsV]
  rw [hpg] at ho
  have him := h.imGrown hg
  have rowk : ∀ r, PgOwn wr w.heap.size r → PgOwn (w'.setCell ⟨g, 1, none⟩ (.slice A4 (k + 1) c4)) w.heap.size r := fun r hr => by
    have h1 : PgOwn w' w.heap.size r := own_keptB hr hg (fun j hj e => own_own_ne hr h.own (by decide) j hj e)
    exact own_far h1 (own_blk_ne h1 him (by decide)) _
  refine ⟨(h.res.grown hg (fun e => own_blk_ne h.own h.res (by decide) e.symm)).far (show w.heap.size ≠ g by have := h.far; omega) _, him.set_ 1 _, own_far ho (own_blk_ne ho him (by decide)) _, fun r hr => ?_, h.far,
    (h.ext.grown hg (fun j e => (h.own.lt _ e).1)).setCell (by show _ ≤ g; have := h.far; omega) _⟩
  rcases List.mem_append.1 hr with hr | hr
  · exact ⟨rowk r (h.rows r hr).1, (h.rows r hr).2⟩
  · rw [List.mem_singleton.1 hr]; exact ⟨rowk p hp, hn⟩
end
def ImRel (w : World) (g : Nat) (en : Int) (cnt : Nat) (r0 : List UInt8) (v i : Value) (wr : World) : Prop :=
  ∃ (k n6 c6 c : Nat) (A A6 : Option Addr) (qs : List PgD) (rest : List UInt8), k ≤ cnt ∧ i = .int .i64 k ∧ v = .slice A6 n6 c6 ∧ n6 ≤ c6 ∧ c6 ≤ maxLen ∧ n6 ≤ 512 ∧ Reads wr w.heap.size 1 A6 n6 (bytesV rest) ∧ parse cnt r0 = (parse (cnt - k) rest).map (qs.map era ++ ·) ∧ IS w g en qs k A c wr
def ImagePost (w : World) (bs : List UInt8) (e : Ending) (w' : World) : Prop :=
  Ext w w' ∧ ((∃ (en : Nat) (ps : List PgD) (Ap : Option Addr) (k cp : Nat), ImgIs bs en (ps.map era) ∧ e = .returned (.tuple #[.agg #[.int .u32 (en : Int), .slice Ap k cp], .int .i64 0]) ∧ w'.ownsRow w.heap.size 39 3 (.slice Ap k cp) k (pgsV ps) ∧ ∀ q ∈ ps, PgOwn w' w.heap.size q ∧ q.Num) ∨
    ((∀ en es, ¬ ImgIs bs en es) ∧ e = .returned (.tuple #[.agg #[.int .u32 0, .slice none 0 0], .int .i64 3])))
theorem sign_eq (l : List UInt8) : ((str l).toList == [82, 72, 49]) = decide (l = [82, 72, 49]) := by
  rw [str, ByteArray.toList_mk, Bool.eq_iff_iff]
  simp
theorem quiet_left {P : Program} {f : FuncId} {args : Array Value} {w : World} {n : Nat} {v : Value}
    (h : Calls P f args (w.drewN n) fun e w' => e = .returned v ∧ w.drewN n = w') : Calls P f args (w.drewN n) fun e w'' => e = .returned v ∧ ∃ m, w'' = w.drewN m :=
  h.mono fun _ _ ⟨he, hm⟩ => ⟨he, n, hm.symm⟩
theorem cut_hi {P : Program} {t e : TypeId} {i : TypeInfo} (ht : P.underlying t = some (.slice e)) (hi : P.info? e = some i) (hs : i.size = 1) (A : Option Addr) (n c : Nat) (hi' : Int) (j : Nat) (hhi : hi' = j) (hj : j ≤ c) (kh : IntKind) (W : World) :
    (Instr.slice t (.slice A n c) none (some (.int kh hi')) none).run P W = .ok (.slice A j c) W := by
  have he : P.elem t = e := by simp [Program.elem, ht]
  have ht' : P.underlying t = some (.slice (P.elem t)) := by rw [he]; exact ht
  subst hhi
  rw [run_slice_h W t A n c ht' kh (j : Int) (by omega) (by omega), he]
  simp [sizeOf, typeInfo, hi, hs, sliced, Result.andThen, Addr.add]
set_option maxHeartbeats 1500000 in
set_option maxRecDepth 100000 in
theorem img_any (A : Option Addr) (n c : Nat) (bs : List UInt8) (w : World) (hr : Reads w w.heap.size 1 A n (bytesV bs)) (hn : n ≤ c) (hc : c ≤ maxLen) :
    Calls Tryd.prog 6 #[.slice A n c] w (ImagePost w bs) := by
  have hl : bs.length = n := by have := hr.1; rw [bytesV_length] at this; omega
  have HL := hide hl
  have HR := hide hr
  unfold maxLen at hc
  clear hr hl
  obtain ⟨j0, hj0, jz0, jz1, jz2⟩ := info_parts u8_info
  obtain ⟨i0, hi0, hz0, hz1, hz2⟩ := info_parts pg_info
  by_cases h12 : n < 12
  · have t1 : (n : Int) - 4 < 8 := by omega
    go_enter Tryd.func6, Tryd.ntmps6
    go_wp2_with fail
    go_quiet (fail)
    go_wp2_with fail
    exact bodyPost_ret (v := .tuple #[.agg #[.int .u32 0, .slice none 0 0], .int .i64 3]) (by simp [results, Tryd.results6, go_sem]) rfl ⟨by ((repeat (first | with_reducible exact Ext.refl _ | with_reducible assumption | with_reducible refine Ext.alloc ?_ _ | with_reducible refine Ext.drew ?_ | with_reducible refine Ext.drewN ?_ _ | with_reducible refine Ext.setCell ?_ (by first | exact Nat.le_refl _ | assumption | (simp; done) | omega) _ | with_reducible refine Ext.trans ?_ (by with_reducible assumption))); done), .inr ⟨fun en es hh => by have := hh.head.lo; rw [HL.out] at this; omega, rfl⟩⟩
  · by_cases h512 : 512 < n
    · have t1 : decide ((n : Int) - 4 < 8) = false := decide_eq_false (by omega)
      have t2 : decide ((512 : Int) < (n : Int)) = true := decide_eq_true (by omega)
      go_enter Tryd.func6, Tryd.ntmps6
      go_wp2_with fail
      go_quiet (fail)
      go_wp2_with fail
      exact bodyPost_ret (v := .tuple #[.agg #[.int .u32 0, .slice none 0 0], .int .i64 3]) (by simp [results, Tryd.results6, go_sem]) rfl ⟨by ((repeat (first | with_reducible exact Ext.refl _ | with_reducible assumption | with_reducible refine Ext.alloc ?_ _ | with_reducible refine Ext.drew ?_ | with_reducible refine Ext.drewN ?_ _ | with_reducible refine Ext.setCell ?_ (by first | exact Nat.le_refl _ | assumption | (simp; done) | omega) _ | with_reducible refine Ext.trans ?_ (by with_reducible assumption))); done), .inr ⟨fun en es hh => by have := hh.head.hi; rw [HL.out] at this; omega, rfl⟩⟩
    · have t1 : decide ((n : Int) - 4 < 8) = false := decide_eq_false (by omega)
      have t2 : decide ((512 : Int) < (n : Int)) = false := decide_eq_false (by omega)
      have u1 := cut_hi (P := Tryd.prog) Tryd.underlying31 hj0 jz1 A n c 3 3 rfl (by omega) .i64
      have HR3 := hide (show Reads w w.heap.size 1 A 3 (bytesV (bs.take 3)) by rw [← bytesV_take]; exact HR.out.take (by omega))
      have u2 : ∀ W : World, Reads W w.heap.size 1 A 3 (bytesV (bs.take 3)) → (convert 31 9 (.slice A 3 c)).run Tryd.prog W = .ok (.string (str (bs.take 3))) W := fun W hw => conv_str' (P := Tryd.prog) Tryd.underlying31 Tryd.underlying5 Tryd.underlying9 hw c
      have u2' : ∀ (o : Obj) (k : Nat), (convert 31 9 (.slice A 3 c)).run Tryd.prog ((w.alloc o).drewN k) = .ok (.string (str (bs.take 3))) ((w.alloc o).drewN k) := fun o k => u2 _ ((HR3.out.alloc (Nat.le_refl _) o).drewN k)
      have u3 := sign_eq (bs.take 3)
      clear u2
      by_cases hsg : bs.take 3 = [82, 72, 49]
      · rw [decide_eq_true hsg] at u3
        have HSG := hide hsg
        clear hsg
        generalize str (bs.take 3) = S at *
        obtain ⟨b, off, rfl, hbB, -⟩ := HR.out.at1 (by omega)
        have k3 := cells_of HR.out 3 (by omega)
        obtain ⟨m, hm⟩ : ∃ m, m = n - 4 := ⟨_, rfl⟩
        obtain ⟨A4, q4, hr4, -⟩ := cut_to (P := Tryd.prog) Tryd.underlying31 hj0 jz1 HR.out ((n : Int) - 4) m c (by omega) (by omega) hn .i64
        have q5 := cut_hi (P := Tryd.prog) Tryd.underlying31 hj0 jz1 (some ⟨b, off, none⟩) n c ((n : Int) - 4) m (by omega) (by omega) .i64
        obtain ⟨A6, q6, hr6, -⟩ := cut_to (P := Tryd.prog) Tryd.underlying31 hj0 jz1 HR.out 4 4 c rfl (by omega) hn .i64
        obtain ⟨A7, q7, hr7, -⟩ := cut_mid (P := Tryd.prog) Tryd.underlying31 hj0 jz1 HR.out 8 ((n : Int) - 4) 8 m c rfl (by omega) (by omega) (by omega) hn .i64 .i64
        have hr5 := HR.out.take (k := m) (by omega)
        rw [show n - m = 4 by omega] at q4 hr4
        rw [← hm] at q6 hr6
        obtain ⟨c4, hc4⟩ : ∃ c4, c4 = c - m := ⟨_, rfl⟩
        obtain ⟨c6, hc6⟩ : ∃ c6, c6 = c - 4 := ⟨_, rfl⟩
        obtain ⟨c7, hc7⟩ : ∃ c7, c7 = c - 8 := ⟨_, rfl⟩
        obtain ⟨n7, hn7⟩ : ∃ n7, n7 = m - 8 := ⟨_, rfl⟩
        rw [← hc4] at q4
        rw [← hc6] at q6
        rw [← hc7, ← hn7] at q7
        rw [← hn7] at hr7
        rw [bytesV_drop] at hr4 hr6 hr7
        rw [bytesV_take] at hr5 hr7
        have HRS := hide (show (bs.drop 8).take n7 = (bs.take (bs.length - 4)).drop 8 by rw [HL.out, List.drop_take, ← hm, hn7])
        have HWD := hide (fun (o : Obj) (k : Nat) => word_r A4 4 c4 w.heap.size (bs.drop m) ((w.alloc o).drewN k) ((hr4.alloc (Nat.le_refl _) o).drewN k) (by omega) (by omega))
        have HSM := hide (fun (o : Obj) (k : Nat) => sum_any (some ⟨b, off, none⟩) m c w.heap.size (bs.take m) ((w.alloc o).drewN k) ((hr5.alloc (Nat.le_refl _) o).drewN k) (by unfold maxLen; omega))
        have HR6 := hide hr6
        have HR7 := hide hr7
        have HW4 := hide (show bs.drop (bs.length - 4) = bs.drop m by rw [HL.out, hm])
        have HT4 := hide (show bs.take (bs.length - 4) = bs.take m by rw [HL.out, hm])
        have hm8 : 8 ≤ m := by omega
        have hmn : m ≤ 508 := by omega
        have l4 : 4 ≤ m := by omega
        have l6 : m ≤ c6 := by omega
        have l7 : n7 ≤ c7 := by omega
        have l8 : c7 ≤ 9223372036854775807 := by omega
        have l9 : n7 ≤ 512 := by omega
        have HM := hide hm
        clear hr4 hr5 hr6 hr7 hm hc4 hc6 hc7 hn7
        have hwl := wordL_lt (bs.drop m)
        have hsl := sumL_lt (bs.take m)
        have HSUM := hide (show HeadOk bs ↔ wordL (bs.drop m) = sumL (bs.take m) from by
          constructor
          · intro h; have := h.sum; rw [HW4.out, HT4.out] at this; exact this
          · intro h; exact ⟨by rw [HL.out]; omega, by rw [HL.out]; omega, HSG.out, by rw [HW4.out, HT4.out]; exact h⟩)
        clear HW4 HT4
        generalize wordL (bs.drop m) = x at *
        generalize sumL (bs.take m) = y at *
        by_cases hxy : x = y
        · subst hxy
          have HHD := hide (HSUM.out.2 rfl)
          clear HSUM
          obtain ⟨en, hen⟩ : ∃ en, wordL (bs.drop 4) = en := ⟨_, rfl⟩
          obtain ⟨cnt, hcn⟩ : ∃ cnt, (bs.getD 3 0).toNat = cnt := ⟨_, rfl⟩
          have hel : en ≤ 4294967295 := by rw [← hen]; exact wordL_lt (bs.drop 4)
          have hcl : cnt < 256 := by rw [← hcn]; exact (bs.getD 3 0).toNat_lt
          have HW6 := hide (fun (W : World) (hx : Ext w W) => show Calls Tryd.prog 15 #[.slice A6 m c6] W fun e w' => e = .returned (.int .u32 (en : Nat)) ∧ ∃ q, w' = W.drewN q by rw [← hen]; exact word_r A6 m c6 w.heap.size (bs.drop 4) W (hx.reads HR6.out (Nat.le_refl _)) l4 l6)
          rw [hcn] at k3
          have HEN := hide hen
          have HCN := hide hcn
          clear hen hcn
          go_enter Tryd.func6, Tryd.ntmps6
          go_wp2_with fail
          go_quiet ((first | (go_at_call 15; exact Calls.quiet_of (HWD.out _ _)) | (go_at_call 13; exact quiet_left (HSM.out _ _)) | fail))
          go_wp2_with fail
          refine (HW6.out _ (by ((repeat (first | with_reducible exact Ext.refl _ | with_reducible assumption | with_reducible refine Ext.alloc ?_ _ | with_reducible refine Ext.drew ?_ | with_reducible refine Ext.drewN ?_ _ | with_reducible refine Ext.setCell ?_ (by first | exact Nat.le_refl _ | assumption | (simp; done) | omega) _ | with_reducible refine Ext.trans ?_ (by with_reducible assumption))); done))).mono ?_
          rintro e w2 ⟨rfl, q, hq⟩
          have hx2 : Ext w w2 := by rw [hq]; ((repeat (first | with_reducible exact Ext.refl _ | with_reducible assumption | with_reducible refine Ext.alloc ?_ _ | with_reducible refine Ext.drew ?_ | with_reducible refine Ext.drewN ?_ _ | with_reducible refine Ext.setCell ?_ (by first | exact Nat.le_refl _ | assumption | (simp; done) | omega) _ | with_reducible refine Ext.trans ?_ (by with_reducible assumption))); done)
          have hres2 : Blk w2 w.heap.size 29 zeroIm := by rw [hq]; exact ((Blk.new _ _ _).drewN _).drewN _
          clear hq
          go_upto_region 5 with fail
          have hb3 : b < w2.heap.size := Nat.lt_of_lt_of_le hbB hx2.size
          have k3' := hx2.cell k3
          have g3 : (w2.alloc (.cells #[.int .u32 (en : Int), .slice none 0 0] 29)).cell? ⟨b, off + 3, none⟩ = some (.int .u8 cnt) := by rw [alloc_old w2 _ _ _ hb3]; exact k3'
          have hs0 : IS w w2.heap.size en [] 0 none 0 (w2.alloc (.cells #[.int .u32 (en : Int), .slice none 0 0] 29)) :=
            ⟨hres2.alloc _, Blk.new _ _ _, World.ownsRow_nil _ _ _ _, by simp, hres2.lt, hx2.alloc _⟩
          clear hres2 k3 k3'
          generalize w2.alloc (.cells #[.int .u32 (en : Int), .slice none 0 0] 29) = W3 at g3 hs0 ⊢
          have HS0 := hide hs0
          have i3 : (3 : Int) < (n : Int) := by omega
          clear hs0 hx2
          go_wp2_with fail
          go_loopw [6, 51] (ImRel w w2.heap.size en cnt ((bs.drop 8).take n7)) (fun _ i _ => cnt - (intOf i).toNat)
          case atStart => exact ⟨0, n7, c7, 0, none, A7, [], _, Nat.zero_le _, rfl, rfl, l7, by unfold maxLen; omega, l9, HS0.out.ext.reads HR7.out (Nat.le_refl _), by simp, HS0.out⟩
          case round =>
            obtain ⟨k, nr, cr, ci, Ai, Ar, qs, rest, hk, rfl, rfl, a1, a2, a3, hrd, hpar, hst⟩ := hrel
            unfold maxLen at a2
            have HST := hide hst
            have HRD := hide hrd
            have HPA := hide hpar
            clear hst hrd hpar HS0 g3
            by_cases hlt : k < cnt
            · go_wp2_with fail
              refine (page_any Ar nr cr w.heap.size rest _ HRD.out HST.out.ext.size a1 (by unfold maxLen; omega) a3).mono ?_
              rintro e w4 ⟨hx4, hh⟩
              have hst4 := HST.out.keep hx4
              have HS4 := hide hst4
              rcases hh with ⟨hnone, rfl⟩ | ⟨p, Ap, np, cp, hsome, hnum, rfl, hown, hrd, hn', hc'⟩
              · have s0 : w4.cell? ⟨w.heap.size, 0, none⟩ = some (.int .u32 0) := hst4.res.cell 0
                have s1 : w4.cell? ⟨w.heap.size, 1, none⟩ = some (.slice none 0 0) := hst4.res.cell 1
                have s2 := hst4.res.frozen 0
                have s3 := hst4.res.frozen 1
                have s4 := hst4.res.lt
                have hx := hst4.ext
                have HNO := hide hnone
                clear hnone hst4
                go_wp2_with fail
                exact bodyPost_ret (v := .tuple #[.agg #[.int .u32 0, .slice none 0 0], .int .i64 3]) (by simp [results, Tryd.results6, go_sem, s0, s1, s4]) rfl ⟨((hx.setCell (p := ⟨w.heap.size, 0, none⟩) (Nat.le_refl _) _).setCell (p := ⟨w.heap.size, 1, none⟩) (Nat.le_refl _) _).alloc _, .inr ⟨fun en' es hh => by
                  have h := hh.pages
                  rw [HCN.out, ← HRS.out, parse_none hlt HPA.out HNO.out] at h
                  exact (nomatch h), rfl⟩⟩
              · obtain ⟨pp, pr, pD, pm, pc, pds⟩ := p
                dsimp only at hrd hsome hnum hown hn' ⊢
                have HNU := hide hnum
                have HSO := hide hsome
                have HRP := hide hrd
                have HNP := hide (show np ≤ 512 by
                  have h1 := hrd.1
                  have h2 := HRD.out.1
                  rw [bytesV_length] at h1 h2
                  rw [List.length_drop] at h1
                  omega)
                have HO4 := hide (own_mono hown HST.out.ext.size)
                clear hnum hsome hrd hown hst4
                go_upto_region 11 with fail
                have hbx : Blk (w4.alloc (.cells #[.int .i64 pp, .int .i64 pr, .slice pD pm pc] 39)) w4.heap.size 39 #[.int .i64 pp, .int .i64 pr, .slice pD pm pc] := Blk.new _ _ _
                have HS5 := hide (HS4.out.keep (w' := w4.alloc (.cells #[.int .i64 pp, .int .i64 pr, .slice pD pm pc] 39)) ((Ext.refl _).alloc _))
                have HO5 := hide (show PgOwn (w4.alloc (.cells #[.int .i64 pp, .int .i64 pr, .slice pD pm pc] 39)) w.heap.size ⟨pp, pr, pD, pm, pc, pds⟩ from HO4.out.alloc _)
                generalize w4.alloc (.cells #[.int .i64 pp, .int .i64 pr, .slice pD pm pc] 39) = W5 at hbx HS5 HO5 ⊢
                have p0 : W5.cell? ⟨w4.heap.size, 0, none⟩ = some (.int .i64 pp) := hbx.cell 0
                have p1 : W5.cell? ⟨w4.heap.size, 1, none⟩ = some (.int .i64 pr) := hbx.cell 1
                have p2 : W5.cell? ⟨w4.heap.size, 2, none⟩ = some (.slice pD pm pc) := hbx.cell 2
                have p3 : W5.cell? ⟨w2.heap.size, 1, none⟩ = some (.slice Ai k ci) := HS5.out.im.cell 1
                have hsz5 : w.heap.size ≤ W5.heap.size := HS5.out.ext.size
                go_wp2_with (at_builtin; refine wpList_append_any _ rfl (.tmp 63) (.tmp 65) _ rfl w.heap.size 39 i0 _ 3 40 Tryd.underlying27 hi0 hz0 hz1 hz2 rfl (by omega) _ k (pgsV qs) rfl (HS5.out.own.alloc _) _ _ 1 _ [.int .i64 pp, .int .i64 pr, .slice pD pm pc] rfl (Blk.new W5 39 #[.int .i64 pp, .int .i64 pr, .slice pD pm pc]).reads3 (by simp [Value.oneCell']) (by simp only [maxLen]; omega) (by omega) (by simp; omega) ?_; intro A8 c8 w8 ho8 hg8 ha8; have HN := hide ((HS5.out.keep ((Ext.refl W5).alloc (.cells #[.int .i64 pp, .int .i64 pr, .slice pD pm pc] 39))).step ⟨pp, pr, pD, pm, pc, pds⟩ (HO5.out.alloc _) HNU.out ho8 hg8); have hi8 := (HS5.out.keep ((Ext.refl W5).alloc (.cells #[.int .i64 pp, .int .i64 pr, .slice pD pm pc] 39))).imGrown hg8; have z1 : w8.cell? ⟨w2.heap.size, 1, none⟩ = some (.slice Ai k ci) := hi8.cell 1; have z2 := hi8.frozen 1; clear ho8 hg8 ha8 hi8)
                go_roundw
                case rel => exact ⟨k + 1, np, cp, _, _, Ap, _, _, by omega, by go_num, rfl, hn', hc', HNP.out, HRP.out.keep (fun q hq => (HN.out.ext.below.cell hq).trans (HST.out.ext.below.cell hq).symm), parse_step hlt HPA.out HSO.out, HN.out⟩
                case measure => simp [intOf]; omega
            · obtain rfl : k = cnt := by omega
              have HP9 := hide (parse_end HPA.out)
              have m0 : wr.cell? ⟨w2.heap.size, 0, none⟩ = some (.int .u32 (en : Int)) := HST.out.im.cell 0
              have m1 : wr.cell? ⟨w2.heap.size, 1, none⟩ = some (.slice Ai k ci) := HST.out.im.cell 1
              go_wp2_with fail
              refine (file_any qs Ai k ci wr.heap.size en wr (Reads.of_own HST.out.own) (Nat.le_refl _) (fun p hp => ⟨(HST.out.rows p hp).2, (own_le (HST.out.rows p hp).1).1, (own_le (HST.out.rows p hp).1).2, Reads.of_own (HST.out.rows p hp).1, own_len (HST.out.rows p hp).1⟩) (by unfold maxLen; omega) hel).mono ?_
              rintro e w5 ⟨A5, m5, c5, z, rfl, hx5, hh⟩
              have hst5 := HST.out.keep hx5
              have HS5 := hide hst5
              have s0 : w5.cell? ⟨w.heap.size, 0, none⟩ = some (.int .u32 0) := hst5.res.cell 0
              have s1 : w5.cell? ⟨w.heap.size, 1, none⟩ = some (.slice none 0 0) := hst5.res.cell 1
              have s2 := hst5.res.frozen 0
              have s3 := hst5.res.frozen 1
              have s4 := hst5.res.lt
              have s5 : w5.cell? ⟨w2.heap.size, 0, none⟩ = some (.int .u32 (en : Int)) := hst5.im.cell 0
              have s6 : w5.cell? ⟨w2.heap.size, 1, none⟩ = some (.slice Ai k ci) := hst5.im.cell 1
              have hx := hst5.ext
              clear m0 m1 hst5
              rcases hh with ⟨rfl, hck, h5, ho5⟩ | ⟨hz, rfl, rfl, rfl, hno⟩
              · have HCK := hide hck
                have HO5 := hide ho5
                clear hck ho5
                go_wp2_with fail
                refine (beq_any A5 m5 c5 _ (fileF en qs) _ n c w.heap.size bs _ (Reads.of_own HO5.out) (HS5.out.ext.reads HR.out (Nat.le_refl _))).mono ?_
                rintro e w6 ⟨rfl, rfl⟩
                by_cases heq : fileF en qs = bs
                · rw [decide_eq_true heq]
                  have HEQ := hide heq
                  clear heq
                  go_wp2_with fail
                  have hb9 := (HS5.out.res.set_ 0 (.int .u32 (en : Int))).set_ 1 (.slice Ai k ci)
                  have fars : ∀ {e size m : Nat} {v : Value} {xs : List Value}, e ≠ 29 → w5.ownsRow w.heap.size e size v m xs → ((w5.setCell ⟨w.heap.size, 0, none⟩ (.int .u32 (en : Int))).setCell ⟨w.heap.size, 1, none⟩ (.slice Ai k ci)).ownsRow w.heap.size e size v m xs := fun hne h =>
                    own_far (own_far h (own_blk_ne h HS5.out.res hne) _) (own_blk_ne h HS5.out.res hne) _
                  have HOW := hide (fars (by decide) HS5.out.own)
                  have HRW := hide (show ∀ q ∈ qs, PgOwn _ w.heap.size q ∧ q.Num from fun q hq => ⟨fars (by decide) (HS5.out.rows q hq).1, (HS5.out.rows q hq).2⟩)
                  have HX9 := hide ((hx.setCell (p := ⟨w.heap.size, 0, none⟩) (Nat.le_refl _) (.int .u32 (en : Int))).setCell (p := ⟨w.heap.size, 1, none⟩) (Nat.le_refl _) (.slice Ai k ci))
                  generalize (w5.setCell ⟨w.heap.size, 0, none⟩ (.int .u32 (en : Int))).setCell ⟨w.heap.size, 1, none⟩ (.slice Ai k ci) = W9 at hb9 HOW HRW HX9 ⊢
                  have z0 : W9.cell? ⟨w.heap.size, 0, none⟩ = some (.int .u32 (en : Int)) := hb9.cell 0
                  have z1 : W9.cell? ⟨w.heap.size, 1, none⟩ = some (.slice Ai k ci) := hb9.cell 1
                  refine bodyPost_ret (v := .tuple #[.agg #[.int .u32 (en : Int), .slice Ai k ci], .int .i64 0]) (by simp [results, Tryd.results6, go_sem, z0, z1]) rfl ⟨HX9.out, .inl ⟨en, qs, Ai, k, ci, ⟨HHD.out, HEN.out.symm, ?_, (chk_era _ _).2 HCK.out, by rw [file_era]; exact HEQ.out⟩, rfl, HOW.out, HRW.out⟩⟩
                  rw [HCN.out, ← HRS.out]
                  exact HP9.out
                · rw [decide_eq_false heq]
                  have HEQ := hide heq
                  clear heq
                  go_wp2_with fail
                  exact bodyPost_ret (v := .tuple #[.agg #[.int .u32 0, .slice none 0 0], .int .i64 3]) (by simp [results, Tryd.results6, go_sem, s0, s1]) rfl ⟨(hx.setCell (p := ⟨w.heap.size, 0, none⟩) (Nat.le_refl _) _).setCell (p := ⟨w.heap.size, 1, none⟩) (Nat.le_refl _) _, .inr ⟨fun en' es hh => by
                    have h := hh.pages
                    rw [HCN.out, ← HRS.out, HP9.out] at h
                    injection h with h
                    have h2 := hh.file
                    rw [← h, file_era, hh.entry, HEN.out] at h2
                    exact HEQ.out h2, rfl⟩⟩
              · have HNO := hide hno
                have hne : (z != 0) = true := by simpa using hz
                clear hno hz
                go_wp2_with fail
                exact bodyPost_ret (v := .tuple #[.agg #[.int .u32 0, .slice none 0 0], .int .i64 3]) (by simp [results, Tryd.results6, go_sem, s0, s1]) rfl ⟨(hx.setCell (p := ⟨w.heap.size, 0, none⟩) (Nat.le_refl _) _).setCell (p := ⟨w.heap.size, 1, none⟩) (Nat.le_refl _) _, .inr ⟨fun en' es hh => by
                  have h := hh.pages
                  rw [HCN.out, ← HRS.out, HP9.out] at h
                  injection h with h
                  have h2 := hh.chk
                  have h3 := hh.file
                  have h4 := hh.head.hi
                  rw [← h, chk_era, hh.entry, HEN.out] at h2
                  rw [← h, file_era, hh.entry, HEN.out] at h3
                  exact HNO.out ⟨h2, by rw [h3]; exact h4⟩, rfl⟩⟩
        · have y1 : ((x : Int) == (y : Int)) = false := by rw [beq_eq_false_iff_ne]; omega
          have y2 : ((x : Int) != (y : Int)) = true := by simp; omega
          have y3 : (x == y) = false := by rw [beq_eq_false_iff_ne]; exact hxy
          have HXY := hide hxy
          clear hxy
          go_enter Tryd.func6, Tryd.ntmps6
          go_wp2_with fail
          go_quiet ((first | (go_at_call 15; exact Calls.quiet_of (HWD.out _ _)) | (go_at_call 13; exact quiet_left (HSM.out _ _)) | fail))
          go_wp2_with fail
          exact bodyPost_ret (v := .tuple #[.agg #[.int .u32 0, .slice none 0 0], .int .i64 3]) (by simp [results, Tryd.results6, go_sem]) rfl ⟨by ((repeat (first | with_reducible exact Ext.refl _ | with_reducible assumption | with_reducible refine Ext.alloc ?_ _ | with_reducible refine Ext.drew ?_ | with_reducible refine Ext.drewN ?_ _ | with_reducible refine Ext.setCell ?_ (by first | exact Nat.le_refl _ | assumption | (simp; done) | omega) _ | with_reducible refine Ext.trans ?_ (by with_reducible assumption))); done), .inr ⟨fun en es hh => HXY.out (HSUM.out.1 hh.head), rfl⟩⟩
      · rw [decide_eq_false hsg] at u3
        have HSG := hide hsg
        clear hsg
        generalize str (bs.take 3) = S at *
        go_enter Tryd.func6, Tryd.ntmps6
        go_wp2_with fail
        go_quiet (fail)
        go_wp2_with fail
        exact bodyPost_ret (v := .tuple #[.agg #[.int .u32 0, .slice none 0 0], .int .i64 3]) (by simp [results, Tryd.results6, go_sem]) rfl ⟨by ((repeat (first | with_reducible exact Ext.refl _ | with_reducible assumption | with_reducible refine Ext.alloc ?_ _ | with_reducible refine Ext.drew ?_ | with_reducible refine Ext.drewN ?_ _ | with_reducible refine Ext.setCell ?_ (by first | exact Nat.le_refl _ | assumption | (simp; done) | omega) _ | with_reducible refine Ext.trans ?_ (by with_reducible assumption))); done), .inr ⟨fun en es hh => HSG.out hh.head.sign, rfl⟩⟩
end Go.Proofs.YtmcgkdifieohlaaDoor
