/- File of an image: its bytes, or an error. -/
import Derived.Test.YtmcgkdifieohlaaDoorLoadTrim
namespace Go.Proofs.YtmcgkdifieohlaaDoor
open Go.RowKit
set_option linter.unusedVariables false

def u8 (z : Int) : UInt8 := UInt8.ofNat z.toNat
theorem u8_cell (z : Int) (h0 : 0 ≤ z) (h1 : z < 256) : ((u8 z).toNat : Int) = z := by
  simp [u8]; omega
/-- A page in the file, given the page; given the trimmed page. -/
def pgF (p : PgD) : List UInt8 := [u8 p.page, u8 p.rights, u8 ((trimZ p.ds).length : Nat)] ++ trimZ p.ds
def pgQ (q : PgD) : List UInt8 := [u8 q.page, u8 q.rights, u8 (q.m : Nat)] ++ q.ds
def headF (en n : Nat) : List UInt8 := [82, 72, 49, u8 (n : Nat)] ++ fourL en
def bodyF (en : Nat) (ps : List PgD) : List UInt8 := headF en ps.length ++ ps.flatMap pgF
def fileF (en : Nat) (ps : List PgD) : List UInt8 := bodyF en ps ++ fourL (sumL (bodyF en ps))
def ChkOk (en : Int) (ps : List PgD) : Prop := ps.length ≤ 64 ∧ Fine ps ps.length ∧ en % 4 = 0 ∧ startsB en ps = true
theorem chk_ok {en : Int} {ps : List PgD} (h : Chk en ps 0) : ChkOk en ps := by
  rcases h with ⟨_, h⟩ | ⟨h, _⟩
  · exact h
  · exact absurd rfl h
theorem chk_no {en : Int} {ps : List PgD} {z : Int} (h : Chk en ps z) (hz : z ≠ 0) : ¬ ChkOk en ps := by
  rcases h with ⟨h, _⟩ | ⟨_, h⟩
  · exact absurd h hz
  · exact h
structure QOk (q : PgD) : Prop where
  p0 : 0 ≤ q.page
  p1 : q.page < 64
  r0 : 1 ≤ q.rights
  r1 : q.rights ≤ 5
  m16 : q.m ≤ 16
  len : q.ds.length = q.m
theorem fine_at {ps : List PgD} (h : Fine ps ps.length) {p : PgD} (hp : p ∈ ps) : 0 ≤ p.page ∧ p.page < 64 ∧ 1 ≤ p.rights ∧ p.rights ≤ 5 ∧ p.m ≤ 16 := by
  obtain ⟨i, hi, rfl⟩ := List.mem_iff_getElem.1 hp
  have h1 := h i hi hi
  have h2 := badP_may h1
  simp only [badAt, badP, decide_eq_false_iff_not] at h1
  refine ⟨?_, ?_, h2.1, h2.2, ?_⟩
  · exact Decidable.byContradiction fun hh => h1 (.inl (by omega))
  · exact Decidable.byContradiction fun hh => h1 (.inr (.inl (by omega)))
  · exact Decidable.byContradiction fun hh => h1 (.inr (.inr (.inr (.inr (by omega)))))
structure PgD.Pre (w : World) (p : PgD) : Prop where
  num : p.Num
  mc : p.m ≤ p.c
  cm : p.c ≤ maxLen
  reads : Reads w w.heap.size 1 p.D p.m (bytesV p.ds)
  len : p.ds.length = p.m
theorem PgD.Pre.keep {w w' : World} {p : PgD} (h : p.Pre w) (hx : Ext w w') : p.Pre w' := ⟨h.num, h.mc, h.cm, (hx.reads h.reads (Nat.le_refl _)).more hx.size, h.len⟩
theorem PgD.Pre.rd {w : World} {p : PgD} (h : p.Pre w) (hm : p.m ≤ 16) : p.Rd w w.heap.size := ⟨h.num, by omega, h.mc, h.cm, h.reads, h.len⟩
theorem own_len {w : World} {base : Nat} {q : PgD} (h : PgOwn w base q) : q.ds.length = q.m := by
  have := h.1
  rw [bytesV_length] at this
  omega
theorem trims_q {ps qs : List PgD} (h : Trims ps qs) (hp : ∀ p ∈ ps, 0 ≤ p.page ∧ p.page < 64 ∧ 1 ≤ p.rights ∧ p.rights ≤ 5 ∧ p.ds.length ≤ 16) (hl : ∀ q ∈ qs, q.ds.length = q.m) : (∀ q ∈ qs, QOk q) ∧ ps.flatMap pgF = qs.flatMap pgQ := by
  induction h with
  | nil => exact ⟨by simp, rfl⟩
  | snoc h1 h2 ih =>
    rename_i ps qs p q
    obtain ⟨i1, i2⟩ := ih (fun p h => hp p (by simp [h])) (fun q h => hl q (by simp [h]))
    have hq := hl q (by simp)
    obtain ⟨a1, a2, a3, a4, a5⟩ := hp p (by simp)
    have hle := trimZ_le p.ds
    refine ⟨fun r hr => ?_, ?_⟩
    · rcases List.mem_append.1 hr with hr | hr
      · exact i1 r hr
      · rw [List.mem_singleton.1 hr]
        exact ⟨by rw [h2.page]; exact a1, by rw [h2.page]; exact a2, by rw [h2.rights]; exact a3, by rw [h2.rights]; exact a4, by rw [← hq, h2.ds]; omega, hq⟩
    · simp [i2, pgF, pgQ, h2.page, h2.rights, h2.ds, ← hq]

theorem marked_reads (w : World) (C : Array Value) (e : TypeId) (f : Nat × Nat) : Reads (w.alloc (.cells C e f)) (w.heap.size + 1) 1 (some ⟨w.heap.size, 0, none⟩) C.size C.toList := by
  refine ⟨by simp, fun _ => ⟨_, rfl, by simp, fun j u hu => ?_⟩⟩
  rw [add_lit, Nat.zero_add, cell_of_row _ w.heap.size j C e f (heap_alloc_new w _)]
  simpa using hu
theorem grown_box {w w' : World} {base n g : Nat} {v : Value} {xs : List Value} {cs : Array Value} (ho : w.ownsRow base 5 1 v n xs) (hg : w.grownBy w' v.ownBlock) (hb : Blk w g 29 cs) : Blk w' g 29 cs :=
  hb.grown hg (fun e => own_blk_ne ho hb (by decide) e.symm)
structure FileSt (w : World) (n : Nat) (Aq : Option Addr) (cq : Nat) (qs : List PgD) (l : List UInt8) (A : Option Addr) (m c : Nat) (wr : World) : Prop where
  pages : wr.ownsRow (w.heap.size + 1) 39 3 (.slice Aq n cq) n (pgsV qs)
  rows : ∀ q ∈ qs, PgOwn wr (w.heap.size + 1) q
  own : wr.ownsRow (w.heap.size + 1) 5 1 (.slice A m c) m (bytesV l)
  apart : ∀ q ∈ qs, ∀ j, Value.ownBlock (.slice q.D q.m q.c) = some j → Value.ownBlock (.slice A m c) ≠ some j
  ext : Ext w wr
section
variable {w : World} {n : Nat} {Aq : Option Addr} {cq : Nat} {qs : List PgD} {l : List UInt8} {A : Option Addr} {m c : Nat} {wr w' : World}
theorem FileSt.keep (h : FileSt w n Aq cq qs l A m c wr) (hx : Ext wr w') : FileSt w n Aq cq qs l A m c w' :=
  ⟨hx.own h.pages, fun q hq => hx.own (h.rows q hq), hx.own h.own, h.apart, h.ext.trans hx⟩
theorem FileSt.grow (h : FileSt w n Aq cq qs l A m c wr) (hg : wr.grownBy w' (Value.ownBlock (.slice A m c))) {A' : Option Addr} {m' c' : Nat} {l' : List UInt8} (ho : w'.ownsRow (w.heap.size + 1) 5 1 (.slice A' m' c') m' (bytesV l'))
    (hat : Value.ownBlock (.slice A' m' c') = Value.ownBlock (.slice A m c) ∨ Value.ownBlock (.slice A' m' c') = some wr.heap.size) : FileSt w n Aq cq qs l' A' m' c' w' := by
  refine ⟨own_keptB h.pages hg (own_own_ne h.pages h.own (by decide)), fun q hq => own_keptB (h.rows q hq) hg (h.apart q hq), ho, fun q hq j hj e => ?_, h.ext.grown hg (fun g e => by have := (h.own.lt _ e).1; omega)⟩
  rcases hat with hat | hat
  · exact h.apart q hq j hj (by rw [← hat]; exact e)
  · rw [hat] at e
    injection e with e
    have := ((h.rows q hq).lt _ hj).2
    omega
theorem FileSt.boxGrown (h : FileSt w n Aq cq qs l A m c wr) (hg : wr.grownBy w' (Value.ownBlock (.slice A m c))) {g : Nat} {cs : Array Value} (hb : Blk wr g 39 cs) : Blk w' g 39 cs :=
  hb.grown hg (fun e => own_blk_ne h.own hb (by decide) e.symm)
theorem FileSt.len (h : FileSt w n Aq cq qs l A m c wr) : l.length = m := by
  have := h.own.1
  rw [bytesV_length] at this
  omega
end
def FileRel (w : World) (en n : Nat) (Aq : Option Addr) (cq : Nat) (qs : List PgD) (v i : Value) (wr : World) : Prop :=
  ∃ (k m c : Nat) (A : Option Addr), k ≤ n ∧ i = .int .i64 k ∧ v = .slice A m c ∧ m ≤ 8 + 19 * k ∧ FileSt w n Aq cq qs (headF en n ++ (qs.take k).flatMap pgQ) A m c wr
def FilePost (w : World) (en : Nat) (ps : List PgD) (e : Ending) (w' : World) : Prop :=
  ∃ A m c z, e = .returned (.tuple #[.slice A m c, .int .i64 z]) ∧ Ext w w' ∧ ((z = 0 ∧ ChkOk en ps ∧ (fileF en ps).length ≤ 512 ∧ w'.ownsRow w.heap.size 5 1 (.slice A m c) m (bytesV (fileF en ps))) ∨ (z ≠ 0 ∧ A = none ∧ m = 0 ∧ c = 0 ∧ ¬ (ChkOk en ps ∧ (fileF en ps).length ≤ 512)))

set_option maxHeartbeats 1500000 in
set_option maxRecDepth 100000 in
theorem file_any (ps : List PgD) (A : Option Addr) (n c B en : Nat) (w : World) (hr : Reads w B 3 A n (pgsV ps)) (hB : B ≤ w.heap.size) (hp : ∀ p ∈ ps, p.Pre w) (hn : n ≤ maxLen) (hen : en ≤ 4294967295) :
    Calls Tryd.prog 5 #[.agg #[.int .u32 (en : Int), .slice A n c]] w (FilePost w en ps) := by
  obtain ⟨i0, hi0, hz0, hz1, hz2⟩ := info_parts u8_info
  have hl : ps.length = n := flat_len pgC_len (by omega) hr
  have HCK := hide (fun (w' : World) (hx : Ext w w') => check_any ps A n c B en w' (hx.reads hr hB) (Nat.le_trans hB hx.size) (fun p h => (hp p h).num) hn (by omega) (by omega))
  have HTR := hide (fun (w' : World) (hx : Ext w w') (hf : Fine ps ps.length) (hn : n ≤ 64) => trim_any ps A n c B en w' (hx.reads hr hB) (Nat.le_trans hB hx.size) (fun p h => ((hp p h).keep hx).rd (fine_at hf h).2.2.2.2) hn)
  have HR := hide hr
  have HP := hide hp
  have HL := hide hl
  unfold maxLen at hn
  clear hr hp hl
  go_enter Tryd.func5, Tryd.ntmps5
  go_wp2_with fail
  refine (HCK.out _ (by ((repeat (first | with_reducible exact Ext.refl _ | with_reducible assumption | with_reducible refine Ext.alloc ?_ _ | with_reducible refine Ext.drew ?_ | with_reducible refine Ext.drewN ?_ _ | with_reducible refine Ext.setCell ?_ (by first | exact Nat.le_refl _ | assumption | (simp; done) | omega) _ | with_reducible refine Ext.trans ?_ (by with_reducible assumption))); done))).mono ?_
  rintro e w1 ⟨z, rfl, hz, hx1⟩
  have hbx : Blk w1 w.heap.size 29 #[.int .u32 (en : Int), .slice A n c] := (Blk.new _ _ _).ext hx1
  have hx : Ext w w1 := ((Ext.refl w).alloc _).trans hx1
  clear hx1
  by_cases h0 : z = 0
  · subst h0
    have HZ := hide (chk_ok hz)
    have h64 : n ≤ 64 := by rw [← HL.out]; exact HZ.out.1
    have r0 : w1.cell? ⟨w.heap.size, 0, none⟩ = some (.int .u32 (en : Int)) := hbx.cell 0
    have r1 : w1.cell? ⟨w.heap.size, 1, none⟩ = some (.slice A n c) := hbx.cell 1
    have hlt1 := hbx.lt
    have y1 := alloc_old w1
    have HX := hide hx
    have HBX := hide hbx
    have HN := hide (show #[Value.int .u8 82, .int .u8 72, .int .u8 49].toList ++ [Value.int .u8 (n : Int)] = bytesV [82, 72, 49, u8 (n : Nat)] by
      have := u8_cell (n : Nat) (by omega) (by omega)
      simp [bytesV, this])
    clear hz hx hbx
    have hcv := Lib.run_convert_bytes_const w1 31 5 #[.int .u8 82, .int .u8 72, .int .u8 49] 3 3 Tryd.underlying31 Tryd.underlying5
    have hck : ∀ (o : Obj) (k : Nat), (w1.alloc o).cell? ⟨w.heap.size, k, none⟩ = w1.cell? ⟨w.heap.size, k, none⟩ := fun o k => alloc_old w1 o _ _ hlt1
    go_wp2_with (at_builtin; refine wpList_append_new _ rfl (.tmp 14) (.tmp 19) _ rfl 5 i0 _ 1 1 Tryd.underlying31 hi0 hz0 hz1 hz2 rfl (by omega) _ _ 3 3 _ rfl (fun h => by cases h) ((marked_reads w1 #[.int .u8 82, .int .u8 72, .int .u8 49] 5 (3, 4)).alloc (by simp) _) _ _ 1 _ [.int .u8 (n : Int)] rfl (Blk.new' _ _ _ (by simp)).reads (by simp [Value.oneCell']) (by omega) (by omega) (by simp [maxLen]) (by omega) ?_; intro A2 c2 w2 ho2 hx2; rw [HN.out] at ho2; have hb2 := ((HBX.out.alloc _).alloc _).ext hx2; have s0 : w2.cell? ⟨w.heap.size, 0, none⟩ = some (.int .u32 (en : Int)) := hb2.cell 0; have HO2 := hide (own_mono ho2 (show w.heap.size + 1 ≤ _ by simp; omega)); have HB2 := hide hb2; have HX2 := hide (Ext.trans (((HX.out).alloc _).alloc _) hx2); clear ho2 hx2 hb2 y1 hcv hck)
    refine (four_any en _ hen).mono ?_
    rintro e w5 ⟨rfl, rfl⟩
    clear s0 r0 r1
    have HN4 := hide (show bytesV [82, 72, 49, u8 (n : Nat)] ++ bytesV (fourL en) = bytesV (headF en n) by rw [← bytesV_append]; rfl)
    go_wp2_with (at_builtin; refine wpList_append_any _ rfl (.tmp 21) (.tmp 24) _ rfl (w.heap.size + 1) 5 i0 _ 1 1 Tryd.underlying31 hi0 hz0 hz1 hz2 rfl (by omega) _ 4 _ rfl (HO2.out.alloc _) _ _ 4 _ (bytesV (fourL en)) rfl (Blk.new w2 5 (bytesV (fourL en)).toArray).reads (bytesV_one _) (by simp [maxLen]) (by omega) (by have := HB2.out.lt; simp; omega) ?_; intro A3 c3 w3 ho3 hg3 ha3; rw [HN4.out] at ho3; have hb3 := grown_box (HO2.out.alloc (.cells (bytesV (fourL en)).toArray 5)) hg3 (HB2.out.alloc _); have s0 : w3.cell? ⟨w.heap.size, 0, none⟩ = some (.int .u32 (en : Int)) := hb3.cell 0; have s1 : w3.cell? ⟨w.heap.size, 1, none⟩ = some (.slice A n c) := hb3.cell 1; have HO3 := hide ho3; have HX3 := hide (Ext.grown ((HX2.out).alloc _) hg3 (fun k e => Nat.le_trans (Nat.le_succ _) (HO2.out.lt k e).1)); clear ho3 hg3 hb3 ha3)
    refine (HTR.out _ HX3.out HZ.out.2.1 h64).mono ?_
    rintro e w4 ⟨qs, Aq, cq, rfl, htr, hq1, hq2, hx4⟩
    clear s0 s1
    have hsz3 : w.heap.size + 1 ≤ w3.heap.size := by
      obtain ⟨g, _, h1, h2, _⟩ := own_addr HO3.out (by omega)
      omega
    have HQ := hide (trims_q htr (fun p h => by
      have := fine_at HZ.out.2.1 h
      have h2 := (HP.out p h).len
      exact ⟨this.1, this.2.1, this.2.2.1, this.2.2.2.1, by omega⟩) (fun q h => own_len (hq2 q h)))
    have HQL := hide (show qs.length = n by rw [htr.len, HL.out])
    have HS0 := hide (show FileSt w n Aq cq qs (headF en n ++ (qs.take 0).flatMap pgQ) A3 8 c3 w4 from
      ⟨own_mono hq1 (by omega), fun q h => own_mono (hq2 q h) (by omega), by simpa using hx4.own HO3.out, fun q h j hj e => by
        have h1 := ((hq2 q h).lt _ hj).1
        have h2 := (HO3.out.lt _ e).2
        omega, HX3.out.trans hx4⟩)
    clear htr hq1 hq2 hx4
    have hfd : ∀ w : World, (Instr.field 29 (.agg #[.int .u32 (en : Int), .slice Aq n cq]) 1).run Tryd.prog w = .ok (.slice Aq n cq) w := fun _ => by kernel_rfl
    go_wp2_with fail
    clear hfd
    go_loopw [5, 30] (FileRel w en n Aq cq qs) (fun _ i _ => n - (intOf i).toNat)
    case atStart => exact ⟨0, 8, c3, A3, Nat.zero_le _, rfl, rfl, by omega, HS0.out⟩
    case round =>
      obtain ⟨k, m, co, Ao, hk, rfl, rfl, hm, hst⟩ := hrel
      have HST := hide hst
      clear hst HS0
      by_cases hlt : k < n
      · obtain ⟨b, off, rfl, hbB⟩ := (Reads.of_own HST.out.pages).addr (by omega) (by omega)
        have hkl : k < qs.length := by rw [HQL.out]; exact hlt
        obtain ⟨q0, q1, q2⟩ := pg_cells (Reads.of_own HST.out.pages) k hkl (by omega)
        have hqo := HQ.out.1 qs[k] (List.getElem_mem hkl)
        have HMEM := hide (show qs[k] ∈ qs from List.getElem_mem hkl)
        have HT := hide (show (qs.take (k + 1)).flatMap pgQ = (qs.take k).flatMap pgQ ++ pgQ qs[k] by rw [List.take_succ_eq_append_getElem hkl]; simp only [List.flatMap_append, List.flatMap_cons, List.flatMap_nil, List.append_nil])
        generalize qs[k] = q at *
        obtain ⟨pp, pr, pD, pm, pc, pds⟩ := q
        obtain ⟨b1, b2, b3, b4, b5, b6⟩ := hqo
        dsimp only at q0 q1 q2 b1 b2 b3 b4 b5 b6
        have HLD := hide b6
        clear b6
        have e1 : IntKind.u8.wrap pp = pp := by rw [IntKind.wrap_u8]; omega
        have e2 : IntKind.u8.wrap pr = pr := by rw [IntKind.wrap_u8]; omega
        have e3 : IntKind.u8.wrap (pm : Int) = pm := by rw [IntKind.wrap_u8]; omega
        have HE := hide (show bytesV (headF en n ++ (qs.take k).flatMap pgQ) ++ [Value.int .u8 pp, .int .u8 pr, .int .u8 (pm : Int)] = bytesV (headF en n ++ (qs.take k).flatMap pgQ ++ [u8 pp, u8 pr, u8 (pm : Nat)]) by
          rw [bytesV_append _ [u8 pp, u8 pr, u8 (pm : Nat)]]
          simp [bytesV, u8_cell pp b1 (by omega), u8_cell pr (by omega) (by omega), u8_cell (pm : Int) (by omega) (by omega)])
        have HE2 := hide (show headF en n ++ (qs.take k).flatMap pgQ ++ [u8 pp, u8 pr, u8 (pm : Nat)] ++ pds = headF en n ++ (qs.take (k + 1)).flatMap pgQ by rw [HT.out]; simp [pgQ])
        clear HT
        generalize headF en n ++ (qs.take k).flatMap pgQ = l at HST HE HE2
        go_upto_region 9 with fail
        have hbx : Blk (wr.alloc (.cells #[.int .i64 pp, .int .i64 pr, .slice pD pm pc] 39)).drew wr.heap.size 39 #[.int .i64 pp, .int .i64 pr, .slice pD pm pc] := Blk.new _ _ _
        have H1 := hide (HST.out.keep (w' := (wr.alloc (.cells #[.int .i64 pp, .int .i64 pr, .slice pD pm pc] 39)).drew) (by ((repeat (first | with_reducible exact Ext.refl _ | with_reducible assumption | with_reducible refine Ext.alloc ?_ _ | with_reducible refine Ext.drew ?_ | with_reducible refine Ext.drewN ?_ _ | with_reducible refine Ext.setCell ?_ (by first | exact Nat.le_refl _ | assumption | (simp; done) | omega) _ | with_reducible refine Ext.trans ?_ (by with_reducible assumption))); done)))
        generalize hW1 : wr.alloc (.cells #[.int .i64 pp, .int .i64 pr, .slice pD pm pc] 39) = W1 at hbx H1 ⊢
        clear hW1 q0 q1 q2
        have hsW : w.heap.size + 1 ≤ W1.heap.size := by
          have h1 : wr.heap.size < W1.heap.size := hbx.lt
          have := HST.out.ext.size
          omega
        go_region_held3 (fun w' => w'.cell? ⟨wr.heap.size, 0, none⟩ = some (.int .i64 pp) ∧ w'.cell? ⟨wr.heap.size, 1, none⟩ = some (.int .i64 pr) ∧ w'.cell? ⟨wr.heap.size, 2, none⟩ = some (.slice pD pm pc))
          (first | exact keep3 hbx | exact keep3 (hbx.alloc _) | exact keep3 hb6 | exact keep3 hb5 | fail)
          (first
            | (refine step_append_any _ (by rfl) (.tmp 34) (.tmp 45) 31 (by rfl) (w.heap.size + 1) 5 i0 _ 1 1 Tryd.underlying31 hi0 hz0 hz1 hz2 rfl (by omega) _ m (bytesV l) (by rfl) (H1.out.own.alloc _) _ _ 3 _ [.int .u8 pp, .int .u8 pr, .int .u8 (pm : Int)] (by rfl) (Blk.new' W1.drew 5 #[.int .u8 pp, .int .u8 pr, .int .u8 (pm : Int)] rfl).reads (by simp [Value.oneCell']) (by simp only [maxLen]; omega) (by omega) (by simp; omega) ?_; intro A5 c5 w5 ho5 hg5 ha5; rw [HE.out] at ho5; have H5 := hide ((H1.out.keep ((Ext.refl W1.drew).alloc (.cells #[.int .u8 pp, .int .u8 pr, .int .u8 (pm : Int)] 5))).grow hg5 ho5 ha5); have hb5 := (H1.out.keep ((Ext.refl W1.drew).alloc (.cells #[.int .u8 pp, .int .u8 pr, .int .u8 (pm : Int)] 5))).boxGrown hg5 (hbx.alloc _))
            | (refine step_append_any _ (by rfl) (.tmp 46) (.tmp 48) 31 (by rfl) (w.heap.size + 1) 5 i0 _ 1 1 Tryd.underlying31 hi0 hz0 hz1 hz2 rfl (by omega) _ (m + 3) _ (by rfl) H5.out.own _ _ pm _ (bytesV pds) (by rfl) (Reads.of_own (H5.out.rows _ HMEM.out)) (bytesV_one _) (by simp only [maxLen]; omega) (by omega) (by have := hb5.lt; have := HST.out.ext.size; omega) ?_; intro A6 c6 w6 ho6 hg6 ha6; rw [← bytesV_append, HE2.out] at ho6; have H6 := hide (H5.out.grow hg6 ho6 ha6); have hb6 := H5.out.boxGrown hg6 hb5)
            | fail)
        go_wp2_with fail
        go_roundw
        case rel => exact ⟨k + 1, m + 3 + pm, _, _, by omega, by go_num, rfl, by omega, H6.out⟩
        case measure => simp [intOf]; omega
      · obtain rfl : k = n := by omega
        have HB := hide (show headF en k ++ (qs.take k).flatMap pgQ = bodyF en ps by
          rw [List.take_of_length_le (by rw [HQL.out]; exact Nat.le_refl _), bodyF, HL.out, HQ.out.2])
        have hst := HST.out
        rw [HB.out] at hst
        have H9 := hide hst
        clear hst HST
        have HF := hide (show fileF en ps = bodyF en ps ++ fourL (sumL (bodyF en ps)) from rfl)
        have HFL := hide (show (fileF en ps).length = m + 4 by rw [HF.out, List.length_append, fourL_length, H9.out.len])
        generalize bodyF en ps = l at *
        go_wp2_with fail
        refine (sum_any Ao m co _ l _ (Reads.of_own H9.out.own) (by simp only [maxLen]; omega)).mono ?_
        rintro e w6 ⟨rfl, rfl⟩
        have hsl := sumL_lt l
        generalize sumL l = s at *
        go_wp2_with fail
        refine (four_any s _ (by omega)).mono ?_
        rintro e w7 ⟨rfl, rfl⟩
        have HE := hide (show bytesV l ++ bytesV (fourL s) = bytesV (fileF en ps) by rw [← bytesV_append, HF.out])
        clear HF HB
        by_cases hbig : 512 < m + 4
        · have hbz : (512 : Int) < (m : Int) + 4 := by omega
          go_wp2_with (at_builtin; refine wpList_append_any _ rfl (.tmp 51) (.tmp 54) _ rfl (w.heap.size + 1) 5 i0 _ 1 1 Tryd.underlying31 hi0 hz0 hz1 hz2 rfl (by omega) _ m _ rfl (H9.out.own.alloc _) _ _ 4 _ (bytesV (fourL s)) rfl (Blk.new wr 5 (bytesV (fourL s)).toArray).reads (bytesV_one _) (by simp only [maxLen]; omega) (by omega) (by have := H9.out.ext.size; have := (own_addr H9.out.own); simp; omega) ?_; intro A8 c8 w8 ho8 hg8 ha8; have HX8 := hide (Ext.grown ((H9.out.ext).alloc _) hg8 (fun k e => Nat.le_trans (Nat.le_succ _) (H9.out.own.lt k e).1)); clear ho8 hg8 ha8)
          go_ret2
          exact ⟨none, 0, 0, 2, rfl, HX8.out, .inr ⟨by omega, rfl, rfl, rfl, fun hh => by have := hh.2; rw [HFL.out] at this; omega⟩⟩
        · have hbz : (m : Int) + 4 ≤ 512 := by omega
          go_wp2_with (at_builtin; refine wpList_append_any _ rfl (.tmp 51) (.tmp 54) _ rfl (w.heap.size + 1) 5 i0 _ 1 1 Tryd.underlying31 hi0 hz0 hz1 hz2 rfl (by omega) _ m _ rfl (H9.out.own.alloc _) _ _ 4 _ (bytesV (fourL s)) rfl (Blk.new wr 5 (bytesV (fourL s)).toArray).reads (bytesV_one _) (by simp only [maxLen]; omega) (by omega) (by have := H9.out.ext.size; simp; omega) ?_; intro A8 c8 w8 ho8 hg8 ha8; rw [HE.out] at ho8; have HO8 := hide ho8; have HX8 := hide (Ext.grown ((H9.out.ext).alloc _) hg8 (fun k e => Nat.le_trans (Nat.le_succ _) (H9.out.own.lt k e).1)); clear ho8 hg8 ha8)
          refine (bclone_any A8 (m + 4) c8 _ _ _ (Reads.of_own HO8.out) (bytesV_one _) (Nat.le_refl _) (by omega) (fun e => by obtain ⟨g, e2, _⟩ := own_addr HO8.out (by omega); rw [e] at e2; cases e2)).mono ?_
          rintro e w9 ⟨A9, c9, rfl, ho9, hx9⟩
          have HO9 := hide (own_mono ho9 HX8.out.size)
          go_wp2_with fail
          go_ret2
          exact ⟨A9, m + 4, c9, 0, rfl, HX8.out.trans hx9, .inl ⟨rfl, HZ.out, by rw [HFL.out]; omega, HO9.out⟩⟩
  · have hne : (z != 0) = true := by simpa using h0
    go_wp2_with fail
    go_ret2
    exact ⟨none, 0, 0, z, rfl, hx, .inr ⟨h0, rfl, rfl, rfl, fun hh => chk_no hz h0 hh.1⟩⟩
end Go.Proofs.YtmcgkdifieohlaaDoor
