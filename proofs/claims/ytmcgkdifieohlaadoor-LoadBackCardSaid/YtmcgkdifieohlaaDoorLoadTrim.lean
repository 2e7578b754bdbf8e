/- Trim of an image: pages without bytes 0 at their ends. -/
import Derived.Test.YtmcgkdifieohlaaDoorLoadLeaf
namespace Go.Proofs.YtmcgkdifieohlaaDoor
open Go.RowKit
set_option linter.unusedVariables false

def trimZ (l : List UInt8) : List UInt8 := (l.reverse.dropWhile (· == 0)).reverse
theorem trimZ_zero (l : List UInt8) : trimZ (l ++ [0]) = trimZ l := by simp [trimZ]
theorem trimZ_nz (l : List UInt8) (c : UInt8) (h : c ≠ 0) : trimZ (l ++ [c]) = l ++ [c] := by simp [trimZ, h]
theorem trimZ_le (l : List UInt8) : (trimZ l).length ≤ l.length := by
  have := (List.dropWhile_sublist (· == (0 : UInt8)) (l := l.reverse)).length_le
  simpa [trimZ] using this
/-- A page that is another one's, trimmed. -/
structure TrimOf (p q : PgD) : Prop where
  page : q.page = p.page
  rights : q.rights = p.rights
  ds : q.ds = trimZ p.ds
/-- A page whose bytes the call has made. -/
def PgOwn (w : World) (base : Nat) (p : PgD) : Prop := w.ownsRow base 5 1 (.slice p.D p.m p.c) p.m (bytesV p.ds)
inductive Trims : List PgD → List PgD → Prop
  | nil : Trims [] []
  | snoc {ps qs : List PgD} {p q : PgD} : Trims ps qs → TrimOf p q → Trims (ps ++ [p]) (qs ++ [q])
theorem Trims.len {ps qs : List PgD} (h : Trims ps qs) : qs.length = ps.length := by
  induction h with
  | nil => rfl
  | snoc _ _ ih => simp [ih]
theorem own_own_ne {w : World} {b1 b2 s1 s2 n1 n2 : Nat} {e1 e2 : TypeId} {v1 v2 : Value} {x1 x2 : List Value} (h1 : w.ownsRow b1 e1 s1 v1 n1 x1) (h2 : w.ownsRow b2 e2 s2 v2 n2 x2) (hne : e1 ≠ e2) (j : Nat) (hj : v1.ownBlock = some j) : v2.ownBlock ≠ some j := by
  rcases h1.2 with ⟨rfl, _⟩ | ⟨g, cap, cur, rfl, _, hh, _⟩
  · simp [Value.ownBlock] at hj
  · have e : g = j := by simpa [Value.ownBlock] using hj
    subst e
    exact own_blk_ne h2 hh (fun e => hne e.symm)
theorem own_keptB {w w' : World} {base size n : Nat} {e : TypeId} {v : Value} {xs : List Value} {row : Option Nat} (h : w.ownsRow base e size v n xs) (hg : w.grownBy w' row) (hne : ∀ j, v.ownBlock = some j → row ≠ some j) : w'.ownsRow base e size v n xs :=
  h.kept hg (by
    cases hv : v.ownBlock with
    | none => simp
    | some j => exact .inr (fun e => hne j hv e.symm))
/-- The trimmed image in the making. -/
structure TrimSt (w : World) (en : Int) (V : Value) (ps qs : List PgD) (k : Nat) (A : Option Addr) (c : Nat) (wr : World) : Prop where
  trims : Trims ps qs
  len : qs.length = k
  box : Blk wr w.heap.size 29 #[.int .u32 en, V]
  res : Blk wr (w.heap.size + 1) 29 zeroIm
  im : Blk wr (w.heap.size + 1 + 1) 29 #[.int .u32 en, .slice A k c]
  own : wr.ownsRow (w.heap.size + 1 + 1 + 1) 39 3 (.slice A k c) k (pgsV qs)
  rows : ∀ q ∈ qs, PgOwn wr (w.heap.size + 1 + 1 + 1) q
  ext : Ext w wr
theorem TrimSt.base {w : World} {en : Int} {V : Value} {ps qs : List PgD} {k : Nat} {A : Option Addr} {c : Nat} {wr : World} (h : TrimSt w en V ps qs k A c wr) : ∀ g, Value.ownBlock (.slice A k c) = some g → w.heap.size + 1 + 1 + 1 ≤ g := fun g hg => (h.own.lt g hg).1
theorem TrimSt.keep {w : World} {en : Int} {V : Value} {ps qs : List PgD} {k : Nat} {A : Option Addr} {c : Nat} {wr w' : World} (h : TrimSt w en V ps qs k A c wr) (hx : Ext wr w') : TrimSt w en V ps qs k A c w' :=
  ⟨h.trims, h.len, h.box.ext hx, h.res.ext hx, h.im.ext hx, hx.own h.own, fun q hq => hx.own (h.rows q hq), h.ext.trans hx⟩
theorem TrimSt.imGrown {w : World} {en : Int} {V : Value} {ps qs : List PgD} {k : Nat} {A : Option Addr} {c : Nat} {wr w4 : World} (h : TrimSt w en V ps qs k A c wr) (hg : wr.grownBy w4 (Value.ownBlock (.slice A k c))) : Blk w4 (w.heap.size + 1 + 1) 29 #[.int .u32 en, .slice A k c] :=
  h.im.grown hg (fun e => by have := h.base _ e.symm; omega)
theorem TrimSt.step {w : World} {en : Int} {V : Value} {ps qs : List PgD} {k : Nat} {A : Option Addr} {c : Nat} {wr w4 : World} (h : TrimSt w en V ps qs k A c wr) (p q : PgD) (ht : TrimOf p q) (hq : PgOwn wr (w.heap.size + 1 + 1 + 1) q) {A4 : Option Addr} {c4 : Nat}
    (ho : w4.ownsRow (w.heap.size + 1 + 1 + 1) 39 3 (.slice A4 (k + 1) c4) (k + 1) (pgsV qs ++ pgC q)) (hg : wr.grownBy w4 (Value.ownBlock (.slice A k c))) :
    TrimSt w en V (ps ++ [p]) (qs ++ [q]) (k + 1) A4 c4 (w4.setCell ⟨w.heap.size + 1 + 1, 1, none⟩ (.slice A4 (k + 1) c4)) := by
  have hb := h.base
  have hpg : pgsV qs ++ pgC q = pgsV (qs ++ [q]) := by simp [pgsV]
  rw [hpg] at ho
  have rowk : ∀ r, PgOwn wr (w.heap.size + 1 + 1 + 1) r → PgOwn (w4.setCell ⟨w.heap.size + 1 + 1, 1, none⟩ (.slice A4 (k + 1) c4)) (w.heap.size + 1 + 1 + 1) r := fun r hr =>
    own_far (own_keptB hr hg (fun j hj e => own_own_ne hr h.own (by decide) j hj e)) (fun e => by have := (hr.lt _ e).1; simp at this; omega) _
  refine ⟨h.trims.snoc ht, by simp [h.len], (h.box.grown hg (fun e => by have := hb _ e.symm; omega)).far (show w.heap.size ≠ w.heap.size + 1 + 1 by omega) _, (h.res.grown hg (fun e => by have := hb _ e.symm; omega)).far (show w.heap.size + 1 ≠ w.heap.size + 1 + 1 by omega) _,
    (h.imGrown hg).set_ 1 _, own_far ho (fun e => by have := (ho.lt _ e).1; simp at this; omega) _, fun r hr => ?_, (h.ext.grown hg (fun g e => by have := hb _ e; omega)).setCell (by show _ ≤ w.heap.size + 1 + 1; omega) _⟩
  rcases List.mem_append.1 hr with hr | hr
  · exact rowk r (h.rows r hr)
  · rw [List.mem_singleton.1 hr]; exact rowk q hq
structure PgD.Rd (w : World) (B : Nat) (p : PgD) : Prop where
  num : p.Num
  m255 : p.m ≤ 255
  mc : p.m ≤ p.c
  cm : p.c ≤ maxLen
  reads : Reads w B 1 p.D p.m (bytesV p.ds)
  len : p.ds.length = p.m
def TrimRel (w : World) (en : Int) (V : Value) (ps : List PgD) (n : Nat) (i : Value) (wr : World) : Prop := ∃ (k : Nat) (qs : List PgD) (A : Option Addr) (c : Nat), k ≤ n ∧ i = .int .i64 k ∧ TrimSt w en V (ps.take k) qs k A c wr
def TrimNext (w : World) (en : Int) (V : Value) (ps : List PgD) (k : Nat) (wr : World) : Prop := ∃ (qs : List PgD) (A : Option Addr) (c : Nat), TrimSt w en V (ps.take (k + 1)) qs (k + 1) A c wr
theorem trimZ_step (l : List UInt8) (t : Nat) (ht : t < l.length) (hz : l.getD t 0 = 0) : trimZ (l.take (t + 1)) = trimZ (l.take t) := by
  rw [List.take_succ_eq_append_getElem ht]
  have e : l[t] = 0 := by simpa [List.getD_eq_getElem?_getD, ht] using hz
  rw [e, trimZ_zero]
theorem trimZ_stop (l : List UInt8) (t : Nat) (ht : t < l.length) (hz : l.getD t 0 ≠ 0) : trimZ (l.take (t + 1)) = l.take (t + 1) := by
  rw [List.take_succ_eq_append_getElem ht]
  have e : l[t] ≠ 0 := by simpa [List.getD_eq_getElem?_getD, ht] using hz
  rw [trimZ_nz _ _ e]
def TrimIn (ds : List UInt8) (m : Nat) (v : Value) : Prop := ∃ t : Nat, t ≤ m ∧ v = .int .i64 t ∧ trimZ (ds.take t) = trimZ ds
theorem keep3 {w : World} {g : Nat} {t : TypeId} {a b c : Value} (h : Blk w g t #[a, b, c]) : w.cell? ⟨g, 0, none⟩ = some a ∧ w.cell? ⟨g, 1, none⟩ = some b ∧ w.cell? ⟨g, 2, none⟩ = some c := ⟨h.cell 0, h.cell 1, h.cell 2⟩
/-- The load of im.Pages under a name: it is not to be taken first. -/
def opIm : Op := .load 27 (.tmp 33)
theorem opIm_eq : opIm = Op.load 27 (.tmp 33) := rfl
def TrimPost (w : World) (en : Int) (ps : List PgD) (n : Nat) (e : Ending) (w' : World) : Prop :=
  ∃ (qs : List PgD) (A : Option Addr) (c : Nat), e = .returned (.agg #[.int .u32 en, .slice A n c]) ∧ Trims ps qs ∧ w'.ownsRow (w.heap.size + 1 + 1 + 1) 39 3 (.slice A n c) n (pgsV qs) ∧ (∀ q ∈ qs, PgOwn w' (w.heap.size + 1 + 1 + 1) q) ∧ Ext w w'

set_option maxHeartbeats 1500000 in
set_option maxRecDepth 100000 in
theorem trim_any (ps : List PgD) (A : Option Addr) (n c B : Nat) (en : Int) (w : World) (hr : Reads w B 3 A n (pgsV ps)) (hB : B ≤ w.heap.size) (hp : ∀ p ∈ ps, p.Rd w w.heap.size) (hn : n ≤ 64) :
    Calls Tryd.prog 7 #[.agg #[.int .u32 en, .slice A n c]] w (TrimPost w en ps n) := by
  obtain ⟨i0, hi0, hz0, hz1, hz2⟩ := info_parts pg_info
  have hl : ps.length = n := flat_len pgC_len (by omega) hr
  have HR := hide hr
  have HP := hide hp
  have HL := hide hl
  clear hr hp hl
  go_enter Tryd.func7, Tryd.ntmps7
  go_wp2_with fail
  obtain ⟨W, hW⟩ : ∃ W, W = ((w.alloc (.cells #[.int .u32 en, .slice A n c] 29)).alloc (.cells zeroIm 29)).alloc (.cells #[.int .u32 en, .slice none 0 0] 29) := ⟨_, rfl⟩
  rw [← hW]
  have h0 : TrimSt w en (.slice A n c) [] [] 0 none 0 W := by
    rw [hW]
    exact ⟨.nil, rfl, ((Blk.new _ _ _).alloc _).alloc _, (Blk.new' _ _ _ (by simp)).alloc _, Blk.new' _ _ _ (by simp), World.ownsRow_nil _ _ _ _, by simp, by ((repeat (first | with_reducible exact Ext.refl _ | with_reducible assumption | with_reducible refine Ext.alloc ?_ _ | with_reducible refine Ext.drew ?_ | with_reducible refine Ext.drewN ?_ _ | with_reducible refine Ext.setCell ?_ (by first | exact Nat.le_refl _ | assumption | (simp; done) | omega) _ | with_reducible refine Ext.trans ?_ (by with_reducible assumption))); done)⟩
  have H0 := hide h0
  clear h0 hW
  go_loopw [13] (TrimRel w en (.slice A n c) ps n) (fun i _ => n - (intOf i).toNat)
  case atStart => exact ⟨0, [], none, 0, Nat.zero_le _, rfl, H0.out⟩
  case round =>
    obtain ⟨k, qs, A1, c1, hk, rfl, hst⟩ := hrel
    have HST := hide hst
    clear hst H0
    by_cases hlt : k < n
    · obtain ⟨b, off, rfl, hbB⟩ := HR.out.addr (by omega) (by omega)
      have hkl : k < ps.length := by rw [HL.out]; exact hlt
      obtain ⟨q0, q1, q2⟩ := pg_cells (HST.out.ext.reads HR.out hB) k hkl (by omega)
      have hrd := HP.out ps[k] (List.getElem_mem hkl)
      have HT := hide (show ps.take (k + 1) = ps.take k ++ [ps[k]] from List.take_succ_eq_append_getElem hkl)
      generalize ps[k] = p at *
      obtain ⟨pp, pr, pD, pm, pc, pds⟩ := p
      obtain ⟨⟨b1, b2, b3, b4, b5⟩, b6, b7, b8, b9, b10⟩ := hrd
      dsimp only at q0 q1 q2 b1 b2 b3 b4 b5 b6 b7 b8 b9 b10
      have HRD := hide b9
      have HLD := hide b10
      clear b9 b10
      go_upto_region 5 with fail
      have hbx : Blk (wr.alloc (.cells #[.int .i64 pp, .int .i64 pr, .slice pD pm pc] 39)) wr.heap.size 39 #[.int .i64 pp, .int .i64 pr, .slice pD pm pc] := Blk.new _ _ _
      have H1 := hide (HST.out.keep (w' := wr.alloc (.cells #[.int .i64 pp, .int .i64 pr, .slice pD pm pc] 39)) (by ((repeat (first | with_reducible exact Ext.refl _ | with_reducible assumption | with_reducible refine Ext.alloc ?_ _ | with_reducible refine Ext.drew ?_ | with_reducible refine Ext.drewN ?_ _ | with_reducible refine Ext.setCell ?_ (by first | exact Nat.le_refl _ | assumption | (simp; done) | omega) _ | with_reducible refine Ext.trans ?_ (by with_reducible assumption))); done)))
      generalize wr.alloc (.cells #[.int .i64 pp, .int .i64 pr, .slice pD pm pc] 39) = W1 at hbx H1 ⊢
      have p0 : W1.cell? ⟨wr.heap.size, 0, none⟩ = some (.int .i64 pp) := hbx.cell 0
      have p1 : W1.cell? ⟨wr.heap.size, 1, none⟩ = some (.int .i64 pr) := hbx.cell 1
      have p2 : W1.cell? ⟨wr.heap.size, 2, none⟩ = some (.slice pD pm pc) := hbx.cell 2
      have HRD1 := hide (H1.out.ext.reads HRD.out (Nat.le_refl _))
      clear q0 q1 q2
      go_wp2_with fail
      go_loop [6] (TrimIn pds pm) (fun v => (intOf v).toNat)
      case atStart => exact ⟨pm, Nat.le_refl _, rfl, by rw [List.take_of_length_le (by rw [HLD.out]; exact Nat.le_refl _)]⟩
      case round =>
        obtain ⟨t, ht, rfl, htz⟩ := hrel
        have HTZ := hide htz
        clear htz
        by_cases h0 : 0 < t
        · obtain ⟨bd, od, rfl, -, -⟩ := HRD1.out.at1 (by omega)
          obtain ⟨t', htt⟩ : ∃ t', t = t' + 1 := ⟨t - 1, by omega⟩
          have g1 : W1.cell? ⟨bd, od + t', none⟩ = some (.int .u8 ((pds.getD t' 0).toNat : Int)) := cells_of HRD1.out t' (by omega)
          have htl : t' < pds.length := by rw [HLD.out]; omega
          have hby : (pds.getD t' 0).toNat < 256 := (pds.getD t' 0).toNat_lt
          have i1 : (0 : Int) ≤ (t : Int) - 1 := by omega
          have i2 : (t : Int) - 1 < (pm : Int) := by omega
          have i3 : ((t : Int) - 1).toNat = t' := by omega
          have i4 : (0 : Int) < (t : Int) := by omega
          have HTT := hide htt
          clear htt
          by_cases hz : pds.getD t' 0 = 0
          · have HZ := hide (show trimZ (pds.take t') = trimZ pds by rw [← HTZ.out, HTT.out, trimZ_step pds t' htl hz])
            have tz : (((pds.getD t' 0).toNat : Int) == 0) = true := by rw [hz]; rfl
            clear hz
            generalize (pds.getD t' 0).toNat = x at *
            go_wp2_with fail
            go_round
            case rel => exact ⟨t', by have := HTT.out; omega, by have := HTT.out; congr 1; omega, HZ.out⟩
            case measure => simp [intOf]; have := HTT.out; omega
          · have HTRIM := hide (show trimZ pds = pds.take t by rw [← HTZ.out, HTT.out, trimZ_stop pds t' htl hz])
            have tz : (((pds.getD t' 0).toNat : Int) == 0) = false := by
              rw [beq_eq_false_iff_ne]
              intro h
              exact hz (UInt8.toNat_inj.1 (by simpa using h))
            clear hz
            generalize (pds.getD t' 0).toNat = x at *
            go_upto_region 8 with fail
            clear i1 i2 i3 g1
            have HRT := hide (show Reads W1 w.heap.size 1 (some ⟨bd, od, none⟩) t (bytesV (pds.take t)) by rw [← bytesV_take]; exact HRD1.out.take (by omega))
            have HNIL := hide (show (some (⟨bd, od, none⟩ : Addr)) = none → t = 0 from fun h => by
              rcases Nat.eq_zero_or_pos t with h0 | h0
              · exact h0
              · obtain ⟨ad, e, _⟩ := HRT.out.2 h0
                cases h)
            have p3 : W1.cell? ⟨w.heap.size + 1 + 1, 1, none⟩ = some (.slice A1 k c1) := H1.out.im.cell 1
            have hsz1 : w.heap.size + 1 + 1 < W1.heap.size := H1.out.im.lt
            have tc : (t : Int) ≤ (pc : Int) := by omega
            have t0 : (0 : Int) ≤ (t : Int) := by omega
            have hgx : w.heap.size + 1 + 1 ≠ wr.heap.size := by have := HST.out.im.lt; omega
            rw [← opIm_eq]
            have hOp := opIm_eq
            go_region_held3 (fun w' => w'.cell? ⟨wr.heap.size, 0, none⟩ = some (.int .i64 pp) ∧ w'.cell? ⟨wr.heap.size, 1, none⟩ = some (.int .i64 pr) ∧ w'.cell? ⟨wr.heap.size, 2, none⟩ = some (.slice (some ⟨bd, od, none⟩) pm pc))
              (first | exact keep3 hbx | exact keep3 hb5 | exact keep3 (hb5.alloc _) | exact keep3 hb4 | exact keep3 (hb4.far (fun e => hgx e.symm) _) | fail)
              (first
                | (go_at_call 14; (with_reducible refine (bclone_any (some ⟨bd, od, none⟩) t pc w.heap.size (bytesV (pds.take t)) _ (HRT.out).drew (bytesV_one _) (by have := H1.out.ext.size; simpa using this) (by omega) HNIL.out).mono ?_); rintro e w5 ⟨A5, c5, rfl, ho5, hx5⟩; have y0 : w5.cell? ⟨wr.heap.size, 0, none⟩ = some (.int .i64 pp) := hx5.cell p0; have y1 : w5.cell? ⟨wr.heap.size, 1, none⟩ = some (.int .i64 pr) := hx5.cell p1; have y3 : w5.cell? ⟨w.heap.size + 1 + 1, 1, none⟩ = some (.slice A1 k c1) := hx5.cell p3; have H5 := hide (H1.out.keep (w' := w5) (((Ext.refl W1).drew).trans hx5)); have O5 := hide (own_mono ho5 (show w.heap.size + 1 + 1 + 1 ≤ W1.drew.heap.size from hsz1)); have y4 : w.heap.size + 1 + 1 < w5.heap.size := H5.out.im.lt; have y5 := alloc_old w5; have hb5 := hbx.ext (((Ext.refl W1).drew).trans hx5))
                | (refine step_append_any _ (by rfl) (.tmp 34) (.tmp 45) 27 (by rfl) (w.heap.size + 1 + 1 + 1) 39 i0 _ 3 40 Tryd.underlying27 hi0 hz0 hz1 hz2 rfl (by omega) _ k (pgsV qs) (by rfl) (H5.out.own.alloc _) _ _ 1 1 [.int .i64 pp, .int .i64 pr, .slice A5 t c5] (by rfl) (Blk.new _ _ _).reads3 (by simp [Value.oneCell']) (by simp only [maxLen]; omega) (by omega) (by simp; omega) ?_; intro A4 c4 w4 ho4 hg4 ha4; have HN := hide ((H5.out.keep (w' := w5.alloc (.cells #[.int .i64 pp, .int .i64 pr, .slice A5 t c5] 39)) ((Ext.refl w5).alloc _)).step ⟨pp, pr, (some ⟨bd, od, none⟩), pm, pc, pds⟩ ⟨pp, pr, A5, t, c5, pds.take t⟩ ⟨rfl, rfl, HTRIM.out.symm⟩ (show PgOwn _ _ ⟨pp, pr, A5, t, c5, pds.take t⟩ from O5.out.alloc _) ho4 hg4); have hi4 := (H5.out.keep (w' := w5.alloc (.cells #[.int .i64 pp, .int .i64 pr, .slice A5 t c5] 39)) ((Ext.refl w5).alloc _)).imGrown hg4; have z1 : w4.cell? ⟨w.heap.size + 1 + 1, 1, none⟩ = some (.slice A1 k c1) := hi4.cell 1; have z2 := hi4.frozen 1; have hb4 := (hb5.alloc (.cells #[.int .i64 pp, .int .i64 pr, .slice A5 t c5] 39)).grown hg4 (fun e => by have := (HST.out.own.lt _ e.symm).2; omega))
                | fail)
            all_goals
              go_wp2_with fail
              go_roundw
              case rel => exact ⟨k + 1, _, _, _, by omega, by go_num, by rw [HT.out]; exact HN.out⟩
              case measure => simp [intOf]; omega
        · obtain rfl : t = 0 := by omega
          have HTRIM := hide (show trimZ pds = pds.take 0 by rw [← HTZ.out]; rfl)
          go_upto_region 8 with fail
          have HRT := hide (show Reads W1 w.heap.size 1 pD 0 (bytesV (pds.take 0)) by rw [← bytesV_take]; exact HRD1.out.take (by omega))
          have HNIL := hide (show pD = none → 0 = 0 from fun _ => rfl)
          have p3 : W1.cell? ⟨w.heap.size + 1 + 1, 1, none⟩ = some (.slice A1 k c1) := H1.out.im.cell 1
          have hsz1 : w.heap.size + 1 + 1 < W1.heap.size := H1.out.im.lt
          have tc : ((0 : Nat) : Int) ≤ (pc : Int) := by omega
          have t0 : (0 : Int) ≤ ((0 : Nat) : Int) := by omega
          have hgx : w.heap.size + 1 + 1 ≠ wr.heap.size := by have := HST.out.im.lt; omega
          rw [← opIm_eq]
          have hOp := opIm_eq
          go_region_held3 (fun w' => w'.cell? ⟨wr.heap.size, 0, none⟩ = some (.int .i64 pp) ∧ w'.cell? ⟨wr.heap.size, 1, none⟩ = some (.int .i64 pr) ∧ w'.cell? ⟨wr.heap.size, 2, none⟩ = some (.slice pD pm pc))
            (first | exact keep3 hbx | exact keep3 hb5 | exact keep3 (hb5.alloc _) | exact keep3 hb4 | exact keep3 (hb4.far (fun e => hgx e.symm) _) | fail)
            (first
              | (go_at_call 14; (with_reducible refine (bclone_any pD 0 pc w.heap.size (bytesV (pds.take 0)) _ (HRT.out).drew (bytesV_one _) (by have := H1.out.ext.size; simpa using this) (by omega) HNIL.out).mono ?_); rintro e w5 ⟨A5, c5, rfl, ho5, hx5⟩; have y0 : w5.cell? ⟨wr.heap.size, 0, none⟩ = some (.int .i64 pp) := hx5.cell p0; have y1 : w5.cell? ⟨wr.heap.size, 1, none⟩ = some (.int .i64 pr) := hx5.cell p1; have y3 : w5.cell? ⟨w.heap.size + 1 + 1, 1, none⟩ = some (.slice A1 k c1) := hx5.cell p3; have H5 := hide (H1.out.keep (w' := w5) (((Ext.refl W1).drew).trans hx5)); have O5 := hide (own_mono ho5 (show w.heap.size + 1 + 1 + 1 ≤ W1.drew.heap.size from hsz1)); have y4 : w.heap.size + 1 + 1 < w5.heap.size := H5.out.im.lt; have y5 := alloc_old w5; have hb5 := hbx.ext (((Ext.refl W1).drew).trans hx5))
              | (refine step_append_any _ (by rfl) (.tmp 34) (.tmp 45) 27 (by rfl) (w.heap.size + 1 + 1 + 1) 39 i0 _ 3 40 Tryd.underlying27 hi0 hz0 hz1 hz2 rfl (by omega) _ k (pgsV qs) (by rfl) (H5.out.own.alloc _) _ _ 1 1 [.int .i64 pp, .int .i64 pr, .slice A5 0 c5] (by rfl) (Blk.new _ _ _).reads3 (by simp [Value.oneCell']) (by simp only [maxLen]; omega) (by omega) (by simp; omega) ?_; intro A4 c4 w4 ho4 hg4 ha4; have HN := hide ((H5.out.keep (w' := w5.alloc (.cells #[.int .i64 pp, .int .i64 pr, .slice A5 0 c5] 39)) ((Ext.refl w5).alloc _)).step ⟨pp, pr, pD, pm, pc, pds⟩ ⟨pp, pr, A5, 0, c5, pds.take 0⟩ ⟨rfl, rfl, HTRIM.out.symm⟩ (show PgOwn _ _ ⟨pp, pr, A5, 0, c5, pds.take 0⟩ from O5.out.alloc _) ho4 hg4); have hi4 := (H5.out.keep (w' := w5.alloc (.cells #[.int .i64 pp, .int .i64 pr, .slice A5 0 c5] 39)) ((Ext.refl w5).alloc _)).imGrown hg4; have z1 : w4.cell? ⟨w.heap.size + 1 + 1, 1, none⟩ = some (.slice A1 k c1) := hi4.cell 1; have z2 := hi4.frozen 1; have hb4 := (hb5.alloc (.cells #[.int .i64 pp, .int .i64 pr, .slice A5 0 c5] 39)).grown hg4 (fun e => by have := (HST.out.own.lt _ e.symm).2; omega))
              | fail)
          all_goals
            go_wp2_with fail
            go_roundw
            case rel => exact ⟨k + 1, _, _, _, by omega, by go_num, by rw [HT.out]; exact HN.out⟩
            case measure => simp [intOf]; omega
    · obtain rfl : k = n := by omega
      have hst := HST.out
      rw [List.take_of_length_le (by rw [HL.out]; exact Nat.le_refl _)] at hst
      have H9 := hide hst
      have m0 : wr.cell? ⟨w.heap.size + 1 + 1, 0, none⟩ = some (.int .u32 en) := hst.im.cell 0
      have m1 : wr.cell? ⟨w.heap.size + 1 + 1, 1, none⟩ = some (.slice A1 k c1) := hst.im.cell 1
      have s0 : wr.cell? ⟨w.heap.size + 1, 0, none⟩ = some (.int .u32 0) := hst.res.cell 0
      have s1 : wr.cell? ⟨w.heap.size + 1, 1, none⟩ = some (.slice none 0 0) := hst.res.cell 1
      have s2 := hst.res.frozen 0
      have s3 := hst.res.frozen 1
      clear hst HST
      go_wp2_with fail
      have hs9 := (H9.out.res.set_ 0 (.int .u32 en)).set_ 1 (.slice A1 k c1)
      have far2 : ∀ {b e size m : Nat} {v : Value} {xs : List Value}, wr.ownsRow (w.heap.size + 1 + 1 + 1) e size v m xs → ((wr.setCell ⟨w.heap.size + 1, 0, none⟩ (.int .u32 en)).setCell ⟨w.heap.size + 1, 1, none⟩ (.slice A1 k c1)).ownsRow (w.heap.size + 1 + 1 + 1) e size v m xs := fun h =>
        own_far (own_far h (fun e => by have := (h.lt _ e).1; simp at this; omega) _) (fun e => by have := (h.lt _ e).1; simp at this; omega) _
      have hx9 := (H9.out.ext.setCell (p := ⟨w.heap.size + 1, 0, none⟩) (by show _ ≤ w.heap.size + 1; omega) (.int .u32 en)).setCell (p := ⟨w.heap.size + 1, 1, none⟩) (by show _ ≤ w.heap.size + 1; omega) (.slice A1 k c1)
      have HO9 := hide (far2 (b := 0) H9.out.own)
      have HR9 := hide (show ∀ q ∈ qs, PgOwn _ (w.heap.size + 1 + 1 + 1) q from fun q hq => far2 (b := 0) (H9.out.rows q hq))
      generalize (wr.setCell ⟨w.heap.size + 1, 0, none⟩ (.int .u32 en)).setCell ⟨w.heap.size + 1, 1, none⟩ (.slice A1 k c1) = W9 at hs9 HO9 HR9 hx9 ⊢
      have z0 : W9.cell? ⟨w.heap.size + 1, 0, none⟩ = some (.int .u32 en) := hs9.cell 0
      have z1 : W9.cell? ⟨w.heap.size + 1, 1, none⟩ = some (.slice A1 k c1) := hs9.cell 1
      refine bodyPost_ret (v := .agg #[.int .u32 en, .slice A1 k c1]) (by simp [results, Tryd.results7, go_sem, z0, z1]) rfl ?_
      exact ⟨qs, A1, c1, rfl, H9.out.trims, HO9.out, HR9.out, hx9⟩
end Go.Proofs.YtmcgkdifieohlaaDoor
