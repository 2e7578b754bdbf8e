/- The contract of wire.Run. -/
import Derived.Test.YtacfffegmmdgfaaSendW
import Derived.Test.YtacfffegmmdgfaaRunP
namespace Go.Proofs.Ytacfffegmmdgfaa
open Go.RowKit
set_option linter.unusedVariables false

def runTo (a b : Int) (ls : List (DeedD × Value)) (k : Nat) : LineD := ((ls.map (·.1)).take k).foldl stepL (sendP (line0 a b))
def RunRel (w0 : World) (gl : Nat) (bb : Nat → Nat) (a b : Int) (ls : List (DeedD × Value)) (n : Nat) (v : Value) (wr : World) : Prop :=
  ∃ k : Nat, k ≤ n ∧ v = .int .i64 k ∧ LineAt w0 gl bb (runTo a b ls k) wr ∧ Fits (runTo a b ls k) k
def StepMid (w0 : World) (gl : Nat) (bb : Nat → Nat) (d : LineD) (wc : World) : Prop := LineAt w0 gl bb d wc
theorem Reads.raise {w : World} {B B' n size : Nat} {A : Option Addr} {xs : List Value} (h : Reads w B size A n xs) (hb : B ≤ B') : Reads w B' size A n xs :=
  ⟨h.1, fun hn => by
    obtain ⟨ad, e, h1, h2⟩ := h.2 hn
    exact ⟨ad, e, Nat.lt_of_lt_of_le h1 hb, h2⟩⟩
/-- A line that has begun. -/
theorem line_begins {w w4 : World} {g0 g1 gl : Nat} {a b : Int} (ha : U32 a) (hb : U32 b) (h0 : EndB w4 g0 (beginE 2 a) nilV nilV) (h1 : EndB w4 g1 (beginE 1 b) nilV nilV)
    (hbx : Blk w4 gl 46 #[.pointer (some ⟨g0, 0, none⟩), .pointer (some ⟨g1, 0, none⟩), nilV, nilV, .bool false, .int .i64 0, nilV, nilV, .bool false, .int .i64 0, nilV]) (hx : Ext w w4) (e0 : w.heap.size ≤ g0) (e1 : g0 < g1) (e2 : g1 < gl) :
    LineAt w gl (fun i => if i = 0 then g0 else g1) (line0 a b) w4 := by
  have hok : ∀ (st iss : Int), (st = 1 ∨ st = 2) → U32 iss → (beginE st iss).Ok := fun st iss hs h =>
    ⟨by show 0 ≤ st ∧ st ≤ 5; omega, h, h, h, ⟨Int.emod_nonneg _ (by omega), Int.emod_lt_of_pos _ (by omega)⟩, ⟨by simp [beginE], by simp [beginE]⟩, by simp [beginE], by simp [beginE], ⟨by simp [beginE], by simp [beginE]⟩, ⟨by simp [beginE], by simp [beginE]⟩, ⟨by simp [beginE], by simp [beginE]⟩⟩
  refine ⟨⟨fun i => if i = 0 then g0 else g1, fun _ => nilV, fun _ => nilV, fun _ => nilV, fun _ => nilV, nilV, [], fun k => if k = g0 then 0 else if k = g1 then 1 else if k = gl then 7 else 9⟩, ⟨hbx, ?_, ?_, ?_, fun i _ => World.ownsRow_nil _ _ _ _, fun i _ => World.ownsRow_nil _ _ _ _, World.ownsRow_nil _ _ _ _, rfl, (fun x hx => by simp [line0] at hx), (fun x hx => by simp [line0] at hx), (fun x hx => by cases hx), ?_, ?_, (fun i _ k hk => by cases hk), (fun i _ k hk => by cases hk), (fun k hk => by cases hk), (fun x hx => by cases hx), ?_, by omega, hx⟩, rfl⟩
  · intro i hi
    rcases lt2 hi with rfl | rfl
    · exact ⟨h0, World.ownsRow_nil _ _ _ _, World.ownsRow_nil _ _ _ _, fun k hk => by cases hk⟩
    · exact ⟨h1, World.ownsRow_nil _ _ _ _, World.ownsRow_nil _ _ _ _, fun k hk => by cases hk⟩
  · intro i hi
    rcases lt2 hi with rfl | rfl
    · exact hok 2 a (.inr rfl) ha
    · exact hok 1 b (.inl rfl) hb
  · intro i hi
    rcases lt2 hi with rfl | rfl <;> exact fun _ => by simp [line0, beginE]
  · dsimp only
    rw [if_neg (by omega), if_neg (by omega), if_pos rfl]
  · intro i hi k hf
    rcases hf with hf | hf | hf
    · rcases lt2 hi with rfl | rfl
      · have : k = g0 := hf
        subst this
        exact if_pos rfl
      · have : k = g1 := hf
        subst this
        dsimp only
        rw [if_neg (by omega), if_pos rfl]
    · cases hf
    · cases hf
  · intro k hk
    dsimp only
    rw [if_neg (by omega), if_neg (by omega), if_neg (by omega)]
def RunPost (w : World) (d : LineD) (r : Ending) (w' : World) : Prop :=
  ∃ P0 G0 P1 G1 : Value, r = .returned (.tuple #[.agg #[P0, G0, .bool (d.e 0).fin, .int .i64 (d.e 0).st, P1, G1, .bool (d.e 1).fin, .int .i64 (d.e 1).st], .int .i64 0]) ∧ Ext w w' ∧
    w'.ownsRow w.heap.size 5 1 P0 (d.p 0).length (bytesV (d.p 0)) ∧ w'.ownsRow w.heap.size 5 1 G0 (d.g 0).length (bytesV (d.g 0)) ∧ w'.ownsRow w.heap.size 5 1 P1 (d.p 1).length (bytesV (d.p 1)) ∧ w'.ownsRow w.heap.size 5 1 G1 (d.g 1).length (bytesV (d.g 1))
def lineF1 (L : LineL) (d : LineD) : Array Value := #[.pointer (some ⟨L.b 0, 0, none⟩), .pointer (some ⟨L.b 1, 0, none⟩), L.vp 0, L.vg 0, .bool (d.e 0).fin, .int .i64 (d.e 0).st, L.vp 1, L.vg 1, .bool false, .int .i64 0, L.vy]
def lineF2 (L : LineL) (d : LineD) : Array Value := #[.pointer (some ⟨L.b 0, 0, none⟩), .pointer (some ⟨L.b 1, 0, none⟩), L.vp 0, L.vg 0, .bool (d.e 0).fin, .int .i64 (d.e 0).st, L.vp 1, L.vg 1, .bool (d.e 1).fin, .int .i64 (d.e 1).st, L.vy]
theorem keep_set {w w1 w2 : World} {gl : Nat} (h : KeepF (fun k => k = gl) w w1) (hx : Ext w1 w2) (o : Nat) (v : Value) : KeepF (fun k => k = gl) w (w2.setCell ⟨gl, o, none⟩ v) :=
  (h.trans (KeepF.of_ext (F := fun _ => False) hx) (fun _ _ h => h.elim)).trans (KeepF.of_grown (F := fun k => k = gl) (g := gl) (grown_set (World.grownBy.refl _ _) _ _) rfl) (fun _ _ h => h)
def FinRel (gl : Nat) (w1 : World) (F0 F1 F2 : Array Value) (v : Value) (wr : World) : Prop :=
  ((v = .int .i64 0 ∧ Blk wr gl 46 F0) ∨ (v = .int .i64 1 ∧ Blk wr gl 46 F1) ∨ (v = .int .i64 2 ∧ Blk wr gl 46 F2)) ∧ KeepF (fun k => k = gl) w1 wr
theorem run_results (w : World) (gr : Nat) (A0 A1 A2 A3 : Option Addr) (n0 k0 n1 k1 n2 k2 n3 k3 : Nat) (f0 f1 : Bool) (s0 s1 : Int) (tmps : Array Value) (h6 : tmps.getD 6 undef = .pointer (some ⟨gr, 0, none⟩)) (h7 : tmps.getD 7 undef = .int .i64 0)
    (hb : Blk w gr 27 #[.slice A0 n0 k0, .slice A1 n1 k1, .bool f0, .int .i64 s0, .slice A2 n2 k2, .slice A3 n3 k3, .bool f1, .int .i64 s1]) :
    (results Try.f6 tmps).run Try.prog w = .ok (.tuple #[.agg #[.slice A0 n0 k0, .slice A1 n1 k1, .bool f0, .int .i64 s0, .slice A2 n2 k2, .slice A3 n3 k3, .bool f1, .int .i64 s1], .int .i64 0]) w := by
  have c0 : w.cell? ⟨gr, 0, none⟩ = some (.slice A0 n0 k0) := hb.cell 0
  have c1 : w.cell? ⟨gr, 1, none⟩ = some (.slice A1 n1 k1) := hb.cell 1
  have c2 : w.cell? ⟨gr, 2, none⟩ = some (.bool f0) := hb.cell 2
  have c3 : w.cell? ⟨gr, 3, none⟩ = some (.int .i64 s0) := hb.cell 3
  have c4 : w.cell? ⟨gr, 4, none⟩ = some (.slice A2 n2 k2) := hb.cell 4
  have c5 : w.cell? ⟨gr, 5, none⟩ = some (.slice A3 n3 k3) := hb.cell 5
  have c6 : w.cell? ⟨gr, 6, none⟩ = some (.bool f1) := hb.cell 6
  have c7 : w.cell? ⟨gr, 7, none⟩ = some (.int .i64 s1) := hb.cell 7
  simp only [Array.getD_eq_getD_getElem?] at h6 h7
  simp [results, Try.results6, go_sem, h6, h7, c0, c1, c2, c3, c4, c5, c6, c7]
set_option maxHeartbeats 8000000 in
set_option maxRecDepth 100000 in
theorem run_any (w : World) (a b : Int) (ha : U32 a) (hb : U32 b) (A : Option Addr) (n c B : Nat) (ls : List (DeedD × Value)) (hd : DeedsIn w B A n ls) (hn : n ≤ 200) :
    Calls Try.prog 6 #[.int .u32 a, .int .u32 b, .slice A n c] w (RunPost w (runL a b (ls.map (·.1)))) := by
  have HA := hide ha
  have HB := hide hb
  have HD := hide hd
  have hll := flat_len deedC_len (by omega) hd.row
  have HLL := hide hll
  clear ha hb hd hll
  go_enter Try.func6, Try.ntmps6
  go_wp2_with fail
  have HXT := hide ((Ext.refl w).alloc (.cells #[.slice none 0 0, .slice none 0 0, .bool false, .int .i64 0, .slice none 0 0, .slice none 0 0, .bool false, .int .i64 0] 27))
  have HBR := hide (Blk.new w 27 #[.slice none 0 0, .slice none 0 0, .bool false, .int .i64 0, .slice none 0 0, .slice none 0 0, .bool false, .int .i64 0])
  generalize w.alloc (.cells #[.slice none 0 0, .slice none 0 0, .bool false, .int .i64 0, .slice none 0 0, .slice none 0 0, .bool false, .int .i64 0] 27) = w0 at *
  obtain ⟨gr, hgr⟩ : ∃ x, w.heap.size = x := ⟨_, rfl⟩
  rw [hgr] at HBR ⊢
  have HGR := hide hgr
  clear hgr
  refine (new_any w0).mono ?_
  rintro r w1 ⟨rfl, he1, hx1⟩
  have HE1 := hide he1
  have HX1 := hide hx1
  clear he1 hx1
  go_wp2_with fail
  refine (new_any w1).mono ?_
  rintro r w2 ⟨rfl, he2, hx2⟩
  have HE2 := hide he2
  have HX2 := hide hx2
  have HE1' := hide (HE1.out.ext hx2)
  clear he2 hx2
  obtain ⟨g0, hg0⟩ : ∃ x, w0.heap.size = x := ⟨_, rfl⟩
  obtain ⟨g1, hg1⟩ : ∃ x, w1.heap.size = x := ⟨_, rfl⟩
  rw [hg0] at HE1 HE1' ⊢
  rw [hg1] at HE2 ⊢
  have HG0 := hide hg0
  have HG1 := hide hg1
  clear hg0 hg1
  go_upto_region 4 with fail
  have HXA := hide ((Ext.refl w2).alloc (.cells #[.pointer (some ⟨g0, 0, none⟩), .pointer (some ⟨g1, 0, none⟩), .slice none 0 0, .slice none 0 0, .bool false, .int .i64 0, .slice none 0 0, .slice none 0 0, .bool false, .int .i64 0, .slice none 0 0] 46))
  have HBX := hide (Blk.new w2 46 #[.pointer (some ⟨g0, 0, none⟩), .pointer (some ⟨g1, 0, none⟩), .slice none 0 0, .slice none 0 0, .bool false, .int .i64 0, .slice none 0 0, .slice none 0 0, .bool false, .int .i64 0, .slice none 0 0])
  generalize w2.alloc (.cells #[.pointer (some ⟨g0, 0, none⟩), .pointer (some ⟨g1, 0, none⟩), .slice none 0 0, .slice none 0 0, .bool false, .int .i64 0, .slice none 0 0, .slice none 0 0, .bool false, .int .i64 0, .slice none 0 0] 46) = W at *
  obtain ⟨gl, hgl⟩ : ∃ x, w2.heap.size = x := ⟨_, rfl⟩
  rw [hgl] at HBX ⊢
  have HGL := hide hgl
  clear hgl
  have E1 := hide (HE1'.out.ext HXA.out)
  have E2 := hide (HE2.out.ext HXA.out)
  have p0 : W.cell? ⟨gl, 0, none⟩ = some (.pointer (some ⟨g0, 0, none⟩)) := HBX.out.cell 0
  have hlt0 : g0 < g1 := by have := HE1.out.lt; have := HG1.out; omega
  have hlt1 : g1 < gl := by have := HE2.out.lt; have := HGL.out; omega
  go_wp2_with fail
  refine (call_ok W g0 end0 nilV nilV a E1.out rfl HA.out).mono ?_
  rintro r w3 ⟨rfl, he3, hg3⟩
  have HE3 := hide he3
  have HG3 := hide hg3
  have HE23 := hide (E2.out.grown hg3 (fun e => by injection e with e; omega))
  have HBX3 := hide (HBX.out.grown hg3 (fun e => by injection e with e; omega))
  clear he3 hg3 p0
  have p1 : w3.cell? ⟨gl, 1, none⟩ = some (.pointer (some ⟨g1, 0, none⟩)) := HBX3.out.cell 1
  go_wp2_with fail
  refine (listen_ok w3 g1 end0 nilV nilV b HE23.out rfl HB.out).mono ?_
  rintro r w4 ⟨rfl, he4, hg4⟩
  have HE34 := hide (HE3.out.grown hg4 (fun e => by injection e with e; omega))
  have HBX4 := hide (HBX3.out.grown hg4 (fun e => by injection e with e; omega))
  have HX4 := hide (show Ext w0 w4 from (((HX1.out.trans HX2.out).trans HXA.out).grown HG3.out (fun k hk => by injection hk with hk; have := HG0.out; omega)).grown hg4 (fun k hk => by injection hk with hk; have := HG0.out; omega))
  have HL4 := hide (line_begins (w := w0) HA.out HB.out HE34.out he4 HBX4.out HX4.out (by have := HG0.out; omega) hlt0 hlt1)
  obtain ⟨bb, hbb⟩ : ∃ x, (fun i => if i = 0 then g0 else g1 : Nat → Nat) = x := ⟨_, rfl⟩
  rw [hbb] at HL4
  clear he4 hg4 p1 hbb HE1 HE1' HE2 HE3 HE23 HE34 HBX HBX3 HBX4 HX1 HX2 HX4 HXA E1 E2 HG3 HG0 HG1 HGL hlt0 hlt1
  go_wp2_with fail
  refine (send_any w0 gl bb _ w4 HL4.out).mono ?_
  rintro r w5 ⟨rfl, hl5⟩
  have HL5 := hide hl5
  have HDW := hide (HXT.out.reads HD.out.row HD.out.base)
  have HDS := hide (fun x hx => (HD.out.each x hx))
  have HS1 := hide HXT.out.size
  clear hl5 HL4
  go_wp2_with fail
  go_loopw [40] (RunRel w0 gl bb a b ls n) (fun v _ => n - (intOf v).toNat)
  case atStart => exact ⟨0, Nat.zero_le _, rfl, HL5.out, ⟨lay_le (lay_le (by simp [line0])), fun i hi => Nat.zero_le _, fun i hi => Nat.zero_le _⟩⟩
  case round =>
    obtain ⟨k, hk, rfl, hl, hf⟩ := hrel
    clear HL5
    have HLK := hide hl
    have HFK := hide hf
    clear hl hf
    by_cases hlt : k < n
    · have hkl : k < ls.length := by rw [HLL.out]; exact hlt
      obtain ⟨bl, off, rfl, hbl⟩ := HDW.out.addr (by omega) (by omega)
      have hext := HLK.out.oks.2
      have hrd := hext.reads HDW.out (Nat.le_trans HD.out.base HS1.out)
      have r0 := Reads.elem deedC_len hrd k hkl (by omega) 0 (by omega) (u := .int .i64 ls[k].1.kind) rfl
      have r1 := Reads.elem deedC_len hrd k hkl (by omega) 1 (by omega) (u := .int .i64 ls[k].1.end_) rfl
      have r2 := Reads.elem deedC_len hrd k hkl (by omega) 2 (by omega) (u := .int .i64 ls[k].1.n) rfl
      have r3 := Reads.elem deedC_len hrd k hkl (by omega) 3 (by omega) (u := ls[k].2) rfl
      obtain ⟨hk17, he, hn256, hdl, D, m, cD, BD, hdv, hmc, hcm, hBD, hrD⟩ := HDS.out _ (List.getElem_mem hkl)
      have hstep : runTo a b ls (k + 1) = stepL (runTo a b ls k) ls[k].1 := by
        unfold runTo
        rw [List.take_succ_eq_append_getElem (by simpa using hkl), List.foldl_append, List.getElem_map]
        rfl
      obtain ⟨x, hx⟩ : ∃ x, ls[k] = x := ⟨_, rfl⟩
      rw [hx] at r0 r1 r2 r3 hk17 he hn256 hdl hdv hrD hstep
      obtain ⟨⟨kind, ed, nn, data⟩, dv⟩ := x
      dsimp only at r0 r1 r2 r3 hk17 he hn256 hdl hdv hrD hstep
      subst hdv
      obtain ⟨z, rfl⟩ : ∃ z : Nat, nn = (z : Int) := ⟨nn.toNat, by omega⟩
      have z0 : wr.cell? ⟨bl, off + k * 4, none⟩ = some (.int .i64 kind) := by simpa using r0
      have hml : data.length = m := by have := hrD.1; rw [bytesV_length] at this; omega
      have hm50 : m ≤ 50 := by omega
      have HRD := hide (show Reads w0 w0.heap.size 1 D m (bytesV data) from (HXT.out.reads hrD hBD).raise (Nat.le_trans hBD HS1.out))
      have HST := hide hstep
      have HDL := hide hdl
      have HMC := hide hmc
      have HCM := hide hcm
      obtain ⟨hk1, hk7⟩ := hk17
      obtain ⟨d1, hd1⟩ : ∃ x, runTo a b ls k = x := ⟨_, rfl⟩
      rw [hd1] at HLK HFK HST
      have HFD := HFK
      have HOKS := hide HLK.out.oks.1
      clear r0 hx hrd hext hstep hrD hdl hmc hcm hml hkl hd1 HFK
      go_upto_region 10 with fail
      have HLW := hide (HLK.out.extend ((Ext.refl wr).alloc (.cells #[.int .i64 kind, .int .i64 ed, .int .i64 (z : Int), .slice D m cD] 35)))
      have HBT := hide (Blk.new wr 35 #[.int .i64 kind, .int .i64 ed, .int .i64 (z : Int), .slice D m cD])
      generalize wr.alloc (.cells #[.int .i64 kind, .int .i64 ed, .int .i64 (z : Int), .slice D m cD] 35) = W at *
      obtain ⟨gt, hgt⟩ : ∃ x, wr.heap.size = x := ⟨_, rfl⟩
      rw [hgt] at HBT ⊢
      clear hgt r1 r2 r3 z0 HLK
      have b0 : W.cell? ⟨gt, 0, none⟩ = some (.int .i64 kind) := HBT.out.cell 0
      have b1 : W.cell? ⟨gt, 1, none⟩ = some (.int .i64 ed) := HBT.out.cell 1
      have b2 : W.cell? ⟨gt, 2, none⟩ = some (.int .i64 (z : Int)) := HBT.out.cell 2
      have b3 : W.cell? ⟨gt, 3, none⟩ = some (.slice D m cD) := HBT.out.cell 3
      obtain ⟨Aw, cw, y10⟩ := HLW.out.way
      obtain ⟨ny, hny⟩ : ∃ x, d1.y.length = x := ⟨_, rfl⟩
      rw [hny] at y10
      have HNY := hide hny
      have hny64 : ny ≤ 64 := by rw [← hny]; exact HFD.out.y
      clear hny
      by_cases hk3 : kind ≤ 3
      · as_aux_lemma =>
          rcases he with rfl | rfl
          · go_wp2_with fail
            refine (own_any w0 gl bb d1 W HLW.out kind 0 (z : Int) D m cD data ⟨hk1, hk3⟩ (.inl rfl) ⟨by omega, by omega⟩ HRD.out HMC.out (by omega) (fun i hi => by have := HFD.out.p i hi; omega) (fun i hi => by have := HFD.out.g i hi; omega)).mono ?_
            rintro r w8 ⟨rfl, hl8⟩
            have HLN := hide (show LineAt w0 gl bb (doneP d1 ⟨kind, 0, (z : Int), data⟩) w8 by
              have e : doneP d1 ⟨kind, 0, (z : Int), data⟩ = ownP d1 (Int.toNat 0) kind (Int.toNat (z : Int)) data := by unfold doneP; rw [if_pos ⟨hk1, hk3, .inl rfl⟩]
              rw [e]
              exact hl8)
            clear hl8
            go_wp2_with fail
            refine (send_any w0 gl bb (doneP d1 ⟨kind, 0, (z : Int), data⟩) w8 HLN.out).mono ?_
            rintro r w9 ⟨rfl, hl9⟩
            have HL9 := hide hl9
            clear hl9 HLN
            go_wp2_with fail
            go_roundw
            case rel => exact ⟨k + 1, by omega, by go_num, by rw [HST.out]; exact HL9.out, by rw [HST.out]; exact fits_send (fits_done HFD.out HOKS.out _ HDL.out)⟩
            case measure => simp [intOf]; omega
          · go_wp2_with fail
            refine (own_any w0 gl bb d1 W HLW.out kind 1 (z : Int) D m cD data ⟨hk1, hk3⟩ (.inr rfl) ⟨by omega, by omega⟩ HRD.out HMC.out (by omega) (fun i hi => by have := HFD.out.p i hi; omega) (fun i hi => by have := HFD.out.g i hi; omega)).mono ?_
            rintro r w8 ⟨rfl, hl8⟩
            have HLN := hide (show LineAt w0 gl bb (doneP d1 ⟨kind, 1, (z : Int), data⟩) w8 by
              have e : doneP d1 ⟨kind, 1, (z : Int), data⟩ = ownP d1 (Int.toNat 1) kind (Int.toNat (z : Int)) data := by unfold doneP; rw [if_pos ⟨hk1, hk3, .inr rfl⟩]
              rw [e]
              exact hl8)
            clear hl8
            go_wp2_with fail
            refine (send_any w0 gl bb (doneP d1 ⟨kind, 1, (z : Int), data⟩) w8 HLN.out).mono ?_
            rintro r w9 ⟨rfl, hl9⟩
            have HL9 := hide hl9
            clear hl9 HLN
            go_wp2_with fail
            go_roundw
            case rel => exact ⟨k + 1, by omega, by go_num, by rw [HST.out]; exact HL9.out, by rw [HST.out]; exact fits_send (fits_done HFD.out HOKS.out _ HDL.out)⟩
            case measure => simp [intOf]; omega
      · have hk47 : kind = 4 ∨ kind = 5 ∨ kind = 6 ∨ kind = 7 := by omega
        have he0 : 0 ≤ ed ∧ ed ≤ 1 := by omega
        rcases hk47 with rfl | rfl | rfl | rfl
        · as_aux_lemma =>
            by_cases hz : z < ny
            · have hzI : (z : Int) < (ny : Int) := by omega
              have dz : decide (z < ny) = true := decide_eq_true hz
              have dz2 : decide ((z : Int) < (ny : Int)) = true := decide_eq_true hzI
              go_upto_region 12 with fail
              go_quiet (fail)
              have HLQ := hide (HLW.out.extend ((Ext.refl W).drewN nq))
              have HBQ := hide (HBT.out.drewN nq)
              clear b0 b1 b2 b3 y10
              generalize W.drewN nq = Wq at *
              have b0 : Wq.cell? ⟨gt, 0, none⟩ = some (.int .i64 4) := HBQ.out.cell 0
              have b1 : Wq.cell? ⟨gt, 1, none⟩ = some (.int .i64 ed) := HBQ.out.cell 1
              have b2 : Wq.cell? ⟨gt, 2, none⟩ = some (.int .i64 (z : Int)) := HBQ.out.cell 2
              have b3 : Wq.cell? ⟨gt, 3, none⟩ = some (.slice D m cD) := HBQ.out.cell 3
              go_wp2_with fail
              refine (deed_any w0 gl bb d1 Wq HLQ.out 4 ed z ⟨by omega, by omega⟩ (by rw [HNY.out]; exact hz) HFD.out.y D m cD).mono ?_
              rintro r w8 ⟨rfl, hl8⟩
              have HLN := hide (show LineAt w0 gl bb (doneP d1 ⟨4, ed, (z : Int), data⟩) w8 by
                have e : doneP d1 ⟨4, ed, (z : Int), data⟩ = deedP d1 4 (Int.toNat (z : Int)) := by unfold doneP; rw [if_neg (fun h => by have := h.2.1; dsimp only at this; omega), if_pos ⟨by show (4 : Int) ≤ 4; omega, by show (4 : Int) ≤ 6; omega, by show (0 : Int) ≤ (z : Int); omega, by show (z : Int) < (d1.y.length : Int); rw [HNY.out]; exact hzI⟩]
                rw [e]
                exact hl8)
              clear hl8
              go_wp2_with fail
              refine (send_any w0 gl bb (doneP d1 ⟨4, ed, (z : Int), data⟩) w8 HLN.out).mono ?_
              rintro r w9 ⟨rfl, hl9⟩
              have HL9 := hide hl9
              clear hl9 HLN
              go_wp2_with fail
              go_roundw
              case rel => exact ⟨k + 1, by omega, by go_num, by rw [HST.out]; exact HL9.out, by rw [HST.out]; exact fits_send (fits_done HFD.out HOKS.out _ HDL.out)⟩
              case measure => simp [intOf]; omega
            · have hzI : ¬ ((z : Int) < (ny : Int)) := by omega
              have dz : decide (z < ny) = false := decide_eq_false hz
              have dz2 : decide ((z : Int) < (ny : Int)) = false := decide_eq_false hzI
              go_upto_region 12 with fail
              go_quiet (fail)
              have HLQ := hide (HLW.out.extend ((Ext.refl W).drewN nq))
              have HBQ := hide (HBT.out.drewN nq)
              clear b0 b1 b2 b3 y10
              generalize W.drewN nq = Wq at *
              have b0 : Wq.cell? ⟨gt, 0, none⟩ = some (.int .i64 4) := HBQ.out.cell 0
              have HLN := hide (show LineAt w0 gl bb (doneP d1 ⟨4, ed, (z : Int), data⟩) Wq by
                have e : doneP d1 ⟨4, ed, (z : Int), data⟩ = d1 := by unfold doneP; rw [if_neg (fun h => by have := h.2.1; dsimp only at this; omega), if_neg (fun h => by have := h.2.2.2; dsimp only at this; rw [HNY.out] at this; exact hzI this), if_neg (by show ¬ (4 : Int) = 7; omega)]
                rw [e]
                exact HLQ.out)
              go_wp2_with fail
              refine (send_any w0 gl bb (doneP d1 ⟨4, ed, (z : Int), data⟩) Wq HLN.out).mono ?_
              rintro r w9 ⟨rfl, hl9⟩
              have HL9 := hide hl9
              clear hl9 HLN
              go_wp2_with fail
              go_roundw
              case rel => exact ⟨k + 1, by omega, by go_num, by rw [HST.out]; exact HL9.out, by rw [HST.out]; exact fits_send (fits_done HFD.out HOKS.out _ HDL.out)⟩
              case measure => simp [intOf]; omega
        · as_aux_lemma =>
            by_cases hz : z < ny
            · have hzI : (z : Int) < (ny : Int) := by omega
              have dz : decide (z < ny) = true := decide_eq_true hz
              have dz2 : decide ((z : Int) < (ny : Int)) = true := decide_eq_true hzI
              go_upto_region 12 with fail
              go_quiet (fail)
              have HLQ := hide (HLW.out.extend ((Ext.refl W).drewN nq))
              have HBQ := hide (HBT.out.drewN nq)
              clear b0 b1 b2 b3 y10
              generalize W.drewN nq = Wq at *
              have b0 : Wq.cell? ⟨gt, 0, none⟩ = some (.int .i64 5) := HBQ.out.cell 0
              have b1 : Wq.cell? ⟨gt, 1, none⟩ = some (.int .i64 ed) := HBQ.out.cell 1
              have b2 : Wq.cell? ⟨gt, 2, none⟩ = some (.int .i64 (z : Int)) := HBQ.out.cell 2
              have b3 : Wq.cell? ⟨gt, 3, none⟩ = some (.slice D m cD) := HBQ.out.cell 3
              go_wp2_with fail
              refine (deed_any w0 gl bb d1 Wq HLQ.out 5 ed z ⟨by omega, by omega⟩ (by rw [HNY.out]; exact hz) HFD.out.y D m cD).mono ?_
              rintro r w8 ⟨rfl, hl8⟩
              have HLN := hide (show LineAt w0 gl bb (doneP d1 ⟨5, ed, (z : Int), data⟩) w8 by
                have e : doneP d1 ⟨5, ed, (z : Int), data⟩ = deedP d1 5 (Int.toNat (z : Int)) := by unfold doneP; rw [if_neg (fun h => by have := h.2.1; dsimp only at this; omega), if_pos ⟨by show (4 : Int) ≤ 5; omega, by show (5 : Int) ≤ 6; omega, by show (0 : Int) ≤ (z : Int); omega, by show (z : Int) < (d1.y.length : Int); rw [HNY.out]; exact hzI⟩]
                rw [e]
                exact hl8)
              clear hl8
              go_wp2_with fail
              refine (send_any w0 gl bb (doneP d1 ⟨5, ed, (z : Int), data⟩) w8 HLN.out).mono ?_
              rintro r w9 ⟨rfl, hl9⟩
              have HL9 := hide hl9
              clear hl9 HLN
              go_wp2_with fail
              go_roundw
              case rel => exact ⟨k + 1, by omega, by go_num, by rw [HST.out]; exact HL9.out, by rw [HST.out]; exact fits_send (fits_done HFD.out HOKS.out _ HDL.out)⟩
              case measure => simp [intOf]; omega
            · have hzI : ¬ ((z : Int) < (ny : Int)) := by omega
              have dz : decide (z < ny) = false := decide_eq_false hz
              have dz2 : decide ((z : Int) < (ny : Int)) = false := decide_eq_false hzI
              go_upto_region 12 with fail
              go_quiet (fail)
              have HLQ := hide (HLW.out.extend ((Ext.refl W).drewN nq))
              have HBQ := hide (HBT.out.drewN nq)
              clear b0 b1 b2 b3 y10
              generalize W.drewN nq = Wq at *
              have b0 : Wq.cell? ⟨gt, 0, none⟩ = some (.int .i64 5) := HBQ.out.cell 0
              have HLN := hide (show LineAt w0 gl bb (doneP d1 ⟨5, ed, (z : Int), data⟩) Wq by
                have e : doneP d1 ⟨5, ed, (z : Int), data⟩ = d1 := by unfold doneP; rw [if_neg (fun h => by have := h.2.1; dsimp only at this; omega), if_neg (fun h => by have := h.2.2.2; dsimp only at this; rw [HNY.out] at this; exact hzI this), if_neg (by show ¬ (5 : Int) = 7; omega)]
                rw [e]
                exact HLQ.out)
              go_wp2_with fail
              refine (send_any w0 gl bb (doneP d1 ⟨5, ed, (z : Int), data⟩) Wq HLN.out).mono ?_
              rintro r w9 ⟨rfl, hl9⟩
              have HL9 := hide hl9
              clear hl9 HLN
              go_wp2_with fail
              go_roundw
              case rel => exact ⟨k + 1, by omega, by go_num, by rw [HST.out]; exact HL9.out, by rw [HST.out]; exact fits_send (fits_done HFD.out HOKS.out _ HDL.out)⟩
              case measure => simp [intOf]; omega
        · as_aux_lemma =>
            by_cases hz : z < ny
            · have hzI : (z : Int) < (ny : Int) := by omega
              have dz : decide (z < ny) = true := decide_eq_true hz
              have dz2 : decide ((z : Int) < (ny : Int)) = true := decide_eq_true hzI
              go_upto_region 12 with fail
              go_quiet (fail)
              have HLQ := hide (HLW.out.extend ((Ext.refl W).drewN nq))
              have HBQ := hide (HBT.out.drewN nq)
              clear b0 b1 b2 b3 y10
              generalize W.drewN nq = Wq at *
              have b0 : Wq.cell? ⟨gt, 0, none⟩ = some (.int .i64 6) := HBQ.out.cell 0
              have b1 : Wq.cell? ⟨gt, 1, none⟩ = some (.int .i64 ed) := HBQ.out.cell 1
              have b2 : Wq.cell? ⟨gt, 2, none⟩ = some (.int .i64 (z : Int)) := HBQ.out.cell 2
              have b3 : Wq.cell? ⟨gt, 3, none⟩ = some (.slice D m cD) := HBQ.out.cell 3
              go_wp2_with fail
              refine (deed_any w0 gl bb d1 Wq HLQ.out 6 ed z ⟨by omega, by omega⟩ (by rw [HNY.out]; exact hz) HFD.out.y D m cD).mono ?_
              rintro r w8 ⟨rfl, hl8⟩
              have HLN := hide (show LineAt w0 gl bb (doneP d1 ⟨6, ed, (z : Int), data⟩) w8 by
                have e : doneP d1 ⟨6, ed, (z : Int), data⟩ = deedP d1 6 (Int.toNat (z : Int)) := by unfold doneP; rw [if_neg (fun h => by have := h.2.1; dsimp only at this; omega), if_pos ⟨by show (4 : Int) ≤ 6; omega, by show (6 : Int) ≤ 6; omega, by show (0 : Int) ≤ (z : Int); omega, by show (z : Int) < (d1.y.length : Int); rw [HNY.out]; exact hzI⟩]
                rw [e]
                exact hl8)
              clear hl8
              go_wp2_with fail
              refine (send_any w0 gl bb (doneP d1 ⟨6, ed, (z : Int), data⟩) w8 HLN.out).mono ?_
              rintro r w9 ⟨rfl, hl9⟩
              have HL9 := hide hl9
              clear hl9 HLN
              go_wp2_with fail
              go_roundw
              case rel => exact ⟨k + 1, by omega, by go_num, by rw [HST.out]; exact HL9.out, by rw [HST.out]; exact fits_send (fits_done HFD.out HOKS.out _ HDL.out)⟩
              case measure => simp [intOf]; omega
            · have hzI : ¬ ((z : Int) < (ny : Int)) := by omega
              have dz : decide (z < ny) = false := decide_eq_false hz
              have dz2 : decide ((z : Int) < (ny : Int)) = false := decide_eq_false hzI
              go_upto_region 12 with fail
              go_quiet (fail)
              have HLQ := hide (HLW.out.extend ((Ext.refl W).drewN nq))
              have HBQ := hide (HBT.out.drewN nq)
              clear b0 b1 b2 b3 y10
              generalize W.drewN nq = Wq at *
              have b0 : Wq.cell? ⟨gt, 0, none⟩ = some (.int .i64 6) := HBQ.out.cell 0
              have HLN := hide (show LineAt w0 gl bb (doneP d1 ⟨6, ed, (z : Int), data⟩) Wq by
                have e : doneP d1 ⟨6, ed, (z : Int), data⟩ = d1 := by unfold doneP; rw [if_neg (fun h => by have := h.2.1; dsimp only at this; omega), if_neg (fun h => by have := h.2.2.2; dsimp only at this; rw [HNY.out] at this; exact hzI this), if_neg (by show ¬ (6 : Int) = 7; omega)]
                rw [e]
                exact HLQ.out)
              go_wp2_with fail
              refine (send_any w0 gl bb (doneP d1 ⟨6, ed, (z : Int), data⟩) Wq HLN.out).mono ?_
              rintro r w9 ⟨rfl, hl9⟩
              have HL9 := hide hl9
              clear hl9 HLN
              go_wp2_with fail
              go_roundw
              case rel => exact ⟨k + 1, by omega, by go_num, by rw [HST.out]; exact HL9.out, by rw [HST.out]; exact fits_send (fits_done HFD.out HOKS.out _ HDL.out)⟩
              case measure => simp [intOf]; omega
        · as_aux_lemma =>
            go_upto_region 12 with fail
            go_quiet (fail)
            have HLQ := hide (HLW.out.extend ((Ext.refl W).drewN nq))
            have HBQ := hide (HBT.out.drewN nq)
            clear b0 b1 b2 b3 y10
            generalize W.drewN nq = Wq at *
            have b0 : Wq.cell? ⟨gt, 0, none⟩ = some (.int .i64 7) := HBQ.out.cell 0
            obtain ⟨q0, q1⟩ := HLQ.out.ptrs
            go_wp2_with fail
            refine (tick_line w0 gl bb d1 Wq 0 (by omega) HLQ.out).mono ?_
            rintro r w7 ⟨rfl, hl7⟩
            have HL7 := hide hl7
            clear q0 q1
            obtain ⟨q0, q1⟩ := hl7.ptrs
            clear hl7
            go_wp2_with fail
            refine (tick_line w0 gl bb _ w7 1 (by omega) HL7.out).mono ?_
            rintro r w8 ⟨rfl, hl8⟩
            have HLN := hide (show LineAt w0 gl bb (doneP d1 ⟨7, ed, (z : Int), data⟩) w8 by
              have e : doneP d1 ⟨7, ed, (z : Int), data⟩ = tickL (tickL d1 0) 1 := by unfold doneP; rw [if_neg (fun h => by have := h.2.1; dsimp only at this; omega), if_neg (fun h => by have := h.2.1; dsimp only at this; omega), if_pos rfl]
              rw [e]
              exact hl8)
            clear hl8 q0 q1
            go_wp2_with fail
            refine (send_any w0 gl bb (doneP d1 ⟨7, ed, (z : Int), data⟩) w8 HLN.out).mono ?_
            rintro r w9 ⟨rfl, hl9⟩
            have HL9 := hide hl9
            clear hl9 HLN
            go_wp2_with fail
            go_roundw
            case rel => exact ⟨k + 1, by omega, by go_num, by rw [HST.out]; exact HL9.out, by rw [HST.out]; exact fits_send (fits_done HFD.out HOKS.out _ HDL.out)⟩
            case measure => simp [intOf]; omega
    · obtain rfl : k = n := by omega
      obtain ⟨d, hd⟩ : ∃ x, runTo a b ls k = x := ⟨_, rfl⟩
      rw [hd] at HLK HFK
      have HRT := hide (show runL a b (ls.map (·.1)) = d by
        rw [← hd]
        unfold runTo
        rw [List.take_of_length_le (by rw [List.length_map, HLL.out]; exact Nat.le_refl _)]
        rfl)
      obtain ⟨L, h, hLb⟩ := HLK.out
      have HM := hide h
      have q0 : wr.cell? ⟨gl, 0, none⟩ = some (.pointer (some ⟨L.b 0, 0, none⟩)) := h.box.cell 0
      have q1 : wr.cell? ⟨gl, 1, none⟩ = some (.pointer (some ⟨L.b 1, 0, none⟩)) := h.box.cell 1
      have hfoot : ∀ i, i < 2 → ∀ k, foot (L.b i) (L.vo i) (L.vi i) k → ¬ k = gl := fun i hi k hk e => by
        have h1 := HM.out.te i hi k hk
        rw [e, HM.out.tb] at h1
        omega
      clear h hLb hd HLK HFK
      obtain ⟨wo, rfl⟩ : ∃ wo : World, wo = wr := ⟨_, rfl⟩
      go_wp2_with fail
      go_loopw [116] (FinRel gl wo (lineC L) (lineF1 L d) (lineF2 L d)) (fun v _ => 2 - (intOf v).toNat)
      case atStart => exact ⟨.inl ⟨rfl, HM.out.box⟩, KeepF.refl _ _⟩
      case round =>
        obtain ⟨hcase, hkf⟩ := hrel
        clear q0 q1
        obtain ⟨wq, rfl⟩ : ∃ wq : World, wq = wr := ⟨_, rfl⟩
        have HKF := hide hkf
        clear hkf
        rcases hcase with ⟨rfl, hb⟩ | ⟨rfl, hb⟩ | ⟨rfl, hb⟩
        · have HBQ := hide hb
          clear hb
          have HEM := hide ((HM.out.end_ 0 (by omega)).keep HKF.out (fun k hk e => hfoot 0 (by omega) k hk e))
          have HOKi := hide (HM.out.ok 0 (by omega))
          have hidx : ∀ (x y : Value) (W : World), (Instr.index 43 (.agg #[x, y]) (.int .i64 0)).run Try.prog W = .ok x W := fun _ _ _ => by kernel_rfl
          obtain ⟨gi, hgi⟩ : ∃ x, L.b 0 = x := ⟨_, rfl⟩
          rw [hgi] at HEM ⊢
          have HGI := hide hgi
          clear hgi
          have HEN := hide (fun (W' : World) (hx : Ext wq W') => show Calls Try.prog 18 #[.pointer (some ⟨gi, 0, none⟩)] W' (fun r w' => r = .returned (.tuple #[.bool (d.e 0).fin, .bool (endedE (d.e 0))]) ∧ Ext W' w') from
            (ended_any W' gi (d.e 0) (L.vo 0) (L.vi 0) (HEM.out.ext hx) HOKi.out).mono (fun r w' h => by obtain ⟨h1, dd, rfl⟩ := h; exact ⟨h1, (Ext.refl W').drewN dd⟩))
          go_upto_region 22 with fail
          go_region_held3 (fun _ => True) (trivial)
            (first | (go_at_call 18; refine (HEN.out _ (by ((repeat (first | with_reducible exact Ext.refl _ | with_reducible assumption | with_reducible refine Ext.alloc ?_ _ | with_reducible refine Ext.drew ?_ | with_reducible refine Ext.drewN ?_ _ | with_reducible refine Ext.setCell ?_ (by first | exact Nat.le_refl _ | assumption | (simp; done) | omega) _ | with_reducible refine Ext.trans ?_ (by with_reducible assumption))); done))).mono ?_; rintro r w6 ⟨rfl, hx6⟩; have HX6 := hide (show Ext wq w6 from Ext.trans (by ((repeat (first | with_reducible exact Ext.refl _ | with_reducible assumption | with_reducible refine Ext.alloc ?_ _ | with_reducible refine Ext.drew ?_ | with_reducible refine Ext.drewN ?_ _ | with_reducible refine Ext.setCell ?_ (by first | exact Nat.le_refl _ | assumption | (simp; done) | omega) _ | with_reducible refine Ext.trans ?_ (by with_reducible assumption))); done)) hx6); have n5 : w6.cell? ⟨gl, 4, none⟩ = some (.bool false) := (HBQ.out.ext HX6.out).cell 4; have nf : w6.frozen? ⟨gl, 4, none⟩ = false := (HBQ.out.ext HX6.out).frozen 4; clear hx6) | fail)
          all_goals
            have HB6 := hide (show Blk (w6.setCell ⟨gl, 4, none⟩ (.bool (d.e 0).fin)) gl 46 (Array.setIfInBounds (lineC L) 4 (.bool (d.e 0).fin)) from (HBQ.out.ext HX6.out).set_ 4 _)
            have HK6 := hide (keep_set HKF.out HX6.out 4 (.bool (d.e 0).fin))
            clear n5 nf HEN HEM
            generalize w6.setCell ⟨gl, 4, none⟩ (.bool (d.e 0).fin) = wz at *
            have hem := (HM.out.end_ 0 (by omega)).keep HK6.out (fun k hk e => hfoot 0 (by omega) k hk e)
            obtain ⟨Ao, co, hvo, -⟩ := own_form hem.out
            obtain ⟨Ai, ci, hvi, -⟩ := own_form hem.inn
            have hbz := hem.box
            rw [hvo, hvi, HGI.out] at hbz
            have HBZ := hide hbz
            have HTE := hide (fun (W' : World) (hx : Ext wz W') => show Calls Try.prog 19 #[.pointer (some ⟨gi, 0, none⟩)] W' (fun r w' => (∃ x y : Nat, r = .returned (.tuple #[.int .i64 (d.e 0).st, .int .i64 x, .int .i64 y])) ∧ Ext W' w') from
              (tell_any W' gi (d.e 0) Ao _ co Ai _ ci (HBZ.out.ext hx)).mono (fun r w' h => by obtain ⟨h1, dd, rfl⟩ := h; exact ⟨⟨_, _, h1⟩, (Ext.refl W').drewN dd⟩))
            clear hem hvo hvi hbz
            go_upto_region 23 with fail
            go_region_held3 (fun _ => True) (trivial)
              (first | (go_at_call 19; refine (HTE.out _ (by ((repeat (first | with_reducible exact Ext.refl _ | with_reducible assumption | with_reducible refine Ext.alloc ?_ _ | with_reducible refine Ext.drew ?_ | with_reducible refine Ext.drewN ?_ _ | with_reducible refine Ext.setCell ?_ (by first | exact Nat.le_refl _ | assumption | (simp; done) | omega) _ | with_reducible refine Ext.trans ?_ (by with_reducible assumption))); done))).mono ?_; rintro r w8 ⟨⟨tx, ty, rfl⟩, hx8⟩; have HX8 := hide (show Ext wz w8 from Ext.trans (by ((repeat (first | with_reducible exact Ext.refl _ | with_reducible assumption | with_reducible refine Ext.alloc ?_ _ | with_reducible refine Ext.drew ?_ | with_reducible refine Ext.drewN ?_ _ | with_reducible refine Ext.setCell ?_ (by first | exact Nat.le_refl _ | assumption | (simp; done) | omega) _ | with_reducible refine Ext.trans ?_ (by with_reducible assumption))); done)) hx8); have n5 : w8.cell? ⟨gl, 5, none⟩ = some (.int .i64 0) := (HB6.out.ext HX8.out).cell 5; have nf : w8.frozen? ⟨gl, 5, none⟩ = false := (HB6.out.ext HX8.out).frozen 5; clear hx8) | fail)
            all_goals
              have HB9 := hide (show Blk (w8.setCell ⟨gl, 5, none⟩ (.int .i64 (d.e 0).st)) gl 46 (lineF1 L d) from (HB6.out.ext HX8.out).set_ 5 _)
              have HK9 := hide (keep_set HK6.out HX8.out 5 (.int .i64 (d.e 0).st))
              clear n5 nf HTE
              go_wp2_with fail
              go_roundw
              case rel => exact ⟨.inr (.inl ⟨by go_num, HB9.out⟩), HK9.out⟩
              case measure => simp [intOf]
        · have HBQ := hide hb
          clear hb
          have HEM := hide ((HM.out.end_ 1 (by omega)).keep HKF.out (fun k hk e => hfoot 1 (by omega) k hk e))
          have HOKi := hide (HM.out.ok 1 (by omega))
          have hidx : ∀ (x y : Value) (W : World), (Instr.index 43 (.agg #[x, y]) (.int .i64 1)).run Try.prog W = .ok y W := fun _ _ _ => by kernel_rfl
          obtain ⟨gi, hgi⟩ : ∃ x, L.b 1 = x := ⟨_, rfl⟩
          rw [hgi] at HEM ⊢
          have HGI := hide hgi
          clear hgi
          have HEN := hide (fun (W' : World) (hx : Ext wq W') => show Calls Try.prog 18 #[.pointer (some ⟨gi, 0, none⟩)] W' (fun r w' => r = .returned (.tuple #[.bool (d.e 1).fin, .bool (endedE (d.e 1))]) ∧ Ext W' w') from
            (ended_any W' gi (d.e 1) (L.vo 1) (L.vi 1) (HEM.out.ext hx) HOKi.out).mono (fun r w' h => by obtain ⟨h1, dd, rfl⟩ := h; exact ⟨h1, (Ext.refl W').drewN dd⟩))
          go_upto_region 22 with fail
          go_region_held3 (fun _ => True) (trivial)
            (first | (go_at_call 18; refine (HEN.out _ (by ((repeat (first | with_reducible exact Ext.refl _ | with_reducible assumption | with_reducible refine Ext.alloc ?_ _ | with_reducible refine Ext.drew ?_ | with_reducible refine Ext.drewN ?_ _ | with_reducible refine Ext.setCell ?_ (by first | exact Nat.le_refl _ | assumption | (simp; done) | omega) _ | with_reducible refine Ext.trans ?_ (by with_reducible assumption))); done))).mono ?_; rintro r w6 ⟨rfl, hx6⟩; have HX6 := hide (show Ext wq w6 from Ext.trans (by ((repeat (first | with_reducible exact Ext.refl _ | with_reducible assumption | with_reducible refine Ext.alloc ?_ _ | with_reducible refine Ext.drew ?_ | with_reducible refine Ext.drewN ?_ _ | with_reducible refine Ext.setCell ?_ (by first | exact Nat.le_refl _ | assumption | (simp; done) | omega) _ | with_reducible refine Ext.trans ?_ (by with_reducible assumption))); done)) hx6); have n5 : w6.cell? ⟨gl, 8, none⟩ = some (.bool false) := (HBQ.out.ext HX6.out).cell 8; have nf : w6.frozen? ⟨gl, 8, none⟩ = false := (HBQ.out.ext HX6.out).frozen 8; clear hx6) | fail)
          all_goals
            have HB6 := hide (show Blk (w6.setCell ⟨gl, 8, none⟩ (.bool (d.e 1).fin)) gl 46 (Array.setIfInBounds (lineF1 L d) 8 (.bool (d.e 1).fin)) from (HBQ.out.ext HX6.out).set_ 8 _)
            have HK6 := hide (keep_set HKF.out HX6.out 8 (.bool (d.e 1).fin))
            clear n5 nf HEN HEM
            generalize w6.setCell ⟨gl, 8, none⟩ (.bool (d.e 1).fin) = wz at *
            have hem := (HM.out.end_ 1 (by omega)).keep HK6.out (fun k hk e => hfoot 1 (by omega) k hk e)
            obtain ⟨Ao, co, hvo, -⟩ := own_form hem.out
            obtain ⟨Ai, ci, hvi, -⟩ := own_form hem.inn
            have hbz := hem.box
            rw [hvo, hvi, HGI.out] at hbz
            have HBZ := hide hbz
            have HTE := hide (fun (W' : World) (hx : Ext wz W') => show Calls Try.prog 19 #[.pointer (some ⟨gi, 0, none⟩)] W' (fun r w' => (∃ x y : Nat, r = .returned (.tuple #[.int .i64 (d.e 1).st, .int .i64 x, .int .i64 y])) ∧ Ext W' w') from
              (tell_any W' gi (d.e 1) Ao _ co Ai _ ci (HBZ.out.ext hx)).mono (fun r w' h => by obtain ⟨h1, dd, rfl⟩ := h; exact ⟨⟨_, _, h1⟩, (Ext.refl W').drewN dd⟩))
            clear hem hvo hvi hbz
            go_upto_region 23 with fail
            go_region_held3 (fun _ => True) (trivial)
              (first | (go_at_call 19; refine (HTE.out _ (by ((repeat (first | with_reducible exact Ext.refl _ | with_reducible assumption | with_reducible refine Ext.alloc ?_ _ | with_reducible refine Ext.drew ?_ | with_reducible refine Ext.drewN ?_ _ | with_reducible refine Ext.setCell ?_ (by first | exact Nat.le_refl _ | assumption | (simp; done) | omega) _ | with_reducible refine Ext.trans ?_ (by with_reducible assumption))); done))).mono ?_; rintro r w8 ⟨⟨tx, ty, rfl⟩, hx8⟩; have HX8 := hide (show Ext wz w8 from Ext.trans (by ((repeat (first | with_reducible exact Ext.refl _ | with_reducible assumption | with_reducible refine Ext.alloc ?_ _ | with_reducible refine Ext.drew ?_ | with_reducible refine Ext.drewN ?_ _ | with_reducible refine Ext.setCell ?_ (by first | exact Nat.le_refl _ | assumption | (simp; done) | omega) _ | with_reducible refine Ext.trans ?_ (by with_reducible assumption))); done)) hx8); have n5 : w8.cell? ⟨gl, 9, none⟩ = some (.int .i64 0) := (HB6.out.ext HX8.out).cell 9; have nf : w8.frozen? ⟨gl, 9, none⟩ = false := (HB6.out.ext HX8.out).frozen 9; clear hx8) | fail)
            all_goals
              have HB9 := hide (show Blk (w8.setCell ⟨gl, 9, none⟩ (.int .i64 (d.e 1).st)) gl 46 (lineF2 L d) from (HB6.out.ext HX8.out).set_ 9 _)
              have HK9 := hide (keep_set HK6.out HX8.out 9 (.int .i64 (d.e 1).st))
              clear n5 nf HTE
              go_wp2_with fail
              go_roundw
              case rel => exact ⟨.inr (.inr ⟨by go_num, HB9.out⟩), HK9.out⟩
              case measure => simp [intOf]
        · have HBQ := hide hb
          clear hb
          have hne : gr ≠ gl := fun e => by
            have h1 := HM.out.lo
            have h2 := HBR.out.lt
            omega
          have HBG := hide (HKF.out.blk (HBR.out.ext HM.out.ext) hne)
          have c2 : wq.cell? ⟨gl, 2, none⟩ = some (L.vp 0) := HBQ.out.cell 2
          have c3 : wq.cell? ⟨gl, 3, none⟩ = some (L.vg 0) := HBQ.out.cell 3
          have c4 : wq.cell? ⟨gl, 4, none⟩ = some (.bool (d.e 0).fin) := HBQ.out.cell 4
          have c5 : wq.cell? ⟨gl, 5, none⟩ = some (.int .i64 (d.e 0).st) := HBQ.out.cell 5
          have c6 : wq.cell? ⟨gl, 6, none⟩ = some (L.vp 1) := HBQ.out.cell 6
          have c7 : wq.cell? ⟨gl, 7, none⟩ = some (L.vg 1) := HBQ.out.cell 7
          have c8 : wq.cell? ⟨gl, 8, none⟩ = some (.bool (d.e 1).fin) := HBQ.out.cell 8
          have c9 : wq.cell? ⟨gl, 9, none⟩ = some (.int .i64 (d.e 1).st) := HBQ.out.cell 9
          have w0' := HM.out.wrote 0 (by omega)
          have w1' := HM.out.wrote 1 (by omega)
          have w2' := HM.out.read 0 (by omega)
          have w3' := HM.out.read 1 (by omega)
          obtain ⟨A0, k0, v0, -⟩ := own_form w0'
          obtain ⟨A1, k1, v1, -⟩ := own_form w1'
          obtain ⟨A2, k2, v2, -⟩ := own_form w2'
          obtain ⟨A3, k3, v3, -⟩ := own_form w3'
          rw [v0] at c2 w0'
          rw [v1] at c6 w1'
          rw [v2] at c3 w2'
          rw [v3] at c7 w3'
          have HW0 := hide w0'
          have HW1 := hide w1'
          have HW2 := hide w2'
          have HW3 := hide w3'
          have HT0 := hide (fun k (hk : Value.ownBlock (.slice A0 (d.p 0).length k0) = some k) => HM.out.tp 0 (by omega) k (by rw [v0]; exact hk))
          have HT1 := hide (fun k (hk : Value.ownBlock (.slice A1 (d.p 1).length k1) = some k) => HM.out.tp 1 (by omega) k (by rw [v1]; exact hk))
          have HT2 := hide (fun k (hk : Value.ownBlock (.slice A2 (d.g 0).length k2) = some k) => HM.out.tg 0 (by omega) k (by rw [v2]; exact hk))
          have HT3 := hide (fun k (hk : Value.ownBlock (.slice A3 (d.g 1).length k3) = some k) => HM.out.tg 1 (by omega) k (by rw [v3]; exact hk))
          clear w0' w1' w2' w3' v0 v1 v2 v3
          obtain ⟨f0, hf0⟩ : ∃ x, (d.e 0).fin = x := ⟨_, rfl⟩
          obtain ⟨f1, hf1⟩ : ∃ x, (d.e 1).fin = x := ⟨_, rfl⟩
          obtain ⟨s0, hs0⟩ : ∃ x, (d.e 0).st = x := ⟨_, rfl⟩
          obtain ⟨s1, hs1⟩ : ∃ x, (d.e 1).st = x := ⟨_, rfl⟩
          obtain ⟨n0, hn0⟩ : ∃ x, (d.p 0).length = x := ⟨_, rfl⟩
          obtain ⟨n1, hn1⟩ : ∃ x, (d.p 1).length = x := ⟨_, rfl⟩
          obtain ⟨n2, hn2⟩ : ∃ x, (d.g 0).length = x := ⟨_, rfl⟩
          obtain ⟨n3, hn3⟩ : ∃ x, (d.g 1).length = x := ⟨_, rfl⟩
          rw [hf0] at c4
          rw [hf1] at c8
          rw [hs0] at c5
          rw [hs1] at c9
          rw [hn0] at c2 HW0 HT0
          rw [hn1] at c6 HW1 HT1
          rw [hn2] at c3 HW2 HT2
          rw [hn3] at c7 HW3 HT3
          have HEQ := hide (⟨hf0, hf1, hs0, hs1, hn0, hn1, hn2, hn3⟩ : (d.e 0).fin = f0 ∧ (d.e 1).fin = f1 ∧ (d.e 0).st = s0 ∧ (d.e 1).st = s1 ∧ (d.p 0).length = n0 ∧ (d.p 1).length = n1 ∧ (d.g 0).length = n2 ∧ (d.g 1).length = n3)
          clear hf0 hf1 hs0 hs1 hn0 hn1 hn2 hn3
          have r0 : wq.cell? ⟨gr, 0, none⟩ = some (.slice none 0 0) := HBG.out.cell 0
          have r1 : wq.cell? ⟨gr, 1, none⟩ = some (.slice none 0 0) := HBG.out.cell 1
          have r2 : wq.cell? ⟨gr, 2, none⟩ = some (.bool false) := HBG.out.cell 2
          have r3 : wq.cell? ⟨gr, 3, none⟩ = some (.int .i64 0) := HBG.out.cell 3
          have r4 : wq.cell? ⟨gr, 4, none⟩ = some (.slice none 0 0) := HBG.out.cell 4
          have r5 : wq.cell? ⟨gr, 5, none⟩ = some (.slice none 0 0) := HBG.out.cell 5
          have r6 : wq.cell? ⟨gr, 6, none⟩ = some (.bool false) := HBG.out.cell 6
          have r7 : wq.cell? ⟨gr, 7, none⟩ = some (.int .i64 0) := HBG.out.cell 7
          have x0 : wq.frozen? ⟨gr, 0, none⟩ = false := HBG.out.frozen 0
          have x1 : wq.frozen? ⟨gr, 1, none⟩ = false := HBG.out.frozen 1
          have x2 : wq.frozen? ⟨gr, 2, none⟩ = false := HBG.out.frozen 2
          have x3 : wq.frozen? ⟨gr, 3, none⟩ = false := HBG.out.frozen 3
          have x4 : wq.frozen? ⟨gr, 4, none⟩ = false := HBG.out.frozen 4
          have x5 : wq.frozen? ⟨gr, 5, none⟩ = false := HBG.out.frozen 5
          have x6 : wq.frozen? ⟨gr, 6, none⟩ = false := HBG.out.frozen 6
          have x7 : wq.frozen? ⟨gr, 7, none⟩ = false := HBG.out.frozen 7
          go_wp2_with fail
          have HBF := hide ((((((((HBG.out.set_ 0 (.slice A0 n0 k0)).set_ 1 (.slice A2 n2 k2)).set_ 2 (.bool f0)).set_ 3 (.int .i64 s0)).set_ 4 (.slice A1 n1 k1)).set_ 5 (.slice A3 n3 k3)).set_ 6 (.bool f1)).set_ 7 (.int .i64 s1))
          have HGF := hide ((grown_set (grown_set (grown_set (grown_set (grown_set (grown_set (grown_set (grown_set (World.grownBy.refl wq (some gr)) 0 (.slice A0 n0 k0)) 1 (.slice A2 n2 k2)) 2 (.bool f0)) 3 (.int .i64 s0)) 4 (.slice A1 n1 k1)) 5 (.slice A3 n3 k3)) 6 (.bool f1)) 7 (.int .i64 s1)))
          generalize (((((((wq.setCell ⟨gr, 0, none⟩ (.slice A0 n0 k0)).setCell ⟨gr, 1, none⟩ (.slice A2 n2 k2)).setCell ⟨gr, 2, none⟩ (.bool f0)).setCell ⟨gr, 3, none⟩ (.int .i64 s0)).setCell ⟨gr, 4, none⟩ (.slice A1 n1 k1)).setCell ⟨gr, 5, none⟩ (.slice A3 n3 k3)).setCell ⟨gr, 6, none⟩ (.bool f1)).setCell ⟨gr, 7, none⟩ (.int .i64 s1) = wf at *
          have hrow : ∀ {A : Option Addr} {n k cc : Nat} {xs : List Value}, wo.ownsRow w0.heap.size 5 1 (.slice A n k) n xs → (∀ q, Value.ownBlock (.slice A n k) = some q → L.T q = cc) → cc ≠ 7 → wf.ownsRow w.heap.size 5 1 (.slice A n k) n xs := fun ho ht hc => by
            have h1 := HKF.out.own ho (fun q hv e => by
              have h2 := ht q hv
              rw [e, HM.out.tb] at h2
              exact hc h2.symm)
            have h3 := own_of_keep h1 (fun q hv => HGF.out.block q (h1.lt q hv).2 (fun e => by
              have h4 := (ho.lt q hv).1
              have h5 := HBR.out.lt
              injection e with e
              omega))
            exact own_mono h3 HS1.out
          obtain ⟨z1, z2, z3, z4, z5, z6, z7, z8⟩ := HEQ.out
          refine bodyPost_ret (run_results wf gr A0 A2 A1 A3 n0 k0 n2 k2 n1 k1 n3 k3 f0 f1 s0 s1 _ rfl rfl HBF.out) rfl ?_
          rw [HRT.out]
          refine ⟨.slice A0 n0 k0, .slice A2 n2 k2, .slice A1 n1 k1, .slice A3 n3 k3, by rw [z1, z2, z3, z4], ?_, by rw [z5]; exact hrow HW0.out HT0.out (by omega), by rw [z7]; exact hrow HW2.out HT2.out (by omega), by rw [z6]; exact hrow HW1.out HT1.out (by omega), by rw [z8]; exact hrow HW3.out HT3.out (by omega)⟩
          exact Ext.grown (ext_keepF (HXT.out.trans HM.out.ext) HKF.out (fun q e => by
            subst e
            exact Nat.le_trans HS1.out HM.out.lo)) HGF.out (fun q hq => by
            injection hq with hq
            have := HGR.out
            omega)
end Go.Proofs.Ytacfffegmmdgfaa
