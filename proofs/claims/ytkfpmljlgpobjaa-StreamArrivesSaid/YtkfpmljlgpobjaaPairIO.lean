/- The contracts of (*pair).read and (*pair).write. -/
import Derived.Test.YtkfpmljlgpobjaaPairOk
import Derived.StillTailTactics
namespace Go.Proofs.Ytkfpmljlgpobjaa
open Go.RowKit
set_option linter.unusedVariables false

theorem PairM.strs {w0 w : World} {gp : Nat} {L : PairL} {d d' : PairD} (h : PairM w0 gp L d w) {o : Nat} {v : Value} (hb : Blk (w.setCell ⟨gp, o, none⟩ v) gp 43 (pairC L d')) (he : d'.e = d.e) (hy : d'.y = d.y) : PairM w0 gp L d' (w.setCell ⟨gp, o, none⟩ v) := by
  have hK : KeepF (fun k => k = gp) w (w.setCell ⟨gp, o, none⟩ v) := KeepF.of_grown (grown_set (World.grownBy.refl w _) _ _) rfl
  refine h.boxed hK (fun j hj k hf e => by subst e; exact h.gp_not_foot hj hf) (fun k e => by subst e; exact h.lo.1) hb rfl rfl rfl he ?_ ?_ ?_ ?_ h.ways h.free
  · intro j hj
    rw [hy]
    exact hK.own (h.way j hj) (fun k hv e => by subst e; exact own_blk_ne (h.way j hj) h.box (by decide) hv)
  · rw [hy]; exact h.segs
  · exact fun j hj x hx => hK.own (h.data j hj x hx) (fun k hv e => by subst e; exact own_blk_ne (h.data j hj x hx) h.box (by decide) hv)
  · rw [hy]; exact h.sok
theorem Reads.keepF {w w' : World} {F : Nat → Prop} {B n : Nat} {A : Option Addr} {xs : List Value} (h : Reads w B 1 A n xs) (hk : KeepF F w w') (hB : B ≤ w.heap.size) (hF : ∀ a, A = some a → a.block < B → ¬ F a.block) : Reads w' B 1 A n xs :=
  ⟨h.1, fun hn => by
    obtain ⟨ad, e, hb, hc⟩ := h.2 hn
    exact ⟨ad, e, hb, fun j u hu => (World.cell?_of_block (by rw [add_block]; exact hk.block ad.block (by omega) (hF ad e hb))).trans (hc j u hu)⟩⟩
theorem readTo_ok {e : EndD} (ok : e.Ok) (n : Nat) : (readTo e n).Ok :=
  ⟨ok.st, ok.una, ok.nxt, ok.top, ok.first, ok.rcv, ok.out, by show (e.inn.drop _).length ≤ 64; rw [List.length_drop]; have := ok.inn; omega, ok.peer, ok.wait, ok.tries⟩
theorem wrTo_ok {e : EndD} (ok : e.Ok) (ds : List UInt8) : (writeE e ds).1.Ok := by
  unfold writeE
  split
  · exact ok
  split
  · exact ok
  split
  · exact ok
  · refine ⟨ok.st, ok.una, ok.nxt, ok.top, ok.first, ok.rcv, ?_, ok.inn, ok.peer, ok.wait, ok.tries⟩
    show (e.out ++ ds.take (wrN e ds.length)).length ≤ 64
    rw [List.length_append, List.length_take]
    have := ok.out
    unfold wrN
    omega
theorem write_says (e : EndD) (ds : List UInt8) : (writeE e ds).2.1 ≤ ds.length ∧ ((writeE e ds).2.2 = 0 ∨ (writeE e ds).2.1 = 0) := by
  unfold writeE
  split
  · simp
  split
  · simp
  split
  · simp
  · exact ⟨Nat.min_le_left _ _, .inl rfl⟩
def writeI (d : PairD) (i : Nat) (ds : List UInt8) : PairD := { d with e := upd d.e i (writeE (d.e i) ds).1, p := upd d.p i (d.p i ++ ds.take (writeE (d.e i) ds).2.1) }
def opPut : Op := Op.load 9 (Operand.tmp 40)
theorem opPut_eq : opPut = Op.load 9 (Operand.tmp 40) := rfl
def opGot : Op := Op.load 9 (Operand.tmp 22)
theorem opGot_eq : opGot = Op.load 9 (Operand.tmp 22) := rfl
def readI (d : PairD) (i : Nat) : PairD :=
  match readErr (d.e i) 64 with
  | some _ => d
  | none => { d with e := upd d.e i (readTo (d.e i) 64), g := upd d.g i (d.g i ++ (d.e i).inn.take (readN (d.e i) 64)) }
set_option maxHeartbeats 2000000 in
set_option maxRecDepth 100000 in
theorem pair_read0 (w0 : World) (gp : Nat) (b : Nat → Nat) (d : PairD) (w : World) (h : PairAt w0 gp b d w) (hl : (d.g 0).length ≤ 1000000) :
    Calls Try.prog 24 #[.pointer (some ⟨gp, 0, none⟩), .int .i64 0] w fun r w' => r = .returned (.tuple #[]) ∧ PairAt w0 gp b (readI d 0) w' := by
  obtain ⟨L, h, hLb⟩ := h
  have HM := hide h
  have HLB := hide hLb
  have p0 : w.cell? ⟨gp, 0, none⟩ = some (.pointer (some ⟨L.b 0, 0, none⟩)) := h.box.cell 0
  have hem := h.end_ 0 (by omega)
  have hok := h.ok 0 (by omega)
  have HOK := hide hok
  cases he : readErr (d.e 0) 64 with
  | some er =>
    have HT := hide (show readI d 0 = d by unfold readI; rw [he])
    have HR := hide (show Calls Try.prog 37 #[.pointer (some ⟨L.b 0, 0, none⟩), .int .i64 64] w fun r w' => r = .returned (.tuple #[.slice none 0 0, .int .i64 er]) ∧ w = w' from read_fails w (L.b 0) (d.e 0) (L.vo 0) (L.vi 0) 64 er hem (by omega) he)
    have her : er = 8 ∨ er = 9 ∨ er = 10 := by
      unfold readErr at he
      split at he
      · injection he with he; omega
      · split at he
        · split at he <;> (injection he with he; omega)
        · cases he
    have te : (er == 0) = false := by simp; omega
    clear h hLb hem hok he her
    go_enter Try.func24, Try.ntmps24
    go_wp2_with fail
    refine HR.out.mono ?_
    rintro r w1 ⟨rfl, rfl⟩
    go_wp2_with fail
    (first | go_end0 | ((try simp only [Exit.inBlock, Exit.then]); refine bodyPost_ret (results_none rfl _ _ _) rfl ?_))
    exact ⟨rfl, L, by rw [HT.out]; exact HM.out, HLB.out⟩
  | none =>
    have HT := hide (show readI d 0 = { d with e := upd d.e 0 (readTo (d.e 0) 64), g := upd d.g 0 (d.g 0 ++ (d.e 0).inn.take (readN (d.e 0) 64)) } by unfold readI; rw [he])
    have HR := hide (show Calls Try.prog 37 #[.pointer (some ⟨L.b 0, 0, none⟩), .int .i64 64] w (ReadPost w (L.b 0) (d.e 0) (L.vo 0) (L.vi 0) 64) from read_ok w (L.b 0) (d.e 0) (L.vo 0) (L.vi 0) 64 hem hok (by omega) he)
    clear h hLb hem hok he
    go_enter Try.func24, Try.ntmps24
    go_wp2_with fail
    refine HR.out.mono ?_
    rintro r w1 ⟨A, c, rfl, ho, hop⟩
    have hM1 := HM.out.endOp (i := 0) (by omega) (readTo_ok HOK.out 64) hop
    obtain ⟨L1, hm1, hb1, -⟩ := hM1
    have HM1 := hide hm1
    have HB1 := hide hb1
    have q0 : w1.cell? ⟨gp, 6, none⟩ = some (.string (str (d.g 0))) := hm1.box.cell 6
    have qf : w1.frozen? ⟨gp, 6, none⟩ = false := hm1.box.frozen 6
    obtain ⟨bs, hbs⟩ : ∃ x, (d.e 0).inn.take (readN (d.e 0) 64) = x := ⟨_, rfl⟩
    have hb64 : bs.length ≤ 64 := by rw [← hbs, List.length_take]; have := HOK.out.inn; omega
    rw [hbs] at ho
    have HBS := hide hbs
    obtain ⟨k, hk⟩ : ∃ x, readN (d.e 0) 64 = x := ⟨_, rfl⟩
    rw [hk] at ho ⊢
    have hno : Value.ownBlock (.slice A k c) ≠ some gp := own_blk_ne (own_mono ho (Nat.zero_le _)) hm1.box (by decide)
    have HRD := hide (show ∀ v, Reads ((w1.drew).setCell ⟨gp, 6, none⟩ v) ((w1.drew).setCell ⟨gp, 6, none⟩ v).heap.size 1 A k (bytesV bs) from fun v => Reads.of_own (own_far (p := ⟨gp, 6, none⟩) (w := w1.drew) ho.drew hno v))
    have HCV1 := hide (conv_str' (P := Try.prog) (w := w1.drew) Try.underlying33 Try.underlying5 Try.underlying9 (Reads.of_own ho).drew c)
    have HCV2 := hide (fun v => conv_str' (P := Try.prog) (w := (w1.drew).setCell ⟨gp, 6, none⟩ v) Try.underlying33 Try.underlying5 Try.underlying9 (HRD.out v) c)
    obtain ⟨gl, hgl⟩ : ∃ x, d.g 0 = x := ⟨_, rfl⟩
    rw [hgl] at q0 hl
    have HGL := hide hgl
    have s1 : (str gl).size ≤ 1000000 := by rw [str_size]; exact hl
    have s2 : (str bs).size ≤ 64 := by rw [str_size]; exact hb64
    have hadd := str_append gl bs
    obtain ⟨T, hT⟩ : ∃ x, str gl = x := ⟨_, rfl⟩
    obtain ⟨U, hU⟩ : ∃ x, str bs = x := ⟨_, rfl⟩
    rw [hT] at q0 s1 hadd
    rw [hU] at s2 hadd HCV1 HCV2
    have HADD := hide hadd
    have hsz : ¬ (T.size + U.size > 9223372036854775807) := by omega
    clear ho hop hm1 hb1 hbs hk hgl p0 hadd hT hU hno
    go_upto_region 2 with fail
    rw [← opGot_eq]
    have hOp := opGot_eq
    go_region_held3 (fun w' => (convert 33 9 (.slice A k c)).run Try.prog w' = .ok (.string U) w') (first | exact HCV1.out | exact HCV2.out _ | fail) (fail)
    all_goals
      go_wp2_with fail
      (first | go_end0 | ((try simp only [Exit.inBlock, Exit.then]); refine bodyPost_ret (results_none rfl _ _ _) rfl ?_))
      have hM2 := HM1.out.extend ((Ext.refl w1).drew)
      refine ⟨rfl, L1, ?_, by rw [HB1.out]; exact HLB.out⟩
      rw [HT.out, HBS.out, HGL.out]
      refine hM2.strs (d' := { d with e := upd d.e 0 (readTo (d.e 0) 64), g := upd d.g 0 (gl ++ bs) }) ?_ rfl rfl
      have h9 := hM2.box.set_ 6 (.string (T ++ U))
      rw [HADD.out] at h9 ⊢
      exact h9
set_option maxHeartbeats 2000000 in
set_option maxRecDepth 100000 in
theorem pair_read1 (w0 : World) (gp : Nat) (b : Nat → Nat) (d : PairD) (w : World) (h : PairAt w0 gp b d w) (hl : (d.g 1).length ≤ 1000000) :
    Calls Try.prog 24 #[.pointer (some ⟨gp, 0, none⟩), .int .i64 1] w fun r w' => r = .returned (.tuple #[]) ∧ PairAt w0 gp b (readI d 1) w' := by
  obtain ⟨L, h, hLb⟩ := h
  have HM := hide h
  have HLB := hide hLb
  have p0 : w.cell? ⟨gp, 1, none⟩ = some (.pointer (some ⟨L.b 1, 0, none⟩)) := h.box.cell 1
  have hem := h.end_ 1 (by omega)
  have hok := h.ok 1 (by omega)
  have HOK := hide hok
  cases he : readErr (d.e 1) 64 with
  | some er =>
    have HT := hide (show readI d 1 = d by unfold readI; rw [he])
    have HR := hide (show Calls Try.prog 37 #[.pointer (some ⟨L.b 1, 0, none⟩), .int .i64 64] w fun r w' => r = .returned (.tuple #[.slice none 0 0, .int .i64 er]) ∧ w = w' from read_fails w (L.b 1) (d.e 1) (L.vo 1) (L.vi 1) 64 er hem (by omega) he)
    have her : er = 8 ∨ er = 9 ∨ er = 10 := by
      unfold readErr at he
      split at he
      · injection he with he; omega
      · split at he
        · split at he <;> (injection he with he; omega)
        · cases he
    have te : (er == 0) = false := by simp; omega
    clear h hLb hem hok he her
    go_enter Try.func24, Try.ntmps24
    go_wp2_with fail
    refine HR.out.mono ?_
    rintro r w1 ⟨rfl, rfl⟩
    go_wp2_with fail
    (first | go_end0 | ((try simp only [Exit.inBlock, Exit.then]); refine bodyPost_ret (results_none rfl _ _ _) rfl ?_))
    exact ⟨rfl, L, by rw [HT.out]; exact HM.out, HLB.out⟩
  | none =>
    have HT := hide (show readI d 1 = { d with e := upd d.e 1 (readTo (d.e 1) 64), g := upd d.g 1 (d.g 1 ++ (d.e 1).inn.take (readN (d.e 1) 64)) } by unfold readI; rw [he])
    have HR := hide (show Calls Try.prog 37 #[.pointer (some ⟨L.b 1, 0, none⟩), .int .i64 64] w (ReadPost w (L.b 1) (d.e 1) (L.vo 1) (L.vi 1) 64) from read_ok w (L.b 1) (d.e 1) (L.vo 1) (L.vi 1) 64 hem hok (by omega) he)
    clear h hLb hem hok he
    go_enter Try.func24, Try.ntmps24
    go_wp2_with fail
    refine HR.out.mono ?_
    rintro r w1 ⟨A, c, rfl, ho, hop⟩
    have hM1 := HM.out.endOp (i := 1) (by omega) (readTo_ok HOK.out 64) hop
    obtain ⟨L1, hm1, hb1, -⟩ := hM1
    have HM1 := hide hm1
    have HB1 := hide hb1
    have q0 : w1.cell? ⟨gp, 7, none⟩ = some (.string (str (d.g 1))) := hm1.box.cell 7
    have qf : w1.frozen? ⟨gp, 7, none⟩ = false := hm1.box.frozen 7
    obtain ⟨bs, hbs⟩ : ∃ x, (d.e 1).inn.take (readN (d.e 1) 64) = x := ⟨_, rfl⟩
    have hb64 : bs.length ≤ 64 := by rw [← hbs, List.length_take]; have := HOK.out.inn; omega
    rw [hbs] at ho
    have HBS := hide hbs
    obtain ⟨k, hk⟩ : ∃ x, readN (d.e 1) 64 = x := ⟨_, rfl⟩
    rw [hk] at ho ⊢
    have hno : Value.ownBlock (.slice A k c) ≠ some gp := own_blk_ne (own_mono ho (Nat.zero_le _)) hm1.box (by decide)
    have HRD := hide (show ∀ v, Reads ((w1.drew).setCell ⟨gp, 7, none⟩ v) ((w1.drew).setCell ⟨gp, 7, none⟩ v).heap.size 1 A k (bytesV bs) from fun v => Reads.of_own (own_far (p := ⟨gp, 7, none⟩) (w := w1.drew) ho.drew hno v))
    have HCV1 := hide (conv_str' (P := Try.prog) (w := w1.drew) Try.underlying33 Try.underlying5 Try.underlying9 (Reads.of_own ho).drew c)
    have HCV2 := hide (fun v => conv_str' (P := Try.prog) (w := (w1.drew).setCell ⟨gp, 7, none⟩ v) Try.underlying33 Try.underlying5 Try.underlying9 (HRD.out v) c)
    obtain ⟨gl, hgl⟩ : ∃ x, d.g 1 = x := ⟨_, rfl⟩
    rw [hgl] at q0 hl
    have HGL := hide hgl
    have s1 : (str gl).size ≤ 1000000 := by rw [str_size]; exact hl
    have s2 : (str bs).size ≤ 64 := by rw [str_size]; exact hb64
    have hadd := str_append gl bs
    obtain ⟨T, hT⟩ : ∃ x, str gl = x := ⟨_, rfl⟩
    obtain ⟨U, hU⟩ : ∃ x, str bs = x := ⟨_, rfl⟩
    rw [hT] at q0 s1 hadd
    rw [hU] at s2 hadd HCV1 HCV2
    have HADD := hide hadd
    have hsz : ¬ (T.size + U.size > 9223372036854775807) := by omega
    clear ho hop hm1 hb1 hbs hk hgl p0 hadd hT hU hno
    go_upto_region 2 with fail
    rw [← opGot_eq]
    have hOp := opGot_eq
    go_region_held3 (fun w' => (convert 33 9 (.slice A k c)).run Try.prog w' = .ok (.string U) w') (first | exact HCV1.out | exact HCV2.out _ | fail) (fail)
    all_goals
      go_wp2_with fail
      (first | go_end0 | ((try simp only [Exit.inBlock, Exit.then]); refine bodyPost_ret (results_none rfl _ _ _) rfl ?_))
      have hM2 := HM1.out.extend ((Ext.refl w1).drew)
      refine ⟨rfl, L1, ?_, by rw [HB1.out]; exact HLB.out⟩
      rw [HT.out, HBS.out, HGL.out]
      refine hM2.strs (d' := { d with e := upd d.e 1 (readTo (d.e 1) 64), g := upd d.g 1 (gl ++ bs) }) ?_ rfl rfl
      have h9 := hM2.box.set_ 7 (.string (T ++ U))
      rw [HADD.out] at h9 ⊢
      exact h9
set_option maxHeartbeats 2000000 in
set_option maxRecDepth 100000 in
theorem pair_write0 (w0 : World) (gp : Nat) (b : Nat → Nat) (d : PairD) (L : PairL) (w : World) (h : PairM w0 gp L d w) (hLb : L.b = b) (hl : (d.p 0).length ≤ 1000000) (D : Option Addr) (n c : Nat) (ds : List UInt8) (Bd : Nat) (hBd : Bd ≤ w.heap.size) (hd : Reads w Bd 1 D n (bytesV ds)) (hnc : n ≤ c) (hn : n ≤ 256)
    (hno : ∀ a, D = some a → a.block < Bd → a.block ≠ gp ∧ ∀ j, j < 2 → ¬ foot (L.b j) (L.vo j) (L.vi j) a.block) :
    Calls Try.prog 17 #[.pointer (some ⟨gp, 0, none⟩), .int .i64 0, .slice D n c] w fun r w' => r = .returned (.bool true) ∧ PairAt w0 gp b (writeI d 0 ds) w' := by
  have HM := hide h
  have HLB := hide hLb
  have p0 : w.cell? ⟨gp, 0, none⟩ = some (.pointer (some ⟨L.b 0, 0, none⟩)) := h.box.cell 0
  have hem := h.end_ 0 (by omega)
  have hok := h.ok 0 (by omega)
  have HOK := hide hok
  have hdl : ds.length = n := by have := hd.1; rw [bytesV_length] at this; omega
  have HW := hide (write_any w (L.b 0) (d.e 0) (L.vo 0) (L.vi 0) D n c Bd ds hem hok hd hnc hn)
  have hsay := write_says (d.e 0) ds
  rw [hdl] at hsay
  have HD := hide hd
  have HNO := hide hno
  have HDL := hide hdl
  obtain ⟨k, hk⟩ : ∃ x, (writeE (d.e 0) ds).2.1 = x := ⟨_, rfl⟩
  obtain ⟨er, her⟩ : ∃ x, (writeE (d.e 0) ds).2.2 = x := ⟨_, rfl⟩
  have HWP := hide (show ∀ r w', WritePost w (L.b 0) (d.e 0) (L.vo 0) (L.vi 0) ds r w' → r = .returned (.tuple #[.int .i64 (k : Int), .int .i64 er]) ∧ EndOp w (L.b 0) (L.vo 0) (L.vi 0) (writeE (d.e 0) ds).1 w' from fun r w' h9 => by
    obtain ⟨h1, h2⟩ := h9
    rw [hk, her] at h1
    exact ⟨h1, h2⟩)
  rw [hk, her] at hsay
  obtain ⟨hkn, hor⟩ := hsay
  have HK := hide hk
  clear h hLb hem hok hd hno hdl hk her
  have hk0 : (0 : Int) ≤ (k : Int) := by omega
  have hkc : (k : Int) ≤ (c : Int) := by omega
  have hkn' : ¬ ((n : Int) < (k : Int)) := by omega
  have hkn2 : ¬ (n < k) := by omega
  go_enter Try.func17, Try.ntmps17
  go_wp2_with fail
  refine HW.out.mono ?_
  intro r w1 h9
  obtain ⟨rfl, hop⟩ := HWP.out r w1 h9
  clear h9
  obtain ⟨L1, hm1, hb1, -⟩ := HM.out.endOp (i := 0) (by omega) (wrTo_ok HOK.out ds) hop
  obtain ⟨vo', vi', -, hkp, -⟩ := hop
  have HM1 := hide hm1
  have HB1 := hide hb1
  have q0 : w1.cell? ⟨gp, 4, none⟩ = some (.string (str (d.p 0))) := hm1.box.cell 4
  have qf : w1.frozen? ⟨gp, 4, none⟩ = false := hm1.box.frozen 4
  have hr1 : Reads w1 Bd 1 D k (bytesV (ds.take k)) := by
    have := (HD.out.keepF hkp hBd (fun a ha hb => (HNO.out a ha hb).2 0 (by omega))).take hkn
    rwa [bytesV_take] at this
  obtain ⟨bs, hbs⟩ : ∃ x, ds.take k = x := ⟨_, rfl⟩
  have hb64 : bs.length ≤ 256 := by rw [← hbs, List.length_take]; omega
  rw [hbs] at hr1
  have HBS := hide hbs
  have HCV1 := hide (conv_str' (P := Try.prog) (w := w1.drew) Try.underlying33 Try.underlying5 Try.underlying9 hr1.drew c)
  have HCV2 := hide (fun v => conv_str' (P := Try.prog) (w := (w1.drew).setCell ⟨gp, 4, none⟩ v) Try.underlying33 Try.underlying5 Try.underlying9 (hr1.drew.keepF (F := fun x => x = gp) (KeepF.of_grown (grown_set (World.grownBy.refl w1.drew _) _ _) rfl) (Nat.le_trans hBd hkp.size) (fun a ha hb => (HNO.out a ha hb).1)) c)
  obtain ⟨gl, hgl⟩ : ∃ x, d.p 0 = x := ⟨_, rfl⟩
  rw [hgl] at q0 hl
  have HGL := hide hgl
  have s1 : (str gl).size ≤ 1000000 := by rw [str_size]; exact hl
  have s2 : (str bs).size ≤ 256 := by rw [str_size]; exact hb64
  have hadd := str_append gl bs
  obtain ⟨T, hT⟩ : ∃ x, str gl = x := ⟨_, rfl⟩
  obtain ⟨U, hU⟩ : ∃ x, str bs = x := ⟨_, rfl⟩
  rw [hT] at q0 s1 hadd
  rw [hU] at s2 hadd HCV1 HCV2
  have HADD := hide hadd
  have hsz : ¬ (T.size + U.size > 9223372036854775807) := by omega
  clear hkp hm1 hb1 hbs hgl p0 hadd hT hU hr1 hb64
  go_upto_region 2 with fail
  have hfin : PairAt w0 gp b (writeI d 0 ds) ((w1.drew).setCell ⟨gp, 4, none⟩ (.string (T ++ U))) := by
    have hM2 := HM1.out.extend ((Ext.refl w1).drew)
    refine ⟨L1, ?_, by rw [HB1.out]; exact HLB.out⟩
    unfold writeI
    rw [HK.out, HBS.out, HGL.out]
    refine hM2.strs (d' := { d with e := upd d.e 0 (writeE (d.e 0) ds).1, p := upd d.p 0 (gl ++ bs) }) ?_ rfl rfl
    have h9 := hM2.box.set_ 4 (.string (T ++ U))
    rw [HADD.out] at h9 ⊢
    exact h9
  have HFIN := hide hfin
  clear hfin
  rcases hor with he | he
  · subst he
    go_upto_region 4 with fail
    rw [← opPut_eq]
    have hOp := opPut_eq
    go_region_held3 (fun w' => (convert 33 9 (.slice D k c)).run Try.prog w' = .ok (.string U) w') (first | exact HCV1.out | exact HCV2.out _ | fail) (fail)
    all_goals
      go_wp2_with fail
      go_ret
      exact ⟨rfl, HFIN.out⟩
  · subst he
    by_cases h0 : er = 0
    · subst h0
      go_upto_region 4 with fail
      rw [← opPut_eq]
      have hOp := opPut_eq
      go_region_held3 (fun w' => (convert 33 9 (.slice D 0 c)).run Try.prog w' = .ok (.string U) w') (first | exact HCV1.out | exact HCV2.out _ | fail) (fail)
      all_goals
        go_wp2_with fail
        go_ret
        exact ⟨rfl, HFIN.out⟩
    · have te : (er == 0) = false := by simpa using h0
      have te' : (er != 0) = true := by simpa using h0
      clear h0
      go_upto_region 4 with fail
      rw [← opPut_eq]
      have hOp := opPut_eq
      go_region_held3 (fun w' => (convert 33 9 (.slice D 0 c)).run Try.prog w' = .ok (.string U) w') (first | exact HCV1.out | exact HCV2.out _ | fail) (fail)
      all_goals
        go_wp2_with fail
        go_ret
        exact ⟨rfl, HFIN.out⟩
set_option maxHeartbeats 2000000 in
set_option maxRecDepth 100000 in
theorem pair_write1 (w0 : World) (gp : Nat) (b : Nat → Nat) (d : PairD) (L : PairL) (w : World) (h : PairM w0 gp L d w) (hLb : L.b = b) (hl : (d.p 1).length ≤ 1000000) (D : Option Addr) (n c : Nat) (ds : List UInt8) (Bd : Nat) (hBd : Bd ≤ w.heap.size) (hd : Reads w Bd 1 D n (bytesV ds)) (hnc : n ≤ c) (hn : n ≤ 256)
    (hno : ∀ a, D = some a → a.block < Bd → a.block ≠ gp ∧ ∀ j, j < 2 → ¬ foot (L.b j) (L.vo j) (L.vi j) a.block) :
    Calls Try.prog 17 #[.pointer (some ⟨gp, 0, none⟩), .int .i64 1, .slice D n c] w fun r w' => r = .returned (.bool true) ∧ PairAt w0 gp b (writeI d 1 ds) w' := by
  have HM := hide h
  have HLB := hide hLb
  have p0 : w.cell? ⟨gp, 1, none⟩ = some (.pointer (some ⟨L.b 1, 0, none⟩)) := h.box.cell 1
  have hem := h.end_ 1 (by omega)
  have hok := h.ok 1 (by omega)
  have HOK := hide hok
  have hdl : ds.length = n := by have := hd.1; rw [bytesV_length] at this; omega
  have HW := hide (write_any w (L.b 1) (d.e 1) (L.vo 1) (L.vi 1) D n c Bd ds hem hok hd hnc hn)
  have hsay := write_says (d.e 1) ds
  rw [hdl] at hsay
  have HD := hide hd
  have HNO := hide hno
  have HDL := hide hdl
  obtain ⟨k, hk⟩ : ∃ x, (writeE (d.e 1) ds).2.1 = x := ⟨_, rfl⟩
  obtain ⟨er, her⟩ : ∃ x, (writeE (d.e 1) ds).2.2 = x := ⟨_, rfl⟩
  have HWP := hide (show ∀ r w', WritePost w (L.b 1) (d.e 1) (L.vo 1) (L.vi 1) ds r w' → r = .returned (.tuple #[.int .i64 (k : Int), .int .i64 er]) ∧ EndOp w (L.b 1) (L.vo 1) (L.vi 1) (writeE (d.e 1) ds).1 w' from fun r w' h9 => by
    obtain ⟨h1, h2⟩ := h9
    rw [hk, her] at h1
    exact ⟨h1, h2⟩)
  rw [hk, her] at hsay
  obtain ⟨hkn, hor⟩ := hsay
  have HK := hide hk
  clear h hLb hem hok hd hno hdl hk her
  have hk0 : (0 : Int) ≤ (k : Int) := by omega
  have hkc : (k : Int) ≤ (c : Int) := by omega
  have hkn' : ¬ ((n : Int) < (k : Int)) := by omega
  have hkn2 : ¬ (n < k) := by omega
  go_enter Try.func17, Try.ntmps17
  go_wp2_with fail
  refine HW.out.mono ?_
  intro r w1 h9
  obtain ⟨rfl, hop⟩ := HWP.out r w1 h9
  clear h9
  obtain ⟨L1, hm1, hb1, -⟩ := HM.out.endOp (i := 1) (by omega) (wrTo_ok HOK.out ds) hop
  obtain ⟨vo', vi', -, hkp, -⟩ := hop
  have HM1 := hide hm1
  have HB1 := hide hb1
  have q0 : w1.cell? ⟨gp, 5, none⟩ = some (.string (str (d.p 1))) := hm1.box.cell 5
  have qf : w1.frozen? ⟨gp, 5, none⟩ = false := hm1.box.frozen 5
  have hr1 : Reads w1 Bd 1 D k (bytesV (ds.take k)) := by
    have := (HD.out.keepF hkp hBd (fun a ha hb => (HNO.out a ha hb).2 1 (by omega))).take hkn
    rwa [bytesV_take] at this
  obtain ⟨bs, hbs⟩ : ∃ x, ds.take k = x := ⟨_, rfl⟩
  have hb64 : bs.length ≤ 256 := by rw [← hbs, List.length_take]; omega
  rw [hbs] at hr1
  have HBS := hide hbs
  have HCV1 := hide (conv_str' (P := Try.prog) (w := w1.drew) Try.underlying33 Try.underlying5 Try.underlying9 hr1.drew c)
  have HCV2 := hide (fun v => conv_str' (P := Try.prog) (w := (w1.drew).setCell ⟨gp, 5, none⟩ v) Try.underlying33 Try.underlying5 Try.underlying9 (hr1.drew.keepF (F := fun x => x = gp) (KeepF.of_grown (grown_set (World.grownBy.refl w1.drew _) _ _) rfl) (Nat.le_trans hBd hkp.size) (fun a ha hb => (HNO.out a ha hb).1)) c)
  obtain ⟨gl, hgl⟩ : ∃ x, d.p 1 = x := ⟨_, rfl⟩
  rw [hgl] at q0 hl
  have HGL := hide hgl
  have s1 : (str gl).size ≤ 1000000 := by rw [str_size]; exact hl
  have s2 : (str bs).size ≤ 256 := by rw [str_size]; exact hb64
  have hadd := str_append gl bs
  obtain ⟨T, hT⟩ : ∃ x, str gl = x := ⟨_, rfl⟩
  obtain ⟨U, hU⟩ : ∃ x, str bs = x := ⟨_, rfl⟩
  rw [hT] at q0 s1 hadd
  rw [hU] at s2 hadd HCV1 HCV2
  have HADD := hide hadd
  have hsz : ¬ (T.size + U.size > 9223372036854775807) := by omega
  clear hkp hm1 hb1 hbs hgl p0 hadd hT hU hr1 hb64
  go_upto_region 2 with fail
  have hfin : PairAt w0 gp b (writeI d 1 ds) ((w1.drew).setCell ⟨gp, 5, none⟩ (.string (T ++ U))) := by
    have hM2 := HM1.out.extend ((Ext.refl w1).drew)
    refine ⟨L1, ?_, by rw [HB1.out]; exact HLB.out⟩
    unfold writeI
    rw [HK.out, HBS.out, HGL.out]
    refine hM2.strs (d' := { d with e := upd d.e 1 (writeE (d.e 1) ds).1, p := upd d.p 1 (gl ++ bs) }) ?_ rfl rfl
    have h9 := hM2.box.set_ 5 (.string (T ++ U))
    rw [HADD.out] at h9 ⊢
    exact h9
  have HFIN := hide hfin
  clear hfin
  rcases hor with he | he
  · subst he
    go_upto_region 4 with fail
    rw [← opPut_eq]
    have hOp := opPut_eq
    go_region_held3 (fun w' => (convert 33 9 (.slice D k c)).run Try.prog w' = .ok (.string U) w') (first | exact HCV1.out | exact HCV2.out _ | fail) (fail)
    all_goals
      go_wp2_with fail
      go_ret
      exact ⟨rfl, HFIN.out⟩
  · subst he
    by_cases h0 : er = 0
    · subst h0
      go_upto_region 4 with fail
      rw [← opPut_eq]
      have hOp := opPut_eq
      go_region_held3 (fun w' => (convert 33 9 (.slice D 0 c)).run Try.prog w' = .ok (.string U) w') (first | exact HCV1.out | exact HCV2.out _ | fail) (fail)
      all_goals
        go_wp2_with fail
        go_ret
        exact ⟨rfl, HFIN.out⟩
    · have te : (er == 0) = false := by simpa using h0
      have te' : (er != 0) = true := by simpa using h0
      clear h0
      go_upto_region 4 with fail
      rw [← opPut_eq]
      have hOp := opPut_eq
      go_region_held3 (fun w' => (convert 33 9 (.slice D 0 c)).run Try.prog w' = .ok (.string U) w') (first | exact HCV1.out | exact HCV2.out _ | fail) (fail)
      all_goals
        go_wp2_with fail
        go_ret
        exact ⟨rfl, HFIN.out⟩
end Go.Proofs.Ytkfpmljlgpobjaa
