/- The contracts of (*pair).rounds and of begin. -/
import Derived.Test.YtkfpmljlgpobjaaPairSayW
import Derived.Test.YtkfpmljlgpobjaaPairCome
import Derived.Test.YtkfpmljlgpobjaaPairIO
namespace Go.Proofs.Ytkfpmljlgpobjaa
open Go.RowKit
set_option linter.unusedVariables false

/-- An end that is not gone has tried six times at most. -/
def Live (e : EndD) : Prop := e.st ≠ 5 → e.tries ≤ 6
theorem tick_same (e : EndD) : (tickE e).out = e.out ∧ (tickE e).inn = e.inn := by
  unfold tickE
  split
  · exact ⟨rfl, rfl⟩
  split
  · exact ⟨rfl, rfl⟩
  split <;> exact ⟨rfl, rfl⟩
theorem tick_ok {e : EndD} (ok : e.Ok) (hv : Live e) : (tickE e).Ok ∧ Live (tickE e) := by
  unfold tickE
  split
  · exact ⟨ok, hv⟩
  rename_i hn
  have hb : begunB e = true := by cases h : begunB e with | true => rfl | false => exact absurd (.inl h) hn
  have h6 : e.tries ≤ 6 := hv (fun h => by simp [begunB, h] at hb)
  have h1 := ok.wait
  have h2 := ok.tries
  split
  · exact ⟨⟨ok.st, ok.una, ok.nxt, ok.top, ok.first, ok.rcv, ok.out, ok.inn, ok.peer, by dsimp only; omega, ok.tries⟩, fun _ => h6⟩
  split
  · exact ⟨⟨by simp, ok.una, ok.nxt, ok.top, ok.first, ok.rcv, ok.out, ok.inn, ok.peer, by simp, by dsimp only; omega⟩, fun h => absurd rfl h⟩
  · exact ⟨⟨ok.st, ok.una, ok.una, ok.top, ok.first, ok.rcv, ok.out, ok.inn, ok.peer, by simp, by dsimp only; omega⟩, fun _ => by dsimp only; omega⟩
theorem outLoop_st : ∀ (k : Nat) (e : EndD), (outLoop k e).1.st = e.st ∧ (outLoop k e).1.tries = e.tries
  | 0, e => ⟨rfl, rfl⟩
  | k + 1, e => by
    unfold outLoop
    split
    · exact ⟨rfl, rfl⟩
    · exact outLoop_st k (sayE e 0 (outN e))
theorem out_st (e : EndD) : (outE e).1.st = e.st ∧ (outE e).1.tries = e.tries := by
  unfold outE
  split
  · exact ⟨rfl, rfl⟩
  · split
    · have h := outLoop_st 64 e
      generalize outLoop 64 e = r at *
      have hf : (outFin r).1.st = e.st ∧ (outFin r).1.tries = e.tries := by unfold outFin; split <;> exact h
      generalize outFin r = r at *
      unfold outDue
      split <;> exact hf
    · exact ⟨rfl, rfl⟩
theorem out_live {e : EndD} (h : Live e) : Live (outE e).1 := by
  unfold Live
  rw [(out_st e).1, (out_st e).2]
  exact h
theorem take_live {e : EndD} (h : Live e) (q f : Int) (ds : List UInt8) : Live (takeE e q f ds) := by
  unfold takeE
  split
  · exact h
  split <;> exact h
theorem answer_live {e : EndD} (h : Live e) (a wd : Int) : Live (answerE e a wd) := by
  unfold answerE
  split
  · exact h
  split
  · exact fun _ => by simp
  · exact fun _ => by simp [ansTo]
theorem come_live {e : EndD} (h : Live e) (s : SegD) : Live (comeS e s) := by
  unfold comeS comeE
  split
  · exact h
  rename_i h05
  have h6 : e.tries ≤ 6 := h (fun h => h05 (.inr h))
  split
  · split
    · exact h
    · exact fun h => absurd rfl h
  split
  · split
    · exact fun _ => h6
    · exact h
  split
  · split
    · exact fun _ => by simp [openE]
    · exact h
  split
  · split
    · split <;> exact h
    · split
      · exact take_live (fun _ => by simp [heardE]) _ _ _
      · exact h
  split
  · exact take_live h _ _ _
  · exact take_live (answer_live h _ _) _ _ _
theorem comeL_live {e : EndD} (h : Live e) (l : List SegD) : Live (comeL e l) := by
  induction l generalizing e with
  | nil => exact h
  | cons s l ih => exact ih (come_live h s)
def tickI (d : PairD) (i : Nat) : PairD := { d with e := upd d.e i (tickE (d.e i)) }
def roundP (d : PairD) : PairD := tickI (tickI (readI (readI (comeP (sayP d)) 0) 1) 0) 1
def roundsP : Nat → PairD → PairD
  | 0, d => d
  | k + 1, d => roundP (roundsP k d)
theorem PairAt.tick {w0 w w' : World} {gp : Nat} {b : Nat → Nat} {d : PairD} {L : PairL} (h : PairM w0 gp L d w) (hb : L.b = b) {i : Nat} (hi : i < 2) (hv : Live (d.e i)) (hbx : EndB w' (L.b i) (tickE (d.e i)) (L.vo i) (L.vi i)) (hg : w.grownBy w' (some (L.b i))) : PairAt w0 gp b (tickI d i) w' := by
  obtain ⟨L', h1, h2, -⟩ := h.endOp hi (tick_ok (h.ok i hi) hv).1 (EndOp.of_grown (h.end_ i hi) hg hbx (tick_same _).1 (tick_same _).2)
  exact ⟨L', h1, by rw [h2, hb]⟩
/-- What all pairs of ends keep. -/
structure Sound (d : PairD) (Y G : Nat) : Prop where
  live : ∀ i, i < 2 → Live (d.e i)
  way : ∀ i, i < 2 → (d.y i).length ≤ Y
  got : ∀ i, i < 2 → (d.g i).length ≤ G
theorem upd_all {α : Type} {P : α → Prop} {f : Nat → α} {i : Nat} {x : α} (h : ∀ j, j < 2 → P (f j)) (hx : P x) : ∀ j, j < 2 → P (upd f i x j) := fun j hj => by
  unfold upd; split
  · exact hx
  · exact h j hj
theorem sound_sayI {d : PairD} {Y G : Nat} (h : Sound d Y G) (i : Nat) (hi : i < 2) : Sound (sayI d i) (Y + 70) G := by
  refine ⟨upd_all h.live (out_live (h.live i hi)), fun j hj => ?_, h.got⟩
  have h1 := h.way (1 - i) (by omega)
  have h2 := h.way j hj
  simp only [sayI, upd]
  split
  · rw [List.length_append, List.length_take]; omega
  · omega
theorem sound_sayP {d : PairD} {Y G : Nat} (h : Sound d Y G) : Sound (sayP d) (Y + 140) G := sound_sayI (sound_sayI h 0 (by omega)) 1 (by omega)
theorem sound_comeP {d : PairD} {Y G : Nat} (h : Sound d Y G) : Sound (comeP d) 0 G := by
  have h1 : ∀ i, i < 2 → Live ((comeI d 0).e i) := upd_all h.live (comeL_live (h.live 0 (by omega)) _)
  refine ⟨upd_all h1 (comeL_live (h1 1 (by omega)) _), fun j hj => ?_, h.got⟩
  rcases lt2 hj with rfl | rfl <;> simp [comeP, comeI, upd]
theorem sound_readI {d : PairD} {Y G : Nat} (h : Sound d Y G) (i : Nat) (hi : i < 2) : Sound (readI d i) Y (G + 64) := by
  unfold readI
  split
  · exact ⟨h.live, h.way, fun j hj => by have := h.got j hj; omega⟩
  · refine ⟨upd_all h.live (h.live i hi), h.way, fun j hj => ?_⟩
    have h1 := h.got i hi
    have h2 := h.got j hj
    simp only [upd]
    split
    · rw [List.length_append, List.length_take]; unfold readN; omega
    · omega
theorem sound_tickI {d : PairD} {Y G : Nat} {i : Nat} (hok : (d.e i).Ok) (h : Sound d Y G) (hi : i < 2) : Sound (tickI d i) Y G :=
  ⟨upd_all h.live (tick_ok hok (h.live i hi)).2, h.way, h.got⟩
theorem PairAt.ok {w0 w : World} {gp : Nat} {b : Nat → Nat} {d : PairD} (h : PairAt w0 gp b d w) : ∀ i, i < 2 → (d.e i).Ok := by
  obtain ⟨L, h, _⟩ := h
  exact h.ok
/-- Ticks at both ends. -/
theorem end_tick (w0 : World) (gp : Nat) (b : Nat → Nat) (d : PairD) (w : World) (i : Nat) (hi : i < 2) (h : PairAt w0 gp b d w) (hv : Live (d.e i)) :
    Calls Try.prog 12 #[.pointer (some ⟨b i, 0, none⟩)] w fun r w' => r = .returned (.tuple #[]) ∧ PairAt w0 gp b (tickI d i) w' := by
  obtain ⟨L, h, rfl⟩ := h
  refine (tick_any w (L.b i) (d.e i) (L.vo i) (L.vi i) (h.end_ i hi).box (h.ok i hi)).mono ?_
  rintro r w' ⟨rfl, h1, h2⟩
  exact ⟨rfl, PairAt.tick h rfl hi hv h1 h2⟩
def RoundsRel (w0 : World) (gp : Nat) (b : Nat → Nat) (d : PairD) (n : Nat) (i : Value) (wr : World) : Prop := ∃ k : Nat, k ≤ n ∧ i = .int .i64 k ∧ PairAt w0 gp b (roundsP k d) wr ∧ ∃ Y G, Sound (roundsP k d) Y G ∧ Y ≤ 9000 ∧ G ≤ 100000 + 128 * k
theorem PairAt.ptrs {w0 w : World} {gp : Nat} {b : Nat → Nat} {d : PairD} (h : PairAt w0 gp b d w) : w.cell? ⟨gp, 0, none⟩ = some (.pointer (some ⟨b 0, 0, none⟩)) ∧ w.cell? ⟨gp, 1, none⟩ = some (.pointer (some ⟨b 1, 0, none⟩)) := by
  obtain ⟨L, h1, h2⟩ := h
  subst h2
  exact ⟨h1.cells.1, h1.cells.2.1⟩
set_option maxHeartbeats 2000000 in
set_option maxRecDepth 100000 in
theorem pair_rounds (w0 : World) (gp : Nat) (b : Nat → Nat) (d : PairD) (w : World) (n : Nat) (h : PairAt w0 gp b d w) (Y G : Nat) (hs : Sound d Y G) (hY : Y ≤ 9000) (hG : G ≤ 100000) (hn : n ≤ 100) :
    Calls Try.prog 16 #[.pointer (some ⟨gp, 0, none⟩), .int .i64 n] w fun r w' => r = .returned (.tuple #[]) ∧ PairAt w0 gp b (roundsP n d) w' := by
  have HP := hide h
  have HS := hide (show ∃ Y G, Sound (roundsP 0 d) Y G ∧ Y ≤ 9000 ∧ G ≤ 100000 + 128 * 0 from ⟨Y, G, hs, hY, by omega⟩)
  clear h hs
  go_enter Try.func16, Try.ntmps16
  go_wp2_with fail
  go_loopw [5] (RoundsRel w0 gp b d n) (fun i _ => n - (intOf i).toNat)
  case atStart => exact ⟨0, by omega, rfl, HP.out, HS.out⟩
  case round =>
    obtain ⟨k, hk, rfl, hp, Y1, G1, hs1, hY1, hG1⟩ := hrel
    clear HP HS
    by_cases hlt : k < n
    · have HP := hide hp
      have HS := hide hs1
      clear hp hs1
      go_wp2_with fail
      refine (pair_say w0 gp b _ wr HP.out (fun i hi => by have := HS.out.way i hi; omega)).mono ?_
      rintro r w1 ⟨rfl, hp1⟩
      have HP1 := hide hp1
      have HS1 := hide (sound_sayP HS.out)
      clear hp1 HP HS
      go_wp2_with fail
      refine (pair_come w0 gp b _ w1 HP1.out (fun i hi => by have := HS1.out.way i hi; omega)).mono ?_
      rintro r w2 ⟨rfl, hp2⟩
      have HP2 := hide hp2
      have HS2 := hide (sound_comeP HS1.out)
      clear hp2 HP1 HS1
      go_wp2_with fail
      refine (pair_read0 w0 gp b _ w2 HP2.out (by have := HS2.out.got 0 (by omega); omega)).mono ?_
      rintro r w3 ⟨rfl, hp3⟩
      have HP3 := hide hp3
      have HS3 := hide (sound_readI HS2.out 0 (by omega))
      clear hp3 HP2 HS2
      go_wp2_with fail
      refine (pair_read1 w0 gp b _ w3 HP3.out (by have := HS3.out.got 1 (by omega); omega)).mono ?_
      rintro r w4 ⟨rfl, hp4⟩
      have HP4 := hide hp4
      have HS4 := hide (sound_readI HS3.out 1 (by omega))
      obtain ⟨p0, p1⟩ := hp4.ptrs
      clear hp4 HP3 HS3
      go_wp2_with fail
      refine (end_tick w0 gp b _ w4 0 (by omega) HP4.out (HS4.out.live 0 (by omega))).mono ?_
      rintro r w5 ⟨rfl, hp5⟩
      have HP5 := hide hp5
      have HS5 := hide (sound_tickI (HP4.out.ok 0 (by omega)) HS4.out (by omega))
      obtain ⟨q0, q1⟩ := hp5.ptrs
      clear hp5 HP4 HS4 p0 p1
      go_wp2_with fail
      refine (end_tick w0 gp b _ w5 1 (by omega) HP5.out (HS5.out.live 1 (by omega))).mono ?_
      rintro r w6 ⟨rfl, hp6⟩
      have HP6 := hide hp6
      have HS6 := hide (sound_tickI (HP5.out.ok 1 (by omega)) HS5.out (by omega))
      clear hp6 HP5 HS5 q0 q1
      go_wp2_with fail
      go_roundw
      case rel => exact ⟨k + 1, by omega, by go_num, HP6.out, _, _, HS6.out, by omega, by omega⟩
      case measure => simp [intOf]; omega
    · obtain rfl : k = n := by omega
      have HP := hide hp
      clear hp hs1
      go_wp2_with fail
      (first | go_end0 | ((try simp only [Exit.inBlock, Exit.then]); refine bodyPost_ret (results_none rfl _ _ _) rfl ?_))
      exact ⟨rfl, HP.out⟩

def beginP (a b : Int) : PairD := ⟨fun i => if i = 0 then beginE 2 a else beginE 1 b, fun _ => [], fun _ => [], fun _ => []⟩
theorem beginE_ok' (st iss : Int) (hi : U32 iss) (hs : 0 ≤ st ∧ st ≤ 5) : (beginE st iss).Ok := by
  obtain ⟨h1, h2⟩ := hi
  have hm : U32 ((iss + 1) % 4294967296) := ⟨by omega, by omega⟩
  exact ⟨hs, ⟨h1, h2⟩, ⟨h1, h2⟩, ⟨h1, h2⟩, hm, ⟨by simp [beginE], by simp [beginE]⟩, by simp [beginE], by simp [beginE], by simp [beginE], by simp [beginE], by simp [beginE]⟩
theorem begin_sound (a b : Int) : Sound (beginP a b) 0 0 := by
  refine ⟨fun i hi => ?_, fun i hi => by simp [beginP], fun i hi => by simp [beginP]⟩
  rcases lt2 hi with rfl | rfl <;> exact fun _ => by simp [beginP, beginE]
set_option maxHeartbeats 2000000 in
set_option maxRecDepth 100000 in
theorem begin_any (w : World) (a b : Int) (ha : U32 a) (hb : U32 b) :
    Calls Try.prog 15 #[.int .u32 a, .int .u32 b] w fun r w' => ∃ gp bb, r = .returned (.tuple #[.pointer (some ⟨gp, 0, none⟩), .bool true]) ∧ PairAt w gp bb (beginP a b) w' := by
  have HA := hide ha
  have HB := hide hb
  clear ha hb
  go_enter Try.func15, Try.ntmps15
  go_wp2_with fail
  refine (new_any w).mono ?_
  rintro r w1 ⟨rfl, he1, hx1⟩
  have HE1 := hide he1
  have HX1 := hide hx1
  clear he1 hx1
  go_wp2_with fail
  refine (new_any w1).mono ?_
  rintro r w2 ⟨rfl, he2, hx2⟩
  have HE2 := hide he2
  have HX2 := hide hx2
  have HE1' := hide (HE1.out.ext hx2)
  clear he2 hx2
  obtain ⟨g0, hg0⟩ : ∃ x, w.heap.size = x := ⟨_, rfl⟩
  obtain ⟨g1, hg1⟩ : ∃ x, w1.heap.size = x := ⟨_, rfl⟩
  rw [hg0] at HE1 HE1' ⊢
  rw [hg1] at HE2 ⊢
  have HG0 := hide hg0
  have HG1 := hide hg1
  clear hg0 hg1
  go_upto_region 2 with fail
  have HXA := hide ((Ext.refl w2).alloc (.cells #[.pointer (some ⟨g0, 0, none⟩), .pointer (some ⟨g1, 0, none⟩), .slice none 0 0, .slice none 0 0, .string ⟨#[]⟩, .string ⟨#[]⟩, .string ⟨#[]⟩, .string ⟨#[]⟩] 43))
  have HBX := hide (Blk.new w2 43 #[.pointer (some ⟨g0, 0, none⟩), .pointer (some ⟨g1, 0, none⟩), .slice none 0 0, .slice none 0 0, .string ⟨#[]⟩, .string ⟨#[]⟩, .string ⟨#[]⟩, .string ⟨#[]⟩])
  generalize w2.alloc (.cells #[.pointer (some ⟨g0, 0, none⟩), .pointer (some ⟨g1, 0, none⟩), .slice none 0 0, .slice none 0 0, .string ⟨#[]⟩, .string ⟨#[]⟩, .string ⟨#[]⟩, .string ⟨#[]⟩] 43) = W at *
  obtain ⟨gp, hgp⟩ : ∃ x, w2.heap.size = x := ⟨_, rfl⟩
  rw [hgp] at HBX ⊢
  have HGP := hide hgp
  clear hgp
  have E1 := hide (HE1'.out.ext HXA.out)
  have E2 := hide (HE2.out.ext HXA.out)
  have p0 : W.cell? ⟨gp, 0, none⟩ = some (.pointer (some ⟨g0, 0, none⟩)) := HBX.out.cell 0
  have hlt0 : g0 < g1 := by have := HE1.out.lt; have := HG1.out; omega
  have hlt1 : g1 < gp := by have := HE2.out.lt; have := HGP.out; omega
  go_wp2_with fail
  refine (call_ok W g0 end0 nilV nilV a E1.out rfl HA.out).mono ?_
  rintro r w3 ⟨rfl, he3, hg3⟩
  have HE3 := hide he3
  have HG3 := hide hg3
  have HE23 := hide (E2.out.grown hg3 (fun e => by injection e with e; omega))
  have HBX3 := hide (HBX.out.grown hg3 (fun e => by injection e with e; omega))
  clear he3 hg3 p0
  have p1 : w3.cell? ⟨gp, 1, none⟩ = some (.pointer (some ⟨g1, 0, none⟩)) := HBX3.out.cell 1
  go_wp2_with fail
  refine (listen_ok w3 g1 end0 nilV nilV b HE23.out rfl HB.out).mono ?_
  rintro r w4 ⟨rfl, he4, hg4⟩
  have HE4 := hide he4
  have HG4 := hide hg4
  have HE34 := hide (HE3.out.grown hg4 (fun e => by injection e with e; omega))
  have HBX4 := hide (HBX3.out.grown hg4 (fun e => by injection e with e; omega))
  clear he4 hg4 p1
  go_wp2_with fail
  go_ret2
  refine ⟨gp, fun i => if i = 0 then g0 else g1, rfl, ⟨fun i => if i = 0 then g0 else g1, fun _ => nilV, fun _ => nilV, fun _ => nilV, fun _ => []⟩, ⟨HBX4.out, ?_, ?_, ?_, ?_, ?_, ?_, ?_, ?_, ?_, ?_, ?_⟩, rfl⟩
  · intro i hi
    rcases lt2 hi with rfl | rfl
    · exact ⟨HE34.out, World.ownsRow_nil _ _ _ _, World.ownsRow_nil _ _ _ _, fun k hk => by cases hk⟩
    · exact ⟨HE4.out, World.ownsRow_nil _ _ _ _, World.ownsRow_nil _ _ _ _, fun k hk => by cases hk⟩
  · intro i hi
    rcases lt2 hi with rfl | rfl
    · exact beginE_ok' 2 a HA.out (by omega)
    · exact beginE_ok' 1 b HB.out (by omega)
  · exact fun i _ => World.ownsRow_nil _ _ _ _
  · exact fun _ _ => rfl
  · exact fun _ _ x hx => by cases hx
  · exact fun _ _ x hx => by cases hx
  · intro k h0 h1
    rcases h0 with h0 | h0 | h0
    · rcases h1 with h1 | h1 | h1
      · have e0 : k = g0 := h0
        have e1 : k = g1 := h1
        omega
      · cases h1
      · cases h1
    · cases h0
    · cases h0
  · exact fun k h => by cases h
  · exact fun _ _ x hx => by cases hx
  · have hs1 := HX1.out.size
    have hs2 := HX2.out.size
    have a0 := HG0.out
    have a1 := HG1.out
    have a2 := HGP.out
    refine ⟨by omega, fun i hi k hf => ?_⟩
    rcases hf with hf | hf | hf
    · rcases lt2 hi with rfl | rfl
      · have e0 : k = g0 := hf
        omega
      · have e0 : k = g1 := hf
        omega
    · cases hf
    · cases hf
  · have a0 := HG0.out
    exact ((HX1.out.trans (HX2.out.trans HXA.out)).grown HG3.out (fun k hk => by injection hk with hk; omega)).grown HG4.out (fun k hk => by injection hk with hk; omega)
end Go.Proofs.Ytkfpmljlgpobjaa
