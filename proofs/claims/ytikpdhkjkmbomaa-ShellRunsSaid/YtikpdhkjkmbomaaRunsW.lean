/- The walk of ShellRuns, its first two loops. -/
import Derived.Test.YtikpdhkjkmbomaaPlanW
import Derived.Test.YtikpdhkjkmbomaaRunsPlain
import Derived.Test.YtikpdhkjkmbomaaItoa
import Derived.Test.YtikpdhkjkmbomaaRest
import Derived.Great.BuildSlice
namespace Go.Proofs.Ytikpdhkjkmbomaa
open Go.RowKit
set_option linter.unusedVariables false

def CmdAt (w : World) (x : SimD × Value) : Prop := ∃ g, x.2 = .slice (some ⟨g, 0, none⟩) 2 2 ∧ Blk w g 9 #[.string (str x.1.arg), .string (str [109, 111, 114, 101])]
def CmdsAt (w wr : World) (k : Nat) (v : Value) : Prop := ∃ (A : Option Addr) (c : Nat) (ls : List (SimD × Value)), v = .slice A k c ∧ ls.map (·.1) = simsP k ∧ wr.ownsRow w.heap.size 28 4 (.slice A k c) k (ls.flatMap simC) ∧ (∀ x ∈ ls, CmdAt wr x) ∧ Ext w wr
def CmdRel (w : World) (n : Nat) (v5 v25 : Value) (wr : World) : Prop := ∃ k : Nat, k ≤ n ∧ v25 = .int .i64 k ∧ CmdsAt w wr k v5
def HaveAt (w wr : World) (bs : List Bool) (v : Value) : Prop := ∃ A m c, v = .slice A m c ∧ wr.ownsRow w.heap.size 3 1 (.slice A m c) m (intsV (opFrom 0 bs)) ∧ Ext w wr ∧ m ≤ 4
def HaveRel (w : World) (bs : List Bool) (n : Nat) (v7 v39 : Value) (wr : World) : Prop := ∃ k : Nat, k ≤ n ∧ v39 = .int .i64 k ∧ HaveAt w wr (bs.take k) v7
theorem sim_info : (Try.prog.info? 28).map (fun i => (i.zero, i.size, i.bytes)) = some (some (.agg #[.slice none 0 0, .string ⟨#[]⟩, .string ⟨#[]⟩, .bool false]), 4, 64) := by kernel_rfl
theorem int_infoT : (Try.prog.info? 3).map (fun i => (i.zero, i.size, i.bytes)) = some (some (.int .i64 0), 1, 8) := by kernel_rfl
theorem CmdAt.ext {w w' : World} {x : SimD × Value} (h : CmdAt w x) (hx : Ext w w') : CmdAt w' x := by
  obtain ⟨g, e, hb⟩ := h
  exact ⟨g, e, hb.ext hx⟩
theorem simsP_succ (k : Nat) : simsP (k + 1) = simsP k ++ [simP k] := by
  unfold simsP
  rw [List.range_succ, List.map_append]
  rfl
theorem opFrom_app (l : List Bool) (b : Bool) : ∀ k, opFrom k (l ++ [b]) = opFrom k l ++ (if k + l.length < 4 ∧ b = true then [((k + l.length : Nat) : Int)] else []) := by
  induction l with
  | nil =>
    intro k
    simp only [List.nil_append, opFrom, List.length_nil, Nat.add_zero]
  | cons a l ih =>
    intro k
    have e : k + 1 + l.length = k + (a :: l).length := by simp; omega
    show (if k < 4 ∧ a = true then (k : Int) :: opFrom (k + 1) (l ++ [b]) else opFrom (k + 1) (l ++ [b])) = _
    rw [ih (k + 1), e]
    show _ = (if k < 4 ∧ a = true then (k : Int) :: opFrom (k + 1) l else opFrom (k + 1) l) ++ _
    by_cases h : k < 4 ∧ a = true
    · rw [if_pos h, if_pos h]; rfl
    · rw [if_neg h, if_neg h]
theorem opFrom_take (bs : List Bool) (k : Nat) (hk : k < bs.length) : opFrom 0 (bs.take (k + 1)) = opFrom 0 (bs.take k) ++ (if k < 4 ∧ bs.getD k false = true then [(k : Int)] else []) := by
  rw [List.take_succ_eq_append_getElem hk, opFrom_app]
  simp [List.length_take, Nat.min_eq_left (Nat.le_of_lt hk), List.getD_eq_getElem?_getD, hk]
theorem opFrom_len (l : List Bool) : ∀ k, (opFrom k l).length ≤ 4 - k := by
  induction l with
  | nil => intro k; simp [opFrom]
  | cons b l ih =>
    intro k
    have := ih (k + 1)
    simp only [opFrom]
    split
    · simp; omega
    · omega
theorem opFrom_mem (l : List Bool) : ∀ k, ∀ z ∈ opFrom k l, 0 ≤ z ∧ z < 8 := by
  induction l with
  | nil => intro k z hz; simp [opFrom] at hz
  | cons b l ih =>
    intro k z hz
    simp only [opFrom] at hz
    split at hz
    · rcases List.mem_cons.1 hz with rfl | h
      · omega
      · exact ih _ z h
    · exact ih _ z hz
theorem cmd_sim {wr : World} {base k c : Nat} {A : Option Addr} {ls : List (SimD × Value)} (hl : ls.map (·.1) = simsP k) (ho : wr.ownsRow base 28 4 (.slice A k c) k (ls.flatMap simC)) (hc : ∀ x ∈ ls, CmdAt wr x) : SimsIn wr A k ls := by
  refine ⟨Reads.of_own ho, fun x hxm => ?_⟩
  obtain ⟨g, e2, hb⟩ := hc x hxm
  have hm : x.1 ∈ simsP k := hl ▸ List.mem_map_of_mem hxm
  obtain ⟨j, -, hj⟩ := List.mem_map.1 hm
  refine ⟨⟨some ⟨g, 0, none⟩, 1, 2, [.string (str [109, 111, 114, 101])], e2, by simp [maxLen], hb.reads⟩, ?_⟩
  rw [← hj]
  simp [simP, nameP]
theorem runs_facts (n : Nat) (h1 : 1 ≤ n) (h6 : n ≤ 6) (bs : List Bool) : runOk n (planP n (opFrom 0 bs)) 0 = true ∧ endOk n (planP n (opFrom 0 bs)) = true ∧ 3 * n ≤ (planP n (opFrom 0 bs)).length ∧ (planP n (opFrom 0 bs)).length ≤ 200 ∧ 4 ≤ freeN (haveH (opFrom 0 bs)) := by
  have h := runs_law n h1 h6 bs
  unfold runsOk at h
  simp only [Bool.and_eq_true, decide_eq_true_eq] at h
  exact ⟨h.1, h.2.1, h.2.2.1, h.2.2.2.1, h.2.2.2.2⟩
theorem runOk_at {N : Nat} {L : List StepD} {i : Nat} {s : StepD} (hs : L[i]? = some s) (k : Nat) :
    runOk N (L.drop i) k = if s.call.num = 3 then (decide (s.who = (k : Int) + 1) && (decide (k < N) && (decide (s.call.name = nameP k) && (if k + 1 = N then (L.drop (i + 1)).all (fun t => decide (t.who = 0)) else runOk N (L.drop (i + 1)) (k + 1))))) else runOk N (L.drop (i + 1)) k := by
  obtain ⟨hlt, rfl⟩ := List.getElem?_eq_some_iff.1 hs
  rw [List.drop_eq_getElem_cons hlt]
  rfl
theorem step_cells {w : World} {B n g : Nat} {L : List StepD} (h : Reads w B 8 (some ⟨g, 0, none⟩) n (L.flatMap stepC)) {e o : Nat} {s : StepD} (hs : L[e]? = some s) (ho : o = e * 8) (hn : 0 < n) :
    w.cell? ⟨g, o, none⟩ = some (.int .i64 s.who) ∧ w.cell? ⟨g, o + 1, none⟩ = some (.int .i64 s.call.num) ∧ w.cell? ⟨g, o + 2, none⟩ = some (.int .i64 s.call.a) ∧ w.cell? ⟨g, o + 3, none⟩ = some (.int .i64 s.call.b) ∧ w.cell? ⟨g, o + 4, none⟩ = some (.int .i64 s.call.c) ∧ w.cell? ⟨g, o + 5, none⟩ = some (.string (str s.call.name)) ∧ w.cell? ⟨g, o + 6, none⟩ = some (.string ⟨#[]⟩) ∧ w.cell? ⟨g, o + 7, none⟩ = some (.slice none 0 0) := by
  obtain ⟨hlt, rfl⟩ := List.getElem?_eq_some_iff.1 hs
  have hj : ∀ (j : Nat) (hj : j < 8) (u : Value), (stepC L[e])[j]? = some u → w.cell? ⟨g, o + j, none⟩ = some u := fun j hj u hu => by
    have := Reads.elem stepC_len h e hlt hn j hj hu
    rwa [show 0 + e * 8 + j = o + j by omega] at this
  exact ⟨hj 0 (by omega) _ rfl, hj 1 (by omega) _ rfl, hj 2 (by omega) _ rfl, hj 3 (by omega) _ rfl, hj 4 (by omega) _ rfl, hj 5 (by omega) _ rfl, hj 6 (by omega) _ rfl, hj 7 (by omega) _ rfl⟩
theorem all_at {p : StepD → Bool} {L : List StepD} {i t : Nat} {s : StepD} (h : (L.drop i).all p = true) (hs : L[i + t]? = some s) : p s = true := by
  refine List.all_eq_true.1 h s ?_
  rw [← List.getElem?_drop] at hs
  exact List.mem_of_getElem? hs
def InRel (w2 : World) (n : Nat) (v : Value) (wr : World) : Prop := ∃ t : Nat, t ≤ n ∧ v = .int .i64 t ∧ Ext w2 wr
def StepsRel (w3 : World) (N : Nat) (L : List StepD) (v12 v71 : Value) (wr : World) : Prop := ∃ i k : Nat, i ≤ L.length ∧ v71 = .int .i64 i ∧ v12 = .int .i64 k ∧ runOk N (L.drop i) k = true ∧ Ext w3 wr
set_option maxHeartbeats 8000000 in
set_option maxRecDepth 100000 in
theorem runs_walk (z : Int) (hz : -9223372036854775808 ≤ z ∧ z ≤ 9223372036854775807) (A : Option Addr) (n c : Nat) (bs : List Bool) (w : World) (hb : Reads w w.heap.size 1 A n (boolsV bs)) (hn : n ≤ maxLen) :
    Calls Try.prog 3 #[.int .i64 z, .slice A n c] w fun r w' => r = .returned (.bool true) ∧ Ext w w' := by
  obtain ⟨i0, hi0, hz0, hz1, hz2⟩ := info_parts sim_info
  obtain ⟨i1, hi1, hz3, hz4, hz5⟩ := info_parts int_infoT
  have HB := hide hb
  have hlb : bs.length = n := by have := hb.1; simpa [boolsV] using this
  have HLB := hide hlb
  unfold maxLen at hn
  clear hb hlb
  go_enter Try.func3, Try.ntmps3
  go_wp2_with fail
  refine (rest_any z 6 w hz.1 hz.2 (by omega) (by omega)).mono ?_
  rintro r w0 ⟨rfl, rfl⟩
  have hr1 := restZ_lo z 6 (by omega)
  have hr2 := restZ_hi z 6 (by omega)
  obtain ⟨p, hp⟩ : ∃ p : Nat, restZ z 6 = (p : Int) := ⟨(restZ z 6).toNat, (Int.toNat_of_nonneg hr1).symm⟩
  rw [hp] at hr1 hr2 ⊢
  clear hp hz
  obtain ⟨N, hN⟩ : ∃ N, p + 1 = N := ⟨_, rfl⟩
  have hN1 : 1 ≤ N := by omega
  have hN6 : N ≤ 6 := by omega
  have hw : IntKind.i64.wrap (1 + (p : Int)) = (N : Int) := by rw [IntKind.wrap_i64]; omega
  have hw2 : wrap64 (1 + (p : Int)) = (N : Int) := by unfold wrap64; omega
  go_wp2_with fail
  try rw [hw]
  try rw [hw2]
  clear hw hw2 hN hr1 hr2
  go_loopw [5, 25] (CmdRel w N) (fun _ i _ => N - (intOf i).toNat)
  case atStart => exact ⟨0, Nat.zero_le _, rfl, none, 0, [], rfl, rfl, World.ownsRow_nil _ _ _ _, (fun x hx => by cases hx), Ext.refl w⟩
  case round =>
    obtain ⟨k, hk, rfl, A1, c1, ls, rfl, hls, ho, hc, hx⟩ := hrel
    have HLS := hide hls
    have HO := hide ho
    have HC := hide hc
    have HX := hide hx
    clear hls ho hc hx
    by_cases hlt : k < N
    · go_wp2_with fail
      refine (itoa_digit k (by omega) wr).mono ?_
      rintro r w2 ⟨rfl, hx2⟩
      have hap : (⟨#[112]⟩ : ByteArray) ++ str (digit k) = str (nameP k) := str_append [112] (digit k)
      have HX2 := hide hx2
      have hsz := HX.out.size
      have hsz2 := hx2.size
      have HO2 := hide (hx2.own HO.out)
      clear hx2
      have hrs : Reads ((w2.alloc (.cells #[.string (str (nameP k)), .string ⟨#[109, 111, 114, 101]⟩] 9)).alloc (.cells #[.slice (some ⟨w2.heap.size, 0, none⟩) 2 2, .string ⟨#[]⟩, .string ⟨#[]⟩, .bool false] 28)) ((w2.alloc (.cells #[.string (str (nameP k)), .string ⟨#[109, 111, 114, 101]⟩] 9)).alloc (.cells #[.slice (some ⟨w2.heap.size, 0, none⟩) 2 2, .string ⟨#[]⟩, .string ⟨#[]⟩, .bool false] 28)).heap.size 4 (some ⟨w2.heap.size + 1, 0, none⟩) 1 (simC (simP k, .slice (some ⟨w2.heap.size, 0, none⟩) 2 2)) := by
        have h := Blk.rowsF (Blk.new (w2.alloc (.cells #[.string (str (nameP k)), .string ⟨#[109, 111, 114, 101]⟩] 9)) 28 #[.slice (some ⟨w2.heap.size, 0, none⟩) 2 2, .string ⟨#[]⟩, .string ⟨#[]⟩, .bool false]) 1 4 rfl
        rw [show (w2.alloc (.cells #[.string (str (nameP k)), .string ⟨#[109, 111, 114, 101]⟩] 9)).heap.size = w2.heap.size + 1 by simp] at h
        exact h
      have HRS := hide hrs
      have HB2 := hide ((Blk.new w2 9 #[.string (str (nameP k)), .string ⟨#[109, 111, 114, 101]⟩]).alloc (.cells #[.slice (some ⟨w2.heap.size, 0, none⟩) 2 2, .string ⟨#[]⟩, .string ⟨#[]⟩, .bool false] 28))
      have HXS := hide (((Ext.refl w2).alloc (.cells #[.string (str (nameP k)), .string ⟨#[109, 111, 114, 101]⟩] 9)).alloc (.cells #[.slice (some ⟨w2.heap.size, 0, none⟩) 2 2, .string ⟨#[]⟩, .string ⟨#[]⟩, .bool false] 28))
      clear hrs
      go_wp2_with (at_builtin; refine wpList_append_any _ rfl (.tmp 28) (.tmp 34) _ rfl w.heap.size 28 i0 _ 4 64 Try.underlying24 hi0 hz0 hz1 hz2 rfl (by omega) _ k (ls.flatMap simC) rfl (HXS.out.own HO2.out) _ _ 1 1 (simC (simP k, .slice (some ⟨w2.heap.size, 0, none⟩) 2 2)) rfl HRS.out (by simp [simC, simP, Value.oneCell']) (by simp only [maxLen]; omega) (by omega) (by simp; omega) ?_; intro A3 c3 w3 ho3 hg3 ha3)
      have HREL := hide (show CmdsAt w w3 (k + 1) (.slice A3 (k + 1) c3) from by
        have hne : ∀ g t cs, Blk ((w2.alloc (.cells #[.string (str (nameP k)), .string ⟨#[109, 111, 114, 101]⟩] 9)).alloc (.cells #[.slice (some ⟨w2.heap.size, 0, none⟩) 2 2, .string ⟨#[]⟩, .string ⟨#[]⟩, .bool false] 28)) g t cs → t ≠ 28 → Blk w3 g t cs := fun g t cs hb ht => hb.grown hg3 (Ne.symm (own_blk_ne (HXS.out.own HO2.out) hb (Ne.symm ht)))
        refine ⟨A3, c3, ls ++ [(simP k, .slice (some ⟨w2.heap.size, 0, none⟩) 2 2)], rfl, ?_, ?_, ?_, ?_⟩
        · rw [List.map_append, HLS.out, simsP_succ]; rfl
        · rw [List.flatMap_append]; simpa using ho3
        · intro x hxm
          rcases List.mem_append.1 hxm with h1 | h1
          · obtain ⟨g, e, hb⟩ := ((HC.out x h1).ext HX2.out).ext HXS.out
            exact ⟨g, e, hne g _ _ hb (by decide)⟩
          · obtain rfl := List.mem_singleton.1 h1
            exact ⟨w2.heap.size, rfl, hne _ _ _ HB2.out (by decide)⟩
        · exact ((HX.out.trans HX2.out).trans HXS.out).grown hg3 (fun g hg => (HO.out.lt g hg).1))
      clear ho3 hg3 ha3 HO HO2 HC HX HX2 HRS HB2 HXS HLS hap
      go_wp2_with fail
      go_roundw
      case rel => exact ⟨k + 1, by omega, by go_num, HREL.out⟩
      case measure => simp [intOf]; omega
    · obtain rfl : k = N := by omega
      have HSI := hide (cmd_sim HLS.out HO.out HC.out)
      have HCC := HC
      have HWX := HX
      clear HO HC HX
      obtain ⟨w1, rfl⟩ : ∃ x, x = wr := ⟨_, rfl⟩
      go_wp2_with fail
      go_loopw [7, 39] (HaveRel w1 bs n) (fun _ i _ => n - (intOf i).toNat)
      case atStart => exact ⟨0, Nat.zero_le _, rfl, none, 0, 0, rfl, World.ownsRow_nil _ _ _ _, Ext.refl _, by omega⟩
      case round =>
        obtain ⟨q, hq, rfl, A2, m2, c2, rfl, ho, hx, hm4⟩ := hrel
        have HO := hide ho
        have HX := hide hx
        clear ho hx
        by_cases hlt : q < n
        · have hql : q < bs.length := by rw [HLB.out]; exact hlt
          have HT := hide (opFrom_take bs q hql)
          have hln := opFrom_len (bs.take (q + 1)) 0
          obtain ⟨b, off, rfl, -, -⟩ := HB.out.at1 (by omega)
          have hxw : Ext w wr := HWX.out.trans HX.out
          have g1 : wr.cell? ⟨b, off + q, none⟩ = some (.bool (bs.getD q false)) := hxw.cell (cells_bools HB.out q hlt)
          have hml : (opFrom 0 (bs.take q)).length = m2 := by have := HO.out.1; rw [intsV_length] at this; omega
          have HML := hide hml
          have hsz := HX.out.size
          generalize bs.getD q false = bq at *
          clear hxw hql hml
          by_cases h4 : q < 4
          · cases bq
            · rw [if_neg (fun e => by cases e.2)] at HT
              rw [List.append_nil] at HT
              clear hln
              go_wp2_with fail
              go_roundw
              case rel => exact ⟨q + 1, by omega, by go_num, A2, m2, c2, rfl, by rw [HT.out]; exact HO.out, HX.out, hm4⟩
              case measure => simp [intOf]; omega
            · rw [if_pos ⟨h4, rfl⟩] at HT
              rw [HT.out, List.length_append, HML.out] at hln
              have hm3 : m2 + 1 ≤ 4 := by simpa using hln
              clear hln
              have HBI := hide (Blk.new wr 3 #[.int .i64 (q : Int)]).reads
              go_wp2_with (at_builtin; refine wpList_append_any _ rfl (.tmp 49) (.tmp 51) _ rfl w1.heap.size 3 i1 _ 1 8 Try.underlying29 hi1 hz3 hz4 hz5 rfl (by omega) _ m2 (intsV (opFrom 0 (bs.take q))) rfl (HO.out.alloc _) _ _ 1 1 [.int .i64 (q : Int)] rfl HBI.out (by simp [Value.oneCell']) (by simp only [maxLen]; omega) (by omega) (by simp; omega) ?_; intro A3 c3 w3 ho3 hg3 ha3)
              have HREL := hide (show HaveAt w1 w3 (bs.take (q + 1)) (.slice A3 (m2 + 1) c3) from by
                refine ⟨A3, m2 + 1, c3, rfl, ?_, ?_, hm3⟩
                · rw [HT.out, intsV_append]
                  exact ho3
                · exact (HX.out.trans ((Ext.refl wr).alloc _)).grown hg3 (fun g hg => (HO.out.lt g hg).1))
              clear ho3 hg3 ha3
              go_wp2_with fail
              go_roundw
              case rel => exact ⟨q + 1, by omega, by go_num, HREL.out⟩
              case measure => simp [intOf]; omega
          · rw [if_neg (fun e => h4 e.1)] at HT
            rw [List.append_nil] at HT
            clear hln
            go_wp2_with fail
            go_roundw
            case rel => exact ⟨q + 1, by omega, by go_num, A2, m2, c2, rfl, by rw [HT.out]; exact HO.out, HX.out, hm4⟩
            case measure => simp [intOf]; omega
        · obtain rfl : q = n := by omega
          have hbs : bs.take q = bs := List.take_of_length_le (by rw [HLB.out]; exact Nat.le_refl _)
          rw [hbs] at HO
          clear hbs hlt
          obtain ⟨w2, rfl⟩ : ∃ x, x = wr := ⟨_, rfl⟩
          have HXS1 := HX
          have HF := hide (runs_facts k hN1 hN6 bs)
          have HPL := hide (plan_any w2 A1 A2 k c1 m2 c2 ls (opFrom 0 bs) (HSI.out.ext HX.out) ⟨hN1, hN6⟩ (Reads.of_own HO.out) (by simp only [maxLen]; omega) (opFrom_mem bs 0))
          rw [HLS.out] at HPL
          go_wp2_with fail
          refine HPL.out.mono ?_
          rintro r w3 (⟨-, A5, m5, c5, rfl, hm5, ho5, hx5⟩ | ⟨hbad, -⟩)
          · have hL : (planM (simsP k) (opFrom 0 bs)).steps = planP k (opFrom 0 bs) := rfl
            rw [hL] at hm5 ho5
            have hF := HF.out
            generalize planP k (opFrom 0 bs) = L at *
            obtain ⟨f1, f2, f3, f4, -⟩ := hF
            have HF1 := hide f1
            have HF2 := hide f2
            rw [← hm5] at f3 f4
            have HM5 := hide hm5
            have HO5 := hide ho5
            have HX5 := hide hx5
            clear hm5 ho5 hx5 f1 f2 hL HPL HF HB HLB
            obtain ⟨g5, rfl, -, -, -, -⟩ := own_addr HO5.out (by omega)
            go_upto_block 4 with fail
            go_cut [12] (fun s12 wx => s12 = .int .i64 k ∧ Ext w3 wx)
            case first =>
              go_wp2_with fail
              go_loopw [12, 71] (StepsRel w3 k L) (fun _ i _ => m5 - (intOf i).toNat)
              case atStart => exact ⟨0, 0, Nat.zero_le _, rfl, rfl, HF1.out, Ext.refl _⟩
              case round =>
                obtain ⟨i, j, hi, rfl, rfl, hrk, hx⟩ := hrel
                have HRK := hide hrk
                have HX := hide hx
                clear hrk hx
                rw [← HM5.out] at hi
                by_cases hlt : i < m5
                · have hiL : i < L.length := by rw [← HM5.out]; exact hlt
                  obtain ⟨s, hs⟩ : ∃ s, L[i] = s := ⟨_, rfl⟩
                  have hsg : L[i]? = some s := by rw [List.getElem?_eq_getElem hiL, hs]
                  have hra := runOk_at (N := k) hsg j
                  rw [HRK.out] at hra
                  have hrd := HX.out.reads (Reads.of_own HO5.out) (Nat.le_refl _)
                  have r0 := Reads.elem stepC_len hrd i hiL (by omega) 0 (by omega) (u := .int .i64 L[i].who) rfl
                  have r1 := Reads.elem stepC_len hrd i hiL (by omega) 1 (by omega) (u := .int .i64 L[i].call.num) rfl
                  have r2 := Reads.elem stepC_len hrd i hiL (by omega) 2 (by omega) (u := .int .i64 L[i].call.a) rfl
                  have r3 := Reads.elem stepC_len hrd i hiL (by omega) 3 (by omega) (u := .int .i64 L[i].call.b) rfl
                  have r4 := Reads.elem stepC_len hrd i hiL (by omega) 4 (by omega) (u := .int .i64 L[i].call.c) rfl
                  have r5 := Reads.elem stepC_len hrd i hiL (by omega) 5 (by omega) (u := .string (str L[i].call.name)) rfl
                  have r6 := Reads.elem stepC_len hrd i hiL (by omega) 6 (by omega) (u := .string ⟨#[]⟩) rfl
                  have r7 := Reads.elem stepC_len hrd i hiL (by omega) 7 (by omega) (u := .slice none 0 0) rfl
                  rw [hs] at r0 r1 r2 r3 r4 r5
                  obtain ⟨who, ⟨num, ca, cb, cc, name⟩⟩ := s
                  dsimp only at r0 r1 r2 r3 r4 r5 hra
                  have z0 : wr.cell? ⟨g5, i * 8, none⟩ = some (.int .i64 who) := by simpa using r0
                  have z1 : wr.cell? ⟨g5, i * 8 + 1, none⟩ = some (.int .i64 num) := by simpa using r1
                  have z2 : wr.cell? ⟨g5, i * 8 + 2, none⟩ = some (.int .i64 ca) := by simpa using r2
                  have z3 : wr.cell? ⟨g5, i * 8 + 3, none⟩ = some (.int .i64 cb) := by simpa using r3
                  have z4 : wr.cell? ⟨g5, i * 8 + 4, none⟩ = some (.int .i64 cc) := by simpa using r4
                  have z5 : wr.cell? ⟨g5, i * 8 + 5, none⟩ = some (.string (str name)) := by simpa using r5
                  have z6 : wr.cell? ⟨g5, i * 8 + 6, none⟩ = some (.string ⟨#[]⟩) := by simpa using r6
                  have z7 : wr.cell? ⟨g5, i * 8 + 7, none⟩ = some (.slice none 0 0) := by simpa using r7
                  have HXA := hide (fun o => HX.out.trans ((Ext.refl wr).alloc o))
                  clear r0 r1 r2 r3 r4 r5 r6 r7 hrd hs hsg hiL
                  by_cases hnum : num = 3
                  · subst hnum
                    rw [if_pos rfl] at hra
                    replace hra := hra.symm
                    simp only [Bool.and_eq_true, decide_eq_true_eq] at hra
                    obtain ⟨rfl, hjk, rfl, hrest⟩ := hra
                    have HREST := hide hrest
                    have HJK := hide hjk
                    obtain ⟨S, hS⟩ : ∃ S, str (nameP j) = S := ⟨_, rfl⟩
                    rw [hS] at z5
                    have HS := hide hS
                    clear hrest hS
                    have hjl : j < ls.length := by
                      have h := congrArg List.length HLS.out
                      simp only [List.length_map, simsP, List.length_range] at h
                      omega
                    have hsj : ls[j].1 = simP j := by
                      have h := congrArg (fun l => l[j]?) HLS.out
                      simp only [simsP, List.getElem?_map, List.getElem?_eq_getElem hjl, List.getElem?_range hjk, Option.map_some, Option.some.injEq] at h
                      exact h
                    obtain ⟨ga, hva, hba⟩ := HCC.out _ (List.getElem_mem hjl)
                    rw [hsj] at hba
                    obtain ⟨bl, off, rfl, -⟩ := HSI.out.row.addr (by omega) (by omega)
                    have hx1 : Ext w1 wr := (HXS1.out.trans HX5.out).trans HX.out
                    have hr1 := hx1.reads HSI.out.row (Nat.le_refl _)
                    have y0 := Reads.elem simC_len hr1 j hjl (by omega) 0 (by omega) (u := ls[j].2) rfl
                    rw [hva] at y0
                    have y1 : wr.cell? ⟨bl, off + j * 4, none⟩ = some (.slice (some ⟨ga, 0, none⟩) 2 2) := by simpa using y0
                    have y2 : wr.cell? ⟨ga, 0, none⟩ = some (.string S) := by rw [← HS.out]; exact hx1.cell (hba.cell 0)
                    clear hsj hva hba hx1 hr1 y0 hjl
                    go_upto_region 23 with fail
                    have HXB := hide ((Ext.refl wr).alloc (.cells #[.int .i64 ((j : Int) + 1), .int .i64 3, .int .i64 ca, .int .i64 cb, .int .i64 cc, .string S, .string ⟨#[]⟩, .slice none 0 0] 38))
                    have hbt := Blk.new wr 38 #[.int .i64 ((j : Int) + 1), .int .i64 3, .int .i64 ca, .int .i64 cb, .int .i64 cc, .string S, .string ⟨#[]⟩, .slice none 0 0]
                    generalize wr.alloc (.cells #[.int .i64 ((j : Int) + 1), .int .i64 3, .int .i64 ca, .int .i64 cb, .int .i64 cc, .string S, .string ⟨#[]⟩, .slice none 0 0] 38) = W at *
                    obtain ⟨gt, hgt⟩ : ∃ x, wr.heap.size = x := ⟨_, rfl⟩
                    rw [hgt] at hbt ⊢
                    have x0 : W.cell? ⟨gt, 0, none⟩ = some (.int .i64 ((j : Int) + 1)) := hbt.cell 0
                    have x5 : W.cell? ⟨gt, 5, none⟩ = some (.string S) := hbt.cell 5
                    have x6 := HXB.out.cell y1
                    have x7 := HXB.out.cell y2
                    clear hgt hbt y1 y2 z0 z1 z2 z3 z4 z5 z6 z7
                    go_quiet (fail)
                    have HXN := hide ((HX.out.trans HXB.out).drewN nq)
                    generalize W.drewN nq = W2 at *
                    clear x0 x5 x6 x7
                    by_cases hjk1 : j + 1 = k
                    · by_cases hcc : i + 1 = c5
                      · subst hcc
                        obtain rfl : i + 1 = m5 := by have := (own_le HO5.out).1; omega
                        go_wp2_with fail
                        go_loopw [108] (InRel W2 0) (fun i _ => 0 - (intOf i).toNat)
                        case atStart => exact ⟨0, Nat.zero_le _, rfl, Ext.refl _⟩
                        case round =>
                          obtain ⟨t, ht, rfl, hx⟩ := hrel
                          obtain rfl : t = 0 := by omega
                          have HXZ := hide (HXN.out.trans hx)
                          clear hx
                          go_wp2_with fail
                          go_meet
                          exact ⟨by rw [← hjk1]; go_num, HXZ.out⟩
                      · have hia : (L.drop (i + 1)).all (fun t => decide (t.who = 0)) = true := by have h := HREST.out; rw [if_pos hjk1] at h; exact h
                        have HIA := hide hia
                        clear hia HREST
                        go_wp2_with fail
                        go_loopw [108] (InRel W2 (m5 - (i + 1))) (fun v _ => (m5 - (i + 1)) - (intOf v).toNat)
                        case atStart => exact ⟨0, Nat.zero_le _, rfl, Ext.refl _⟩
                        case round =>
                          obtain ⟨t, ht, rfl, hx⟩ := hrel
                          have HXZ := hide (HXN.out.trans hx)
                          have HXI := hide hx
                          clear hx
                          by_cases htl : t < m5 - (i + 1)
                          · have htL : i + 1 + t < L.length := by rw [← HM5.out]; omega
                            have hsg : L[i + 1 + t]? = some L[i + 1 + t] := List.getElem?_eq_getElem htL
                            obtain ⟨d0, d1, d2, d3, d4, d5, d6, d7⟩ := step_cells (HXZ.out.reads (Reads.of_own HO5.out) (Nat.le_refl _)) hsg (o := (i + 1) * 8 + t * 8) (by omega) (by omega)
                            have hwho := all_at HIA.out hsg
                            simp only [decide_eq_true_eq] at hwho
                            rw [hwho] at d0
                            have HXQ := hide (fun o => HXI.out.trans ((Ext.refl wr).alloc o))
                            generalize L[i + 1 + t] = s9 at *
                            clear hsg htL hwho
                            go_wp2_with fail
                            go_roundw
                            case rel => exact ⟨t + 1, by omega, by go_num, HXQ.out _⟩
                            case measure => simp [intOf]; omega
                          · obtain rfl : t = m5 - (i + 1) := by omega
                            go_wp2_with fail
                            go_meet
                            exact ⟨by rw [← hjk1]; go_num, HXZ.out⟩
                    · have HRN := hide (show runOk k (L.drop (i + 1)) (j + 1) = true by have h := HREST.out; rw [if_neg hjk1] at h; exact h)
                      clear HREST
                      go_wp2_with fail
                      go_roundw
                      case rel => exact ⟨i + 1, j + 1, by rw [← HM5.out]; omega, by go_num, by go_num, HRN.out, HXN.out⟩
                      case measure => simp [intOf]; omega
                  · rw [if_neg hnum] at hra
                    have HRA := hide hra.symm
                    clear hra
                    go_wp2_with fail
                    go_roundw
                    case rel => exact ⟨i + 1, j, by rw [← HM5.out]; omega, by go_num, rfl, HRA.out, HXA.out _⟩
                    case measure => simp [intOf]; omega
                · obtain rfl : i = m5 := by omega
                  have hr := HRK.out
                  rw [List.drop_eq_nil_of_le (by rw [← HM5.out]; exact Nat.le_refl _)] at hr
                  have hjk : j = k := by simpa [runOk] using hr
                  subst hjk
                  clear hr
                  go_wp2_with fail
                  go_meet
                  exact ⟨rfl, HX.out⟩
            case rest =>
            obtain ⟨rfl, hxc⟩ := hcut
            have HXC := hide hxc
            clear hxc
            obtain ⟨z9, hz9⟩ : ∃ z9, m5 - k = z9 := ⟨_, rfl⟩
            have hsub : (m5 : Int) - (k : Int) = (z9 : Int) := by omega
            have hle5 := (own_le HO5.out).1
            have hcz : ¬ z9 = c5 := by omega
            have hzm : z9 < m5 := by omega
            have HEND := hide (show (L.drop z9).all (fun t => decide (t.who = 0) && decide (t.call.num = 4)) = true from by
              have h := HF2.out
              unfold endOk at h
              rw [← HM5.out, hz9] at h
              exact h)
            clear HF1 HF2
            go_wp2_with fail
            go_loopw [124] (InRel wc (m5 - z9)) (fun v _ => (m5 - z9) - (intOf v).toNat)
            case atStart => exact ⟨0, Nat.zero_le _, rfl, Ext.refl _⟩
            case round =>
              obtain ⟨t, ht, rfl, hx⟩ := hrel
              have HXZ := hide (HXC.out.trans hx)
              have HXI := hide hx
              clear hx
              by_cases htl : t < m5 - z9
              · have htL : z9 + t < L.length := by rw [← HM5.out]; omega
                have hsg : L[z9 + t]? = some L[z9 + t] := List.getElem?_eq_getElem htL
                obtain ⟨d0, d1, d2, d3, d4, d5, d6, d7⟩ := step_cells (HXZ.out.reads (Reads.of_own HO5.out) (Nat.le_refl _)) hsg (o := z9 * 8 + t * 8) (by omega) (by omega)
                have hwho := all_at HEND.out hsg
                simp only [Bool.and_eq_true, decide_eq_true_eq] at hwho
                rw [hwho.1] at d0
                rw [hwho.2] at d1
                have HXQ := hide (fun o => HXI.out.trans ((Ext.refl wr).alloc o))
                generalize L[z9 + t] = s9 at *
                clear hsg htL hwho
                go_wp2_with fail
                go_roundw
                case rel => exact ⟨t + 1, by omega, by go_num, HXQ.out _⟩
                case measure => simp [intOf]; omega
              · obtain rfl : t = m5 - z9 := by omega
                have HXALL := hide (((HWX.out.trans HXS1.out).trans HX5.out).trans HXZ.out)
                have HXW1 := hide ((HXS1.out.trans HX5.out).trans HXZ.out)
                have hrn := (Blk.new wr 3 #[.int .i64 0, .int .i64 1, .int .i64 2, .int .i64 3, .int .i64 4]).reads
                have HXN := hide ((Ext.refl wr).alloc (.cells #[.int .i64 0, .int .i64 1, .int .i64 2, .int .i64 3, .int .i64 4] 3))
                have HP2 := hide (plan_any (wr.alloc (.cells #[.int .i64 0, .int .i64 1, .int .i64 2, .int .i64 3, .int .i64 4] 3)) A1 (some ⟨wr.heap.size, 0, none⟩) k c1 5 5 ls [0, 1, 2, 3, 4] ((HSI.out.ext HXW1.out).ext HXN.out) ⟨hN1, hN6⟩ hrn (by simp [maxLen]) (by intro z hz; simp at hz; omega))
                clear hrn
                go_wp2_with fail
                refine HP2.out.mono ?_
                rintro r w9 (⟨hbad, -⟩ | ⟨-, rfl, hx9⟩)
                · exact absurd hbad (by decide)
                · have HX9 := hide ((HXALL.out.trans HXN.out).trans hx9)
                  clear hx9 HP2
                  go_wp2_with fail
                  go_ret
                  exact ⟨rfl, HX9.out⟩
          · exact absurd HF.out.2.2.2.2 (by omega)
end Go.Proofs.Ytikpdhkjkmbomaa
