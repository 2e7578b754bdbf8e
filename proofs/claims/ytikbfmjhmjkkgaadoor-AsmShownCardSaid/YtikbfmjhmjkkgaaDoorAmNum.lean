/- What the library's variables hold; the contracts of strconv.Itoa, strconv.Atoi and asm.number. -/
import Derived.Test.YtikbfmjhmjkkgaaDoorAmCode2
import Derived.Test.YtikbfmjhmjkkgaaDoorShelf
namespace Go.Proofs.YtikbfmjhmjkkgaaDoor
open Go.RowKit
set_option linter.unusedVariables false

theorem var_ext {w w' : World} (hx : Ext w w') (name : String) {x : Array Value} (h : w.var? Tryd.prog name = some x) : w'.var? Tryd.prog name = some x := by
  unfold World.var? at *
  cases hg : Tryd.prog.globalNamed name with
  | none => rw [hg] at h; cases h
  | some g =>
    rw [hg] at h
    simp only [Option.bind_some] at h ⊢
    cases hb : w.heap[g]? with
    | none => rw [hb] at h; cases h
    | some o =>
      rw [Below.block hx g (Array.getElem?_eq_some_iff.1 hb).1]
      exact h
/-- The library's variables are as its text lays them. -/
structure LibOk (w : World) : Prop where
  pow : Lib.TabIs Tryd.prog w "internal/strconv.uint64pow10" .u64 Lib.pow10Tab
  asc : Lib.TabIs Tryd.prog w "strings.asciiSpace" .u8 Lib.asciiSpaceTab
  syn : ∃ tp p, w.var? Tryd.prog "strconv.ErrSyntax" = some #[.iface tp p]
  rng : ∃ tp p, w.var? Tryd.prog "strconv.ErrRange" = some #[.iface tp p]
  max : ∃ m : Int, w.cell? ⟨2, 0, none⟩ = some (.int .i64 m)
theorem LibOk.ext {w w' : World} (h : LibOk w) (hx : Ext w w') : LibOk w' := by
  obtain ⟨t1, p1, h1⟩ := h.syn
  obtain ⟨t2, p2, h2⟩ := h.rng
  obtain ⟨m, hm⟩ := h.max
  exact ⟨var_ext hx _ h.pow, var_ext hx _ h.asc, ⟨t1, p1, var_ext hx _ h1⟩, ⟨t2, p2, var_ext hx _ h2⟩, ⟨m, hx.cell hm⟩⟩
theorem grow_ext (w : World) (k : Nat) (os : Array Obj) : Ext w (Go.Sort.grow (w.drewN k) os) :=
  Ext.of ⟨rfl, rfl, rfl, by show w.heap.size ≤ (w.heap ++ os).size; simp, fun j hj => by show (w.heap ++ os)[j]? = w.heap[j]?; exact Array.getElem?_append_left hj⟩
theorem itoa_lib (n : Int) (h0 : -9223372036854775808 ≤ n) (h1 : n ≤ 9223372036854775807) (w : World) (h : LibOk w) :
    Calls Tryd.prog 22 #[.int .i64 n] w fun e w' => e = .returned (.string (str (Lib.itoa n))) ∧ Ext w w' :=
  (Tryd.strconv_Itoa n h0 h1 w h.pow).mono fun e W' ⟨h1, k, os, h2⟩ => ⟨h1, h2 ▸ grow_ext _ _ _⟩
/-- How a parse ends in memory. -/
def AtoiOut (r : Lib.NumEnd Int) (e : Ending) : Prop :=
  match r with
  | .ok v => e = .returned (.tuple #[.int .i64 v, .nilIface])
  | _ => ∃ n t b, e = .returned (.tuple #[.int .i64 n, .iface t (.pointer (some ⟨b, 0, none⟩))])
theorem atoi_lib (s : Bs) (hl : s.length ≤ 1000000) (w : World) (h : LibOk w) :
    Calls Tryd.prog 64 #[.string (str s)] w fun e w' => AtoiOut (Lib.atoiAll s) e ∧ Ext w w' := by
  have hs : (str s).data.toList = s := str_list s
  have hz : (str s).size ≤ 1000000 := by rw [str_size]; exact hl
  cases hr : Lib.atoiAll s with
  | ok v =>
    refine (Tryd.strconv_Atoi_ok (str s) (by omega) v (by rw [hs]; exact hr) w).mono fun e w' ⟨h1, h2⟩ => ⟨h1, ?_⟩
    rcases h2 with rfl | ⟨t, rfl⟩
    · exact Ext.refl _
    · exact Lib.bytesWorld_below _ _ _
  | «syntax» =>
    obtain ⟨tp, p, hv⟩ := h.syn
    exact (Tryd.strconv_Atoi_syntax_var (str s) (by omega) (by rw [hs]; exact hr) tp p w hv).mono fun e w' ⟨N, h1, _, _, h2⟩ => ⟨⟨_, _, _, h1⟩, h2⟩
  | range =>
    obtain ⟨tp, p, hv⟩ := h.rng
    exact (Tryd.strconv_Atoi_range_var (str s) (by omega) (by rw [hs]; exact hr) tp p w hv).mono fun e w' ⟨N, h1, _, _, h2⟩ => ⟨⟨_, _, _, h1⟩, h2⟩
theorem atoi_bounds {s : Bs} {v : Int} (h : Lib.atoiAll s = .ok v) : -9223372036854775808 ≤ v ∧ v ≤ 9223372036854775807 := Lib.atoiAll_bounds h
/-- What number answers. -/
def NumOut (r : Option Int) (e : Ending) : Prop := ∃ n : Int, e = .returned (.tuple #[.int .i64 n, .bool r.isSome]) ∧ ∀ v, r = some v → n = v
set_option maxHeartbeats 4000000 in
set_option maxRecDepth 100000 in
theorem num_any (s : Bs) (hl : s.length ≤ 1000000) (lo hi : Int) (w : World) (h : LibOk w) :
    Calls Tryd.prog 51 #[.string (str s), .int .i64 lo, .int .i64 hi] w fun e w' => NumOut (numB s lo hi) e ∧ Ext w w' := by
  have HA := hide (atoi_lib s hl w h)
  have HL := hide h
  have HN := hide (show numB s lo hi = match Go.Lib.atoiAll s with | .ok v => if Go.Lib.itoa v = s ∧ lo ≤ v ∧ v ≤ hi then some v else none | _ => none from rfl)
  clear h
  go_enter Tryd.func51, Tryd.ntmps51
  go_wp2_with fail
  refine HA.out.mono ?_
  rintro e w1 ⟨ho, hx⟩
  have HX := hide hx
  clear hx
  cases hr : Lib.atoiAll s with
  | ok v =>
    rw [hr] at ho HN
    obtain rfl := ho
    dsimp only at HN
    have hb := atoi_bounds hr
    have HI := hide (itoa_lib v hb.1 hb.2 w1 (HL.out.ext HX.out))
    go_wp2_with fail
    refine HI.out.mono ?_
    rintro e w2 ⟨rfl, hx2⟩
    have HX2 := hide (HX.out.trans hx2)
    clear hx2
    by_cases h1 : Lib.itoa v = s
    · have t1 : ((str (Lib.itoa v)).toList == (str s).toList) = true := by rw [str_eq_iff, decide_eq_true h1]
      by_cases h2 : lo ≤ v
      · have t2 : decide (lo ≤ v) = true := decide_eq_true h2
        by_cases h3 : v ≤ hi
        · have t3 : decide (v ≤ hi) = true := decide_eq_true h3
          have HE := hide (show numB s lo hi = some v by rw [HN.out, if_pos ⟨h1, h2, h3⟩])
          clear h1
          go_wp2_with fail
          go_ret2
          exact ⟨⟨v, by rw [HE.out]; rfl, fun x hx => by rw [HE.out] at hx; injection hx⟩, HX2.out⟩
        · have t3 : decide (v ≤ hi) = false := decide_eq_false h3
          have HE := hide (show numB s lo hi = none by rw [HN.out, if_neg (fun q => h3 q.2.2)])
          clear h1
          go_wp2_with fail
          go_ret2
          exact ⟨⟨v, by rw [HE.out]; rfl, fun x hx => by rw [HE.out] at hx; cases hx⟩, HX2.out⟩
      · have t2 : decide (lo ≤ v) = false := decide_eq_false h2
        have HE := hide (show numB s lo hi = none by rw [HN.out, if_neg (fun q => h2 q.2.1)])
        clear h1
        go_wp2_with fail
        go_ret2
        exact ⟨⟨v, by rw [HE.out]; rfl, fun x hx => by rw [HE.out] at hx; cases hx⟩, HX2.out⟩
    · have t1 : ((str (Lib.itoa v)).toList == (str s).toList) = false := by rw [str_eq_iff, decide_eq_false h1]
      have HE := hide (show numB s lo hi = none by rw [HN.out, if_neg (fun q => h1 q.1)])
      clear h1
      go_wp2_with fail
      go_ret2
      exact ⟨⟨v, by rw [HE.out]; rfl, fun x hx => by rw [HE.out] at hx; cases hx⟩, HX2.out⟩
  | «syntax» =>
    rw [hr] at ho HN
    obtain ⟨n, t, b, rfl⟩ := ho
    go_wp2_with fail
    go_ret2
    exact ⟨⟨n, by rw [HN.out]; rfl, fun x hx => by rw [HN.out] at hx; cases hx⟩, HX.out⟩
  | range =>
    rw [hr] at ho HN
    obtain ⟨n, t, b, rfl⟩ := ho
    go_wp2_with fail
    go_ret2
    exact ⟨⟨n, by rw [HN.out]; rfl, fun x hx => by rw [HN.out] at hx; cases hx⟩, HX.out⟩
end Go.Proofs.YtikbfmjhmjkkgaaDoor
