/- slices.Index and Clone on numbers; an append under a guard. Plain theorems, no condition. -/
import Derived.Test.YtlmcahgffakoiaaInts
import Derived.Test.YtlmcahgffakoiaaFlat
import Derived.Deep.RegionLaw
import Derived.Lib.SliceRun
import Derived.Deep.MidRow
namespace Go.Proofs.Ytlmcahgffakoiaa
open Go.RowKit
set_option linter.unusedVariables false

theorem int_info : (Try.prog.info? 3).map (fun i => (i.zero, i.size, i.bytes)) = some (some (.int .i64 0), 1, 8) := by kernel_rfl
/-- Where a number stands first. -/
def IdxOf (xs : List Int) (v : Int) (z : Int) : Prop := (∃ i : Nat, ∃ h : i < xs.length, z = i ∧ xs[i] = v ∧ ∀ j (hj : j < xs.length), j < i → xs[j] ≠ v) ∨ (z = -1 ∧ v ∉ xs)
def IdxPost (w : World) (xs : List Int) (v : Int) (e : Ending) (w' : World) : Prop := ∃ z : Int, e = .returned (.int .i64 z) ∧ IdxOf xs v z ∧ w = w'
def IdxRel (xs : List Int) (v : Int) (n : Nat) (i : Value) : Prop := ∃ k : Nat, k ≤ n ∧ i = .int .i64 k ∧ ∀ j (hj : j < xs.length), j < k → xs[j] ≠ v
theorem index_ints (A : Option Addr) (n c B : Nat) (xs : List Int) (v : Int) (w : World) (hx : Reads w B 1 A n (intsV xs)) (hn : n ≤ maxLen) :
    Calls Try.prog 16 #[.slice A n c, .int .i64 v] w (IdxPost w xs v) := by
  unfold maxLen at hn
  have lx : xs.length = n := by have := hx.1; rw [intsV_length] at this; omega
  have LX := hide lx
  have HX := hide hx
  clear lx hx
  go_enter Try.func16, Try.ntmps16
  go_wp2_with fail
  go_loop [8] (IdxRel xs v n) (fun i => n - (intOf i).toNat)
  case atStart => exact ⟨0, Nat.zero_le _, rfl, fun j _ h => absurd h (by omega)⟩
  case round =>
    obtain ⟨k, hk, rfl, hne⟩ := hrel
    have HNE := hide hne
    clear hne
    by_cases hlt : k < n
    · obtain ⟨b, off, rfl, -, -⟩ := HX.out.at1 (by omega)
      have hkl : k < xs.length := by rw [LX.out]; exact hlt
      have g1 : w.cell? ⟨b, off + k, none⟩ = some (.int .i64 (xs.getD k 0)) := cells_ints HX.out k hlt
      have HG := hide (show xs.getD k 0 = xs[k] by simp [List.getD_eq_getElem?_getD, hkl])
      generalize xs.getD k 0 = x at g1 HG
      by_cases he : v = x
      · have t1 : (v == x) = true := by simpa using he
        have HE := hide he
        clear he
        go_wp2_with fail
        go_ret
        exact ⟨k, rfl, .inl ⟨k, hkl, rfl, by rw [← HG.out, HE.out], HNE.out⟩, rfl⟩
      · have t1 : (v == x) = false := by simpa using he
        go_wp2_with fail
        go_round
        case rel => exact ⟨k + 1, by omega, by go_num, fun j hj hjk => by
          by_cases e : j = k
          · subst e; rw [← HG.out]; exact fun h => he h.symm
          · exact HNE.out j hj (by omega)⟩
        case measure => simp [intOf]; omega
    · obtain rfl : k = n := by omega
      go_wp2_with fail
      go_ret
      exact ⟨-1, rfl, .inr ⟨rfl, fun hm => by obtain ⟨j, hj, e⟩ := List.getElem_of_mem hm; exact HNE.out j hj (by rw [← LX.out]; exact hj) e⟩, rfl⟩
theorem iclone_any (A : Option Addr) (n c B : Nat) (xs : List Value) (w : World) (hr : Reads w B 1 A n xs) (h1 : ∀ u ∈ xs, u.oneCell' = true) (hB : B ≤ w.heap.size) (hn : n ≤ 1000000) (hA : A = none → n = 0) :
    Calls Try.prog 9 #[.slice A n c] w fun e w' => ∃ A' c', e = .returned (.slice A' n c') ∧ w'.ownsRow w.heap.size 3 1 (.slice A' n c') n xs ∧ Ext w w' := by
  obtain ⟨i0, hi0, hz0, hz1, hz2⟩ := info_parts int_info
  have q : ∀ (w : World) (a : Option Addr) (n c n' c' : Nat), (binOp .eql 22 (.slice a n c) (.slice none n' c')).run Try.prog w = .ok (.bool a.isNone) w := fun w a n c n' c' => Lib.run_eql_slice_nil w _ _ a n c n' c' Try.underlying22
  rcases A with _ | ad
  · obtain rfl := hA rfl
    have hx : xs = [] := List.eq_nil_of_length_eq_zero (by simpa using hr.1)
    subst hx
    go_enter Try.func9, Try.ntmps9
    go_wp2
    go_ret
    exact ⟨_, _, rfl, World.ownsRow_nil _ _ _ _, Ext.refl _⟩
  · have hr' := hr.alloc hB (.cells #[] 3)
    have HR := hide hr'
    clear hr hr' hA
    go_enter Try.func9, Try.ntmps9
    go_wp2_with (at_builtin; refine wpList_append_any _ rfl (.tmp 5) (.tmp 6) _ rfl w.heap.size 3 i0 _ 1 8 Try.underlying22 hi0 hz0 hz1 hz2 rfl (by omega) _ 0 [] rfl (World.ownsRow_made w #[] 0 (Nat.le_refl _) (Nat.zero_le _) rfl) B (some ad) n c xs rfl HR.out h1 (by simp only [maxLen]; omega) (by omega) (by simp) ?_; intro A1 c1 w1 hown1 hg1 hat1)
    go_ret
    refine ⟨A1, c1, by simp, by simpa using hown1, ?_⟩
    exact ((Ext.refl w).alloc _).grown hg1 (fun k hk => by injection hk with hk; subst hk; exact Nat.le_refl _)

/-- An append under a guard that holds. -/
theorem wpList_append_any_g {P : Program} (w : World) {ops : Array Oper} {rest : List Oper} {o : Oper} {a : Act} {Q : Exit → Act → World → Prop} (hw : Region.wanted o (yielded ops a.tmps) = true) (s x : Operand) (t : TypeId)
    (ho : o.op = .call { callee := .builtin .append, args := #[s, x], argTypes := #[t, t] })
    (base : Nat) (e : TypeId) (i : TypeInfo) (z : Value) (size bytes : Nat) (ht : P.underlying t = some (.slice e)) (hi : P.info? e = some i) (hz : i.zero = some z)
    (hsize : i.size = size) (hby : i.bytes = bytes) (hzs : z.cells.size = size) (hsz : 0 < size)
    (v : Value) (n : Nat) (xs : List Value) (hs : a.eval s = v) (hown : w.ownsRow base e size v n xs)
    (B : Nat) (A : Option Addr) (m c : Nat) (news : List Value) (hx : a.eval x = .slice A m c) (hr : Reads w B size A m news) (h1 : ∀ u ∈ news, u.oneCell' = true)
    (h63 : n + m ≤ maxLen) (hbytes : (n + m) * bytes ≤ 140737488355328) (hbase : base ≤ w.heap.size)
    (h : ∀ A' c' w', w'.ownsRow base e size (.slice A' (n + m) c') (n + m) (xs ++ news) → w.grownBy w' v.ownBlock → (Value.ownBlock (.slice A' (n + m) c') = v.ownBlock ∨ Value.ownBlock (.slice A' (n + m) c') = some w.heap.size) → wpList P ops Q rest (a.put o.dst (.slice A' (n + m) c')) w') : wpList P ops Q (o :: rest) a w := by
  unfold wpList
  rw [if_pos hw]
  exact .inl (wp_append_any w s x t ho base e i z size bytes ht hi hz hsize hby hzs hsz v n xs hs hown B A m c news hx hr h1 h63 hbytes hbase h)
end Go.Proofs.Ytlmcahgffakoiaa
