/- The bytes of the whole, in plain words. Plain theorems. -/
import Derived.Test.YtljlniehbenefaaDoorBdWords
import Derived.Laws.CopyOwn
namespace Go.Proofs.YtljlniehbenefaaDoor
open Go.RowKit
set_option linter.unusedVariables false

def w4 (x : Nat) : Bs := [u8N x, u8N (x / 256), u8N (x / 65536), u8N (x / 16777216)]
theorem w4_len (x : Nat) : (w4 x).length = 4 := rfl
theorem w4_flat_len (l : List Nat) : (l.flatMap w4).length = 4 * l.length := by
  induction l with
  | nil => rfl
  | cons a l ih => rw [List.flatMap_cons, List.length_append, ih, w4_len, List.length_cons]; omega
/-- What the map of places answers. -/
def atF (l : List PlD) : Bs → Option Int := l.foldl (fun f p => updS f p.name (some p.addr)) (fun _ => none)
theorem atF_next (l : List PlD) (k : Nat) (h : k < l.length) : atF (l.take (k + 1)) = updS (atF (l.take k)) l[k].name (some l[k].addr) := by
  unfold atF
  rw [List.take_succ_eq_append_getElem h, List.foldl_append]
  rfl
theorem atF_mem : ∀ (l : List PlD) (f : Bs → Option Int) (s : Bs) (t : Int), l.foldl (fun f p => updS f p.name (some p.addr)) f s = some t → (∃ p ∈ l, p.name = s ∧ p.addr = t) ∨ f s = some t := by
  intro l
  induction l with
  | nil => intro f s t h; exact .inr h
  | cons a l ih =>
    intro f s t h
    rcases ih _ s t h with ⟨p, hp, h1⟩ | h1
    · exact .inl ⟨p, by simp [hp], h1⟩
    · replace h1 : (if s = a.name then some a.addr else f s) = some t := h1
      by_cases he : s = a.name
      · rw [if_pos he] at h1
        injection h1 with h1
        exact .inl ⟨a, by simp, he.symm, h1⟩
      · rw [if_neg he] at h1
        exact .inr h1
theorem atF_some {l : List PlD} {s : Bs} {t : Int} (h : atF l s = some t) : ∃ p ∈ l, p.name = s ∧ p.addr = t := by
  rcases atF_mem l _ s t h with h | h
  · exact h
  · cases h
/-- All places come from definitions. -/
theorem plStep_all {Q : PlD → Prop} {S S' : PlS} {d : PlW} (h : plStep S d = some S') (hS : ∀ p ∈ S.out, Q p) (hd : Q d.p) : ∀ p ∈ S'.out, Q p := by
  unfold plStep at h
  split at h
  · injection h with h
    subst h
    intro p hp
    rcases List.mem_append.1 hp with hp | hp
    · exact hS p hp
    · rw [List.mem_singleton] at hp; rw [hp]; exact hd
  · split at h
    · injection h with h; subst h; exact hS
    · split at h
      · cases h
      · injection h with h
        subst h
        intro p hp
        rcases List.mem_or_eq_of_mem_set hp with hp | hp
        · exact hS p hp
        · rw [hp]; exact hd
theorem plRun_all {Q : PlD → Prop} : ∀ (l : List PlW) (S S' : PlS), plRun l S = some S' → (∀ p ∈ S.out, Q p) → (∀ d ∈ l, Q d.p) → ∀ p ∈ S'.out, Q p := by
  intro l
  induction l with
  | nil => intro S S' h hS _; injection h with h; subst h; exact hS
  | cons d l ih =>
    intro S S' h hS hd
    cases h1 : plStep S d with
    | none => rw [plRun, h1] at h; cases h
    | some S1 =>
      rw [plRun, h1] at h
      exact ih S1 S' h (plStep_all h1 hS (hd d (by simp))) (fun x hx => hd x (by simp [hx]))
theorem defsG_mem {f : Nat → NmD → PlW} : ∀ (os : List ObX) (i : Nat) (d : PlW), d ∈ defsG f os i → ∃ (j : Nat) (hj : j < os.length) (n : NmD), n ∈ os[j].1.names ∧ d = f (i + j) n := by
  intro os
  induction os with
  | nil => intro i d h; cases h
  | cons p os ih =>
    intro i d h
    rcases List.mem_append.1 h with h | h
    · obtain ⟨n, hn, rfl⟩ := List.mem_map.1 h
      exact ⟨0, by simp, n, hn, rfl⟩
    · obtain ⟨j, hj, n, hn, rfl⟩ := ih _ _ h
      exact ⟨j + 1, by simpa using hj, n, hn, by rw [show i + (j + 1) = i + 1 + j by omega]⟩
theorem places_from {os : List ObX} {S : PlS} (hs : placesP os = some S) : ∀ p ∈ S.out, ∃ (j : Nat) (hj : j < os.length) (n : NmD), n ∈ os[j].1.names ∧ p = ⟨n.name, j, addrN (cAt os j) (dAt os j) n⟩ := by
  refine plRun_all _ _ _ hs (by simp) (fun d hd => ?_)
  obtain ⟨j, hj, n, hn', rfl⟩ := defsG_mem _ _ _ hd
  exact ⟨j, hj, n, hn', by rw [Nat.zero_add]; rfl⟩
theorem places_addr {os : List ObX} {S : PlS} (hs : placesP os = some S) (hck : ∀ p ∈ os, ChkOk p.1) (hn : os.length ≤ 12) (hfit : endL os ≤ 1024) : ∀ p ∈ S.out, (0 ≤ p.addr ∧ p.addr < 10000) ∧ p.name.length ≤ 12 := by
  intro p hp
  obtain ⟨j, hj, n, hn', rfl⟩ := places_from hs p hp
  have h1 := (hck _ (List.getElem_mem hj)).names n hn'
  have h2 := sizeW_lt (hck _ (List.getElem_mem hj)) n.wh
  obtain ⟨h0, h3, h4, -⟩ := h1
  have h5 := cLen_bd hck hn
  have h6 := sum_take_le (fun p : ObX => 4 * p.1.code.length) os j
  have h7 := sum_take_le (fun p : ObX => upN p.1.data.length 4) os j
  refine ⟨?_, (nameB_len h0).2⟩
  show 0 ≤ addrN (cAt os j) (dAt os j) n ∧ addrN (cAt os j) (dAt os j) n < 10000
  unfold addrN cAt dAt cLen dLen
  unfold endL dLen at hfit
  unfold cLen at h5
  split <;> omega
theorem atF_bd {l : List PlD} (h : ∀ p ∈ l, (0 ≤ p.addr ∧ p.addr < 10000) ∧ p.name.length ≤ 12) : ∀ s t, atF l s = some t → 0 ≤ t ∧ t < 30000 := by
  intro s t ht
  obtain ⟨p, hp, -, rfl⟩ := atF_some ht
  have := (h p hp).1
  omega
/-- The parts' bytes, one behind the other. -/
def bytesG (at_ : Bs → Option Int) (c d : Nat → Nat) : List ObX → Nat → Bs → Option Bs
  | [], _, bs => some bs
  | p :: l, i, bs => (wordsP at_ (c i) p.1.needs p.1.code).bind fun W => bytesG at_ c d l (i + 1) (splice (splice bs (c i) (W.flatMap w4)) (d i) p.1.data)
def bytesP (os : List ObX) (S : PlS) : Option Bs := bytesG (atF S.out) (cAt os) (dAt os) os 0 (List.replicate (endL os) 0)
theorem bytesG_drop (at_ : Bs → Option Int) (c d : Nat → Nat) (os : List ObX) (i : Nat) (h : i < os.length) (bs : Bs) : bytesG at_ c d (os.drop i) i bs = (wordsP at_ (c i) os[i].1.needs os[i].1.code).bind fun W => bytesG at_ c d (os.drop (i + 1)) (i + 1) (splice (splice bs (c i) (W.flatMap w4)) (d i) os[i].1.data) := by
  rw [List.drop_eq_getElem_cons h]
  rfl
theorem splice_nil {α : Type} (L : List α) (off : Nat) : splice L off [] = L := by simp [splice]
theorem splice_set {α : Type} (L : List α) (off : Nat) (cs : List α) (y : α) (h : off + cs.length < L.length) : (splice L off cs).set (off + cs.length) y = splice L off (cs ++ [y]) := by
  unfold splice
  have hl : (L.take off).length = off := by rw [List.length_take]; omega
  rw [List.set_append_right _ _ (by rw [hl]; omega), hl, show off + cs.length - off = cs.length by omega, List.set_append_right _ _ (Nat.le_refl _), Nat.sub_self]
  rw [List.append_assoc]
  congr 2
  have hd : L.drop (off + cs.length) = L[off + cs.length] :: L.drop (off + cs.length + 1) := List.drop_eq_getElem_cons h
  rw [hd, List.set_cons_zero, List.length_append, List.length_singleton, List.singleton_append, Nat.add_assoc]
theorem bytesV_splice (L : Bs) (off : Nat) (cs : Bs) : splice (bytesV L) off (bytesV cs) = bytesV (splice L off cs) := by
  unfold splice
  simp [bytesV, List.map_take, List.map_drop]
theorem bytesV_set' (bs : Bs) (i : Nat) (x : UInt8) : (bytesV bs).set i (.int .u8 (x.toNat : Int)) = bytesV (bs.set i x) := by
  simp [bytesV, List.map_set]
/-- Code and data lie within the whole. -/
theorem code_fits (os : List ObX) (i : Nat) (h : i < os.length) : cAt os i + 4 * os[i].1.code.length ≤ endL os := by
  have h1 := cLen_next os i h
  have h2 := sum_take_le (fun p : ObX => 4 * p.1.code.length) os (i + 1)
  have h3 := (upN_bd (16 + cLen os) 16 (by omega)).1
  unfold cAt endL dBeg
  unfold cLen at *
  omega
theorem data_fits (os : List ObX) (i : Nat) (h : i < os.length) : dAt os i + os[i].1.data.length ≤ endL os := by
  have h1 := dLen_next os i h
  have h2 := sum_take_le (fun p : ObX => upN p.1.data.length 4) os (i + 1)
  have h3 := (upN_bd os[i].1.data.length 4 (by omega)).1
  unfold dAt endL
  unfold dLen at *
  omega
/-- A row that fills its block. -/
theorem own_full {w : World} {base g N : Nat} {e : TypeId} {xs : List Value} (h : w.ownsRow base e 1 (.slice (some ⟨g, 0, none⟩) N N) N xs) : w.heap[g]? = some (.cells xs.toArray e (0, 0)) := by
  obtain ⟨h1, h2⟩ := h
  rcases h2 with ⟨h2, _⟩ | ⟨g', cap, cur, hv, hg, hh, hn, hm, hs, hx⟩
  · cases h2
  · injection hv with hA _ hc
    injection hA with hA
    injection hA with hA _ _
    subst hA
    subst hc
    rw [← hx, List.take_of_length_le (by simp; omega)]
    simpa using hh
theorem full_own {w : World} {base g N : Nat} {e : TypeId} {xs : List Value} (h : w.heap[g]? = some (.cells xs.toArray e (0, 0))) (hl : xs.length = N) (hb : base ≤ g) (hm : N ≤ maxLen) : w.ownsRow base e 1 (.slice (some ⟨g, 0, none⟩) N N) N xs :=
  ⟨by simp [hl], .inr ⟨g, N, xs.toArray, rfl, hb, h, Nat.le_refl _, hm, by simp [hl], by rw [Nat.mul_one, ← hl]; simp⟩⟩
/-- 'out[k:]', its address told where anything is left. -/
theorem cut_own {P : Program} {t e : TypeId} {i : TypeInfo} (ht : P.underlying t = some (.slice e)) (hi : P.info? e = some i) (hs : i.size = 1) (g N k : Nat) (hk : k ≤ N) (kl : IntKind) :
    ∃ dp, (∀ W, (Instr.slice t (.slice (some ⟨g, 0, none⟩) N N) (some (.int kl (k : Int))) none none).run P W = .ok (.slice dp (N - k) (N - k)) W) ∧ (k < N → dp = some ⟨g, k, none⟩) := by
  have he : P.elem t = e := by simp [Program.elem, ht]
  have ht' : P.underlying t = some (.slice (P.elem t)) := by rw [he]; exact ht
  refine ⟨if N = k then some ⟨g, 0, none⟩ else some ⟨g, k, none⟩, fun W => ?_, fun h => by rw [if_neg (by omega)]⟩
  rw [run_slice_l W t (some ⟨g, 0, none⟩) N N ht' kl (k : Int) (by omega) (by omega), he]
  simp [sizeOf, typeInfo, hi, hs, sliced, Result.andThen, add_lit]
end Go.Proofs.YtljlniehbenefaaDoor
