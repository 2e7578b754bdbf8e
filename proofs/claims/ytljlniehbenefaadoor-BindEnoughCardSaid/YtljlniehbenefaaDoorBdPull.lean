/- The contract of bind.Pull. -/
import Derived.Test.YtljlniehbenefaaDoorBdLacks
import Derived.Test.YtljlniehbenefaaDoorBdClone
namespace Go.Proofs.YtljlniehbenefaaDoor
open Go.RowKit
set_option linter.unusedVariables false

def blsV (l : List Bool) : List Value := l.map Value.bool
theorem blsV_len (l : List Bool) : (blsV l).length = l.length := by simp [blsV]
theorem blsV_at (l : List Bool) (i : Nat) : (blsV l)[i]? = (l[i]?).map Value.bool := by simp [blsV]
theorem blsV_set (l : List Bool) (i : Nat) (b : Bool) : (blsV l).set i (.bool b) = blsV (l.set i b) := by simp [blsV, List.map_set]
theorem made_bools (n : Nat) : (madeCells (Value.bool false).cells (n * 1)).toList = blsV (List.replicate n false) := by
  refine List.ext_getElem (by simp [madeCells, blsV]) fun i h1 h2 => ?_
  simp [madeCells, blsV, Value.cells, Nat.mod_one]
theorem bl_info : (Tryd.prog.info? 4).map (fun i => (i.zero, i.size, i.bytes)) = some (some (.bool false), 1, 1) := by kernel_rfl
/-- What was found so far: behind the names of l, and, for the name s, the first k parts of the library. -/
def Fnd (lib : List ObX) (bs : List Bool) (l : List Bs) (v : Value) : Prop :=
  (v = .int .i64 (-1) ∧ ∀ s ∈ l, ∀ i (h : i < lib.length), bs[i]? = some false → hasP lib[i].1 s = false) ∨ ∃ i : Nat, i < lib.length ∧ bs[i]? = some false ∧ v = .int .i64 i
def FndT (lib : List ObX) (bs : List Bool) (l : List Bs) (s : Bs) (k : Nat) (v : Value) : Prop :=
  (v = .int .i64 (-1) ∧ (∀ s ∈ l, ∀ i (h : i < lib.length), bs[i]? = some false → hasP lib[i].1 s = false) ∧ ∀ i (h : i < lib.length), i < k → bs[i]? = some false → hasP lib[i].1 s = false) ∨ ∃ i : Nat, i < lib.length ∧ bs[i]? = some false ∧ v = .int .i64 i
/-- The plain state of Pull: what was picked, what was taken. -/
structure PuP (lib : List ObX) (picks : List ObX) (bs : List Bool) : Prop where
  bl : bs.length = lib.length
  cnt : picks.length = bs.count true
  sub : ∀ p ∈ picks, p ∈ lib
  tk : ∀ i (h : i < lib.length), bs[i]? = some true → lib[i] ∈ picks
theorem count_set : ∀ (bs : List Bool) (i : Nat), bs[i]? = some false → (bs.set i true).count true = bs.count true + 1 := by
  intro bs
  induction bs with
  | nil => intro i h; simp at h
  | cons a l ih =>
    intro i h
    cases i with
    | zero => simp at h; subst h; simp
    | succ i =>
      have := ih i (by simpa using h)
      rw [List.set_cons_succ, List.count_cons, List.count_cons, this]
      omega
theorem PuP.take {lib picks : List ObX} {bs : List Bool} (h : PuP lib picks bs) (i : Nat) (hi : i < lib.length) (hb : bs[i]? = some false) : PuP lib (picks ++ [lib[i]]) (bs.set i true) := by
  refine ⟨by simp [h.bl], by rw [List.length_append, List.length_singleton, count_set bs i hb, h.cnt], fun p hp => ?_, fun j hj hbj => ?_⟩
  · rcases List.mem_append.1 hp with hp | hp
    · exact h.sub p hp
    · rw [List.mem_singleton] at hp; rw [hp]; exact List.getElem_mem hi
  · by_cases e : j = i
    · subst e; exact List.mem_append_right _ List.mem_cons_self
    · rw [List.getElem?_set_ne (fun e' => e e'.symm)] at hbj
      exact List.mem_append_left _ (h.tk j hj hbj)
theorem PuP.le {lib picks : List ObX} {bs : List Bool} (h : PuP lib picks bs) : picks.length ≤ lib.length := by
  rw [h.cnt, ← h.bl]; exact List.count_le_length
theorem PuP.lt {lib picks : List ObX} {bs : List Bool} (h : PuP lib picks bs) (i : Nat) (hi : i < lib.length) (hb : bs[i]? = some false) : picks.length < lib.length := by
  have := (h.take i hi hb).le
  rw [List.length_append, List.length_singleton] at this
  omega
theorem PuP.enough {lib ps picks acc : List ObX} {bs : List Bool} (h : PuP lib picks bs) (hf : Fnd lib bs (lacksP (ps ++ picks)) (.int .i64 (-1))) (ha : acc.map Prod.fst = (ps ++ picks).map Prod.fst) : ∀ s ∈ lacksP acc, ∀ p ∈ lib, hasP p.1 s = false := by
  intro s hs p hp
  rw [lacksP_fst ha] at hs
  obtain ⟨i, hi, rfl⟩ := List.mem_iff_getElem.1 hp
  have hib : i < bs.length := by rw [h.bl]; exact hi
  rcases hf with ⟨-, hf⟩ | ⟨j, -, -, e⟩
  · cases hb : bs[i] with
    | false => exact hf s hs i hi (by rw [List.getElem?_eq_getElem hib, hb])
    | true => exact lacksP_not hs _ (List.mem_append_right _ (h.tk i hi (by rw [List.getElem?_eq_getElem hib, hb])))
  · injection e with _ e; omega
/-- Memory while Pull works. -/
structure PuSt (w : World) (ps lib picks : List ObX) (bs : List Bool) (N M : Nat) (A : Option Addr) (c : Nat) (At : Option Addr) (ct : Nat) (wr : World) : Prop where
  p : PuP lib picks bs
  ln : (ps ++ picks).length = N
  lm : lib.length = M
  row : wr.ownsRow w.heap.size obT 4 (.slice A N c) N ((ps ++ picks).flatMap obXC)
  tk : wr.ownsRow w.heap.size 4 1 (.slice At M ct) M (blsV bs)
  ext : Ext w wr
section
variable {w wr w' : World} {ps lib picks : List ObX} {bs : List Bool} {N M : Nat} {A A' : Option Addr} {c c' : Nat} {At : Option Addr} {ct gt : Nat}
theorem PuSt.to (h : PuSt w ps lib picks bs N M A c At ct wr) (hx : Ext wr w') : PuSt w ps lib picks bs N M A c At ct w' := ⟨h.p, h.ln, h.lm, hx.own h.row, hx.own h.tk, h.ext.trans hx⟩
theorem PuSt.good (h : PuSt w ps lib picks bs N M A c At ct wr) {A1 : Option Addr} {n1 : Nat} {A2 : Option Addr} {n2 : Nat} (h1 : Good w A1 n1 ps) (h2 : Good w A2 n2 lib) : Good wr A N (ps ++ picks) := by
  have hm : ∀ q ∈ ps ++ picks, q ∈ ps ∨ q ∈ lib := fun q hq => (List.mem_append.1 hq).imp id (h.p.sub q)
  exact ⟨h.ln, Reads.of_own h.row, fun q hq => (hm q hq).elim (fun k => (h1.each q k).ext h.ext) (fun k => (h2.each q k).ext h.ext), fun q hq => (hm q hq).elim (h1.chk q) (h2.chk q), fun q hq => (hm q hq).elim (h1.sm q) (h2.sm q)⟩
/-- Part i of the library is taken. -/
theorem PuSt.take (h : PuSt w ps lib picks bs N M A c (some ⟨gt, 0, none⟩) ct wr) (i : Nat) (hi : i < lib.length) (hb : bs[i]? = some false)
    {wa : World} (hxa : Ext (wr.setCell ⟨gt, i, none⟩ (.bool true)) wa)
    (ho : w'.ownsRow w.heap.size obT 4 (.slice A' (N + 1) c') (N + 1) ((ps ++ picks).flatMap obXC ++ obXC lib[i])) (hg : wa.grownBy w' (Value.ownBlock (.slice A N c))) :
    PuSt w ps lib (picks ++ [lib[i]]) (bs.set i true) (N + 1) M A' c' (some ⟨gt, 0, none⟩) ct w' := by
  have hl : (ps ++ (picks ++ [lib[i]])).length = N + 1 := by rw [← h.ln]; simp; omega
  have ht := own_set h.tk i (.bool true)
  rw [blsV_set] at ht
  have hgt := (h.tk.lt gt rfl).1
  have hr0 := own_far h.row (p := ⟨gt, i, none⟩) (fun e => own_own_ne h.tk h.row (by decide) gt rfl e) (.bool true)
  have hra := hxa.own hr0
  have hta := hxa.own ht
  refine ⟨h.p.take i hi hb, hl, h.lm, ?_, own_keptB hta hg (fun j hj e => own_own_ne hta hra (by decide) j hj e), ((h.ext.setCell (p := ⟨gt, i, none⟩) hgt _).trans hxa).grown hg (fun k hk => (h.row.lt k hk).1)⟩
  rw [← List.append_assoc, List.flatMap_append, List.flatMap_cons, List.flatMap_nil, List.append_nil]
  exact ho
theorem PuSt.takeRow (h : PuSt w ps lib picks bs N M A c (some ⟨gt, 0, none⟩) ct wr) (i : Nat) : (wr.setCell ⟨gt, i, none⟩ (.bool true)).ownsRow w.heap.size obT 4 (.slice A N c) N ((ps ++ picks).flatMap obXC) :=
  own_far h.row (p := ⟨gt, i, none⟩) (fun e => own_own_ne h.tk h.row (by decide) gt rfl e) (.bool true)
end
theorem lacksP_len {ps : List ObX} (hc : ∀ p ∈ ps, ChkOk p.1) (hn : ps.length ≤ 12) : (lacksP ps).length ≤ 480 := by
  have h := lkRun_len (ndsOf ps) (nmsRun (nmsOf ps) fun _ => false) []
  have h2 : (ndsOf ps).length = (ps.map fun p => p.1.needs.length).sum := by unfold ndsOf; rw [List.length_flatMap]; simp
  have h3 := sum_le_mul (fun p : ObX => p.1.needs.length) 40 ps (fun p hp => (hc p hp).nds)
  unfold lacksP
  simp only [List.length_nil] at h
  omega
def slN : Value → Nat
  | .slice _ n _ => n
  | _ => 0
def PuRel (w : World) (ps lib : List ObX) (M : Nat) (At : Option Addr) (ct : Nat) (v7 : Value) (wr : World) : Prop :=
  ∃ (picks : List ObX) (bs : List Bool) (N : Nat) (A : Option Addr) (c : Nat), v7 = .slice A N c ∧ PuSt w ps lib picks bs N M A c At ct wr
def Pu2Rel (W : World) (lib : List ObX) (bs : List Bool) (L : List Bs) (v11 v36 : Value) (wr : World) : Prop :=
  ∃ k : Nat, k ≤ L.length ∧ v36 = .int .i64 k ∧ Fnd lib bs (L.take k) v11 ∧ Ext W wr
def Pu3Rel (W : World) (lib : List ObX) (bs : List Bool) (l : List Bs) (s : Bs) (M : Nat) (v11 v42 : Value) (wr : World) : Prop :=
  ∃ k : Nat, k ≤ M ∧ v42 = .int .i64 k ∧ FndT lib bs l s k v11 ∧ Ext W wr
def PullOut (w : World) (ps lib : List ObX) (e : Ending) (w' : World) : Prop :=
  ∃ acc A' c' picks, e = .returned (.tuple #[.slice A' (List.length acc) c', .int .i64 0]) ∧ acc.map Prod.fst = (ps ++ picks).map Prod.fst ∧ List.length picks ≤ lib.length ∧ (∀ s ∈ lacksP acc, ∀ p ∈ lib, hasP p.1 s = false) ∧ Good w' A' acc.length acc ∧ Ext w w'
set_option maxHeartbeats 16000000 in
set_option maxRecDepth 100000 in
theorem pull_any (A1 : Option Addr) (n1 c1 : Nat) (ps : List ObX) (A2 : Option Addr) (n2 c2 : Nat) (lib : List ObX) (w : World) (h1 : Good w A1 n1 ps) (h2 : Good w A2 n2 lib) (hn : n1 + n2 ≤ 12) :
    Calls Tryd.prog 9 #[.slice A1 n1 c1, .slice A2 n2 c2] w (PullOut w ps lib) := by
  obtain ⟨i0, hi0, hz0, hz1, hz2⟩ := info_parts ob_info
  obtain ⟨i1, hi1, hy0, hy1, hy2⟩ := info_parts bl_info
  have HG1 := hide h1
  have HG2 := hide h2
  have HP1 := hide h1.len
  have HP2 := hide h2.len
  have HCK := hide (checked_ok A2 n2 c2 lib w h2 (by omega))
  clear h1 h2
  go_enter Tryd.func9, Tryd.ntmps9
  go_wp2_with fail
  refine HCK.out.mono ?_
  rintro e w1 ⟨rfl, hx1⟩
  have HX1 := hide hx1
  have HR1 := hide (HG1.out.ext hx1).row
  have HL1 := hide (show 0 + n1 ≤ maxLen by simp only [maxLen]; omega)
  have HL2 := hide (show (0 + n1) * 96 ≤ 140737488355328 by omega)
  clear hx1 HCK
  go_upto_region 5 with (at_builtin; refine wpList_append_any _ rfl (.const (.slice none 0 0)) (.tmp 21) 23 rfl w.heap.size obT i0 _ 4 96 Tryd.underlying23 hi0 hz0 hz1 hz2 rfl (by decide) (.slice none 0 0) 0 [] rfl (World.ownsRow_nil _ _ _ _) w1.heap.size A1 n1 c1 (ps.flatMap obXC) rfl HR1.out (obXC_one _) HL1.out HL2.out HX1.out.size ?_; intro A8 c8 w8 ho8 hg8 ha8; have HO8 := hide ho8; have HX8 := hide (ext_none HX1.out hg8))
  clear ho8 hg8 ha8 HL1 HL2 HR1
  obtain ⟨W0, hmk, hown, hgr⟩ := run_makeSlice_full (P := Tryd.prog) (w := w8) w.heap.size 79 4 i1 _ 1 Tryd.underlying79 hi1 hy0 hy1 .i64 .i64 n2 (by omega) (by rw [hy2]; omega) (by simp only [maxLen]; omega) HX8.out.size
  have hxw : Ext w8 W0 := (Ext.refl _).grown hgr (fun k hk => by cases hk)
  have emk : (madeCells (Value.bool false).cells (n2 * 1)).toList = blsV (List.replicate n2 false) := made_bools n2
  rw [emk] at hown
  have hor : W0.ownsRow w.heap.size obT 4 (.slice A8 n1 c8) n1 ((ps ++ []).flatMap obXC) := by
    rw [List.append_nil]
    have h8 := hxw.own HO8.out
    rwa [Nat.zero_add, List.nil_append] at h8
  have HST0 := hide (show PuSt w ps lib [] (List.replicate lib.length false) n1 n2 A8 c8 (some ⟨w8.heap.size, 0, none⟩) n2 W0 from
    ⟨⟨by simp, by simp [List.count_replicate], fun p hp => (by cases hp), fun i hi hb => by rw [List.getElem?_replicate, if_pos hi] at hb; cases hb⟩, by rw [List.append_nil]; exact HP1.out, HP2.out, hor, by rw [HP2.out]; exact hown, HX8.out.trans hxw⟩)
  clear emk hor
  clear hown hgr hxw HO8 HX8
  generalize w8.heap.size = gt at *
  go_wp2_with fail
  clear hmk
  go_loopw [7] (PuRel w ps lib n2 (some ⟨gt, 0, none⟩) n2) (fun v _ => 13 - slN v)
  case atStart => exact ⟨[], _, n1, A8, c8, rfl, HST0.out⟩
  case round =>
    obtain ⟨picks, bs, N, A7, c7, rfl, hst⟩ := hrel
    have HST := hide hst
    have HLEP := hide hst.p.le
    have hN : N ≤ 12 := by have h1 := hst.ln; have h2 := hst.p.le; have h3 := HP1.out; have h4 := HP2.out; rw [List.length_append] at h1; omega
    have hn2 : n2 ≤ 12 := by omega
    have HGO := hide (hst.good HG1.out HG2.out)
    have HLK := hide (lacks_any A7 N c7 (ps ++ picks) wr HGO.out hN)
    have HLE := hide (show (lacksP (ps ++ picks)).length ≤ 480 from lacksP_len HGO.out.chk (by rw [HGO.out.len]; exact hN))
    obtain ⟨L, hL⟩ : ∃ L, lacksP (ps ++ picks) = L := ⟨_, rfl⟩
    have HLQ := hide hL
    rw [hL] at HLK HLE
    clear hst HST0 hL
    go_wp2_with fail
    refine HLK.out.mono ?_
    rintro e w2 ⟨A9, c9, rfl, ho9, hx9⟩
    have HR9 := hide (Reads.of_own ho9)
    have HST2 := hide (HST.out.to hx9)
    have hLE := HLE.out
    clear ho9 hx9 HLK HGO HST
    go_wp2_with fail
    go_loopw [11, 36] (Pu2Rel w2 lib bs L) (fun _ i _ => L.length - (intOf i).toNat)
    case atStart => exact ⟨0, Nat.zero_le _, rfl, .inl ⟨rfl, fun s hs => by simp at hs⟩, Ext.refl _⟩
    case round =>
      obtain ⟨k, hk, rfl, hf, hx⟩ := hrel
      have HF := hide hf
      have HX := hide hx
      clear hf hx
      by_cases hlt : k < L.length
      · obtain ⟨b, off, rfl, -, hcell⟩ := HR9.out.at1 (by omega)
        have q0 := HX.out.cell (hcell k hlt)
        rw [show (strsV L)[k]'(by rw [strsV_len]; exact hlt) = .string (str L[k]) by simp [strsV]] at q0
        have HTK := hide (show L.take (k + 1) = L.take k ++ [L[k]] from List.take_succ_eq_append_getElem hlt)
        generalize L[k] = s at *
        clear hcell
        go_wp2_with fail
        clear q0
        go_loopw [11, 42] (Pu3Rel w2 lib bs (L.take k) s n2) (fun _ i _ => n2 - (intOf i).toNat)
        case atStart => exact ⟨0, Nat.zero_le _, rfl, HF.out.imp (fun h => ⟨h.1, h.2, fun i hi h0 => absurd h0 (Nat.not_lt_zero _)⟩) id, HX.out⟩
        case round =>
          obtain ⟨j, hj, rfl, hf, hx⟩ := hrel
          have HFT := hide hf
          have HX2 := hide hx
          clear hf hx HF HX
          by_cases hlt2 : j < n2
          · obtain ⟨bl, ol, o, v, hi', rfl, hpi, hrd, hck, hsm, q0, q1, q2, q3⟩ := (HG2.out.ext (HST2.out.ext.trans HX2.out)).at_ j hlt2
            obtain ⟨B1, m1, d1, B2, m2, d2, B3, m3, d3, B4, m4, d4⟩ := v
            dsimp only at q0 q1 q2 q3
            have hxa := (Ext.refl wr).alloc (.cells #[.slice B1 m1 d1, .slice B2 m2 d2, .slice B3 m3 d3, .slice B4 m4 d4] obT)
            have hb0 := Blk.new wr obT #[.slice B1 m1 d1, .slice B2 m2 d2, .slice B3 m3 d3, .slice B4 m4 d4]
            have HHA := hide (has_any o ⟨B1, m1, d1, B2, m2, d2, B3, m3, d3, B4, m4, d4⟩ s _ (hrd.ext hxa) hsm)
            have HPI := hide (show lib[j].1 = o by rw [hpi])
            have HXA := hide (HX2.out.trans hxa)
            have hjb : j < bs.length := by rw [HST2.out.p.bl, HP2.out]; exact hlt2
            obtain ⟨gt', hgt', -⟩ := own_addr HST2.out.tk (by omega)
            injection hgt' with hgt'
            injection hgt' with hgt'
            subst hgt'
            have c8 := HXA.out.cell (own_cell HST2.out.tk j (u := .bool bs[j]) (by rw [blsV_at, List.getElem?_eq_getElem hjb]; rfl)).1
            clear hrd hck hsm hpi hxa HX2
            go_upto_region 16 with fail
            generalize wr.alloc (.cells #[.slice B1 m1 d1, .slice B2 m2 d2, .slice B3 m3 d3, .slice B4 m4 d4] obT) = W9 at *
            generalize wr.heap.size = gb at *
            clear q0 q1 q2 q3
            obtain ⟨p0, p1, p2, p3⟩ := keep4 hb0
            clear hb0
            rcases HFT.out with ⟨rfl, hf1, hf2⟩ | ⟨i, hi, hbi, rfl⟩
            · have HF1 := hide hf1
              have HF2 := hide hf2
              clear hf1 hf2 HFT
              cases hbj : bs[j] with
              | true =>
                rw [hbj] at c8
                have HNX := hide (show FndT lib bs (L.take k) s (j + 1) (.int .i64 (-1)) from .inl ⟨rfl, HF1.out, fun i hi hlt hb => by
                  by_cases e : i = j
                  · subst e; rw [List.getElem?_eq_getElem hjb, hbj] at hb; cases hb
                  · exact HF2.out i hi (by omega) hb⟩)
                clear hbj HHA
                go_wp2_with fail
                go_roundw
                case rel => exact ⟨j + 1, by omega, by go_num, HNX.out, HXA.out⟩
                case measure => simp [intOf]; omega
              | false =>
                rw [hbj] at c8
                have HBJ := hide (show bs[j]? = some false by rw [List.getElem?_eq_getElem hjb, hbj])
                cases hhas : hasP o s with
                | true =>
                  rw [hhas] at HHA
                  have HNX := hide (show FndT lib bs (L.take k) s (j + 1) (.int .i64 (j : Int)) from .inr ⟨j, by rw [HP2.out]; exact hlt2, HBJ.out, rfl⟩)
                  clear hbj hhas HBJ
                  go_wp2_with fail
                  refine HHA.out.mono ?_
                  rintro e w5 ⟨rfl, hx5⟩
                  have HX5 := hide (HXA.out.trans hx5)
                  clear hx5
                  go_wp2_with fail
                  go_roundw
                  case rel => exact ⟨j + 1, by omega, by go_num, HNX.out, HX5.out⟩
                  case measure => simp [intOf]; omega
                | false =>
                  rw [hhas] at HHA
                  have HNX := hide (show FndT lib bs (L.take k) s (j + 1) (.int .i64 (-1)) from .inl ⟨rfl, HF1.out, fun i hi hlt hb => by
                    by_cases e : i = j
                    · subst e; rw [HPI.out]; exact hhas
                    · exact HF2.out i hi (by omega) hb⟩)
                  clear hbj hhas HBJ
                  go_wp2_with fail
                  refine HHA.out.mono ?_
                  rintro e w5 ⟨rfl, hx5⟩
                  have HX5 := hide (HXA.out.trans hx5)
                  clear hx5
                  go_wp2_with fail
                  go_roundw
                  case rel => exact ⟨j + 1, by omega, by go_num, HNX.out, HX5.out⟩
                  case measure => simp [intOf]; omega
            · have HNX := hide (show FndT lib bs (L.take k) s (j + 1) (.int .i64 (i : Int)) from .inr ⟨i, hi, hbi, rfl⟩)
              clear hbi HHA HFT
              go_wp2_with fail
              go_roundw
              case rel => exact ⟨j + 1, by omega, by go_num, HNX.out, HXA.out⟩
              case measure => simp [intOf]; omega
          · obtain rfl : j = n2 := by omega
            have HNX := hide (show Fnd lib bs (L.take (k + 1)) _ from HFT.out.imp (fun h => ⟨h.1, fun s' hs' i hi hb => by
              rw [HTK.out] at hs'
              rcases List.mem_append.1 hs' with hs' | hs'
              · exact h.2.1 s' hs' i hi hb
              · rw [List.mem_singleton] at hs'; subst hs'; exact h.2.2 i hi (by rw [← HP2.out]; exact hi) hb⟩) id)
            clear HFT
            go_wp2_with fail
            go_roundw
            case rel => exact ⟨k + 1, by omega, by go_num, HNX.out, HX2.out⟩
            case measure => simp [intOf]; omega
      · obtain rfl : k = L.length := by omega
        rw [List.take_length] at HF
        rcases HF.out with ⟨rfl, -⟩ | ⟨i, hi, hbi, rfl⟩
        · have HGC := hide ((HST2.out.to HX.out).good HG1.out HG2.out)
          have HXC := hide (HST2.out.ext.trans HX.out)
          have HCL := hide (clone_any A7 N c7 (ps ++ picks) wr HGC.out hN)
          go_wp2_with fail
          refine HCL.out.mono ?_
          rintro e w6 ⟨acc, A10, c10, rfl, hacc, hst⟩
          have HACC := hide hacc
          have HGD := hide (hst.good (fun p hp => by
            have h1 : p.1 ∈ (ps ++ picks).map Prod.fst := by rw [← hacc]; exact List.mem_map.2 ⟨p, hp, rfl⟩
            obtain ⟨q, hq, e⟩ := List.mem_map.1 h1
            rw [← e]; exact HGC.out.chk q hq) (fun p hp => by
            have h1 : p.1 ∈ (ps ++ picks).map Prod.fst := by rw [← hacc]; exact List.mem_map.2 ⟨p, hp, rfl⟩
            obtain ⟨q, hq, e⟩ := List.mem_map.1 h1
            rw [← e]; exact HGC.out.sm q hq))
          have HXF := hide (HXC.out.trans hst.ext)
          have HEN := hide (HST2.out.p.enough (by rw [HLQ.out]; exact HF.out) hacc)
          clear hacc hst
          go_wp2_with fail
          exact bodyPost_ret (v := .tuple #[.slice A10 acc.length c10, .int .i64 0]) (by simp [results, Tryd.results9, go_sem]) rfl ⟨acc, A10, c10, picks, rfl, HACC.out, HLEP.out, HEN.out, HGD.out, HXF.out⟩
        · have HST3 := hide (HST2.out.to HX.out)
          have hN2 : N < 12 := by have h0 := HST2.out.p.lt i hi hbi; have h1 := HST2.out.ln; have h3 := HP1.out; have h4 := HP2.out; rw [List.length_append] at h1; omega
          have hi2 : i < n2 := by have h4 := HP2.out; omega
          have HBI := hide hbi
          obtain ⟨bl, ol, o, v, hi', rfl, hpi, hrd, hck, hsm, q0, q1, q2, q3⟩ := HG2.out.at_ i hi2
          obtain ⟨B1, m1, d1, B2, m2, d2, B3, m3, d3, B4, m4, d4⟩ := v
          dsimp only at q0 q1 q2 q3
          have HPI := hide (show obXC lib[i] = [.slice B1 m1 d1, .slice B2 m2 d2, .slice B3 m3 d3, .slice B4 m4 d4] by rw [hpi]; rfl)
          have hbl : bl < w.heap.size := World.block_lt_of_cell? w _ q0
          obtain ⟨gt', hgt', hgw, -⟩ := own_addr HST3.out.tk (by omega)
          injection hgt' with hgt'
          injection hgt' with hgt'
          subst hgt'
          have hne : gt ≠ bl := by omega
          have q0 := far1 (g := gt) (i := i) (HST3.out.ext.cell q0) hne (.bool true)
          have q1 := far1 (g := gt) (i := i) (HST3.out.ext.cell q1) hne (.bool true)
          have q2 := far1 (g := gt) (i := i) (HST3.out.ext.cell q2) hne (.bool true)
          have q3 := far1 (g := gt) (i := i) (HST3.out.ext.cell q3) hne (.bool true)
          have hib : i < bs.length := by rw [HST3.out.p.bl]; exact hi
          obtain ⟨x8, fx8⟩ := own_cell HST3.out.tk i (u := .bool bs[i]) (by rw [blsV_at, List.getElem?_eq_getElem hib]; rfl)
          clear hrd hck hsm hpi hbi hbl HX HST2
          go_upto_region 23 with fail
          have HXA := hide ((Ext.refl (wr.setCell ⟨gt, i, none⟩ (.bool true))).alloc (.cells #[.slice B1 m1 d1, .slice B2 m2 d2, .slice B3 m3 d3, .slice B4 m4 d4] obT))
          have HRO := hide (HXA.out.own (HST3.out.takeRow i))
          have HRW := hide ((Blk.new (wr.setCell ⟨gt, i, none⟩ (.bool true)) obT #[.slice B1 m1 d1, .slice B2 m2 d2, .slice B3 m3 d3, .slice B4 m4 d4]).rowsF' 1 4 rfl)
          have HL1 := hide (show N + 1 ≤ maxLen by simp only [maxLen]; omega)
          have HL2 := hide (show (N + 1) * 96 ≤ 140737488355328 by omega)
          have HON := hide (show ∀ u ∈ [Value.slice B1 m1 d1, .slice B2 m2 d2, .slice B3 m3 d3, .slice B4 m4 d4], u.oneCell' = true by simp [Value.oneCell'])
          have HBS := hide (Nat.le_trans (Nat.le_trans HST3.out.ext.size (by simp : wr.heap.size ≤ (wr.setCell ⟨gt, i, none⟩ (.bool true)).heap.size)) HXA.out.size)
          obtain ⟨W9, hW9⟩ : ∃ W9, wr.setCell ⟨gt, i, none⟩ (.bool true) = W9 := ⟨_, rfl⟩
          rw [hW9] at q0 q1 q2 q3 HXA HRO HRW HBS ⊢
          have HW9 := hide hW9
          clear hW9 x8 fx8
          go_wp2_with (at_builtin; refine wpList_append_any _ rfl (.tmp 71) (.tmp 76) 23 rfl w.heap.size obT i0 _ 4 96 Tryd.underlying23 hi0 hz0 hz1 hz2 rfl (by decide) (.slice A7 N c7) N ((ps ++ picks).flatMap obXC) rfl HRO.out _ _ 1 1 [.slice B1 m1 d1, .slice B2 m2 d2, .slice B3 m3 d3, .slice B4 m4 d4] rfl HRW.out HON.out HL1.out HL2.out HBS.out ?_; intro A10 c10 w10 ho10 hg10 ha10; have HSTN := hide (HST3.out.take i hi HBI.out (by rw [HW9.out]; exact HXA.out) (by rw [HPI.out]; exact ho10) hg10); clear ho10 hg10 ha10)
          go_roundw
          case rel => exact ⟨picks ++ [lib[i]], bs.set i true, N + 1, A10, c10, rfl, HSTN.out⟩
          case measure => simp only [slN]; omega
end Go.Proofs.YtljlniehbenefaaDoor
