/- The contracts of strings.Join, lineOf, jobsOf. -/
import Derived.Test.YtjbgkcljjgofnaaDoorShLine
namespace Go.Proofs.YtjbgkcljjgofnaaDoor
open Go.RowKit
set_option linter.unusedVariables false

def strV (l : List (List UInt8)) : List Value := l.map fun x => .string (str x)
theorem strV_append (a b : List (List UInt8)) : strV (a ++ b) = strV a ++ strV b := by simp [strV]
theorem strV_take (a : List (List UInt8)) (k : Nat) (h : k < a.length) : strV (a.take (k + 1)) = strV (a.take k) ++ [.string (str a[k])] := by
  rw [List.take_succ_eq_append_getElem h, strV_append]
  rfl
theorem join_any (A : Option Addr) (c B : Nat) (xs : List (List UInt8)) (w : World) (h : w.ownsRow B 9 1 (.slice A xs.length c) xs.length (strV xs)) (hn : xs.length ≤ 1000) (hl : (joinS xs).length ≤ 140737488355328) :
    Calls Tryd.prog 12 #[.slice A xs.length c, .string ⟨#[32]⟩] w fun e w' => e = .returned (.string (str (joinS xs))) ∧ Ext w w' := by
  cases xs with
  | nil => exact (Tryd.strings_Join_none A c ⟨#[32]⟩ w).mono fun e w' ⟨h1, h2⟩ => ⟨h1, h2 ▸ Ext.refl _⟩
  | cons x l =>
    obtain ⟨g, rfl, hg1, hg2, hg3, hg4⟩ := own_addr h (by simp)
    have hrd := Reads.of_own h
    have hm : ((x :: l).map str).map (fun b => b.data.toList) = x :: l := by
      rw [List.map_map]
      conv => rhs; rw [← List.map_id (x :: l)]
      exact List.map_congr_left (fun y _ => str_toList y)
    have hj := Tryd.strings_Join g 0 c ((x :: l).map str) (str [32]) w (fun j y hy => by
      obtain ⟨ad, e, -, hc⟩ := hrd.2 (by simp)
      injection e with e
      subst e
      have := hc j (.string y) (by rw [strV, List.getElem?_map]; rw [List.getElem?_map] at hy; cases hq : (x :: l)[j]? with | none => rw [hq] at hy; cases hy | some z => rw [hq] at hy; simp at hy; rw [← hy]; rfl)
      rwa [add_lit] at this) hg2 (by simp at hn ⊢; omega) (by simpa using hg3) (by rw [hm, str_toList, join_lib]; exact hl)
    rw [hm, str_toList, join_lib, List.length_map] at hj
    exact hj
/-- The words of a raw line. -/
def idxL (zs : List Int) : List Nat := (zs.take 24).map fun z => (restZ z 14).toNat
theorem idxL_lt (zs : List Int) : ∀ i ∈ idxL zs, i < 14 := by
  intro i hi
  obtain ⟨z, _, rfl⟩ := List.mem_map.1 hi
  have h1 := restZ_lo z 14 (by omega)
  have h2 := restZ_hi z 14 (by omega)
  omega
def textsOf (zs : List Int) : List (List UInt8) := (idxL zs).map fun i => textL.getD i []
theorem textsOf_len (zs : List Int) : (textsOf zs).length = min 24 zs.length := by simp [textsOf, idxL]
theorem textsOf_at (zs : List Int) (k : Nat) (h : k < (textsOf zs).length) : (textsOf zs)[k] = textL.getD (restZ (zs.getD k 0) 14).toNat [] := by
  rw [textsOf_len] at h
  have hk : k < zs.length := by omega
  simp [textsOf, idxL, List.getD_eq_getElem?_getD, hk]
def LineRel (w : World) (ts : List (List UInt8)) (n : Nat) (v3 v8 : Value) (wr : World) : Prop := ∃ k : Nat, k ≤ n ∧ v8 = .int .i64 k ∧ ∃ A c, v3 = .slice A (ts.take k).length c ∧ wr.ownsRow w.heap.size 9 1 (.slice A (ts.take k).length c) (ts.take k).length (strV (ts.take k)) ∧ Ext w wr
set_option maxHeartbeats 8000000 in
set_option maxRecDepth 100000 in
theorem lineOf_any (A : Option Addr) (n c : Nat) (zs : List Int) (w : World) (hr : Reads w w.heap.size 1 A n (intsV zs)) (hz : ∀ z ∈ zs, -9223372036854775808 ≤ z ∧ z ≤ 9223372036854775807) (hn : n ≤ maxLen) :
    Calls Tryd.prog 6 #[.slice A n c] w fun e w' => e = .returned (.string (str (lineN (idxL zs)))) ∧ Ext w w' := by
  obtain ⟨i0, hi0, hz0, hz1, hz2⟩ := info_parts string_info
  have hl : zs.length = n := by have := hr.1; rw [intsV_length] at this; omega
  have HLN := hide (show lineN (idxL zs) = joinS (textsOf zs) from rfl)
  obtain ⟨ts, hts⟩ : ∃ ts, textsOf zs = ts := ⟨_, rfl⟩
  have htl : ts.length = min 24 n := by rw [← hts, textsOf_len, hl]
  have HTA := hide (show ∀ (k : Nat) (h : k < ts.length), ts[k] = textL.getD (restZ (zs.getD k 0) 14).toNat [] by
    intro k h
    subst hts
    exact textsOf_at zs k h)
  have HT5 := hide (show ∀ x ∈ ts, x.length ≤ 5 by
    intro x hx
    rw [← hts] at hx
    obtain ⟨i, hi, rfl⟩ := List.mem_map.1 hx
    have h14 := idxL_lt zs i hi
    have key : ∀ i < 14, (textL.getD i []).length ≤ 5 := by decide
    exact key i h14)
  rw [hts] at HLN
  rw [HLN.out]
  have HR := hide hr
  have HZ := hide hz
  clear hts hr hz
  unfold maxLen at hn
  go_enter Tryd.func6, Tryd.ntmps6
  go_wp2_with fail
  go_loopw [3, 8] (LineRel w ts n) (fun _ i _ => n - (intOf i).toNat)
  case atStart => exact ⟨0, Nat.zero_le _, rfl, none, 0, rfl, World.ownsRow_nil _ _ _ _, Ext.refl _⟩
  case round =>
    obtain ⟨k, hk, rfl, A3, c3, rfl, ho, hx⟩ := hrel
    have HO := hide ho
    have HX := hide hx
    clear ho hx
    by_cases hlt : k < n
    · obtain ⟨b, off, rfl, hb⟩ := HR.out.addr (by omega) (by omega)
      have hc := HX.out.cell (cells_ints HR.out k hlt)
      have hzk := HZ.out (zs.getD k 0) (by rw [List.getD_eq_getElem?_getD, List.getElem?_eq_getElem (by omega), Option.getD_some]; exact List.getElem_mem _)
      by_cases h24 : k < 24
      · have hkt : k < ts.length := by omega
        have htk : (ts.take k).length = k := by rw [List.length_take]; omega
        have htk1 : (ts.take (k + 1)).length = k + 1 := by rw [List.length_take]; omega
        rw [htk] at HO ⊢
        have HNX := hide (strV_take ts k hkt)
        have hta := HTA.out k hkt
        have h1 := restZ_lo (zs.getD k 0) 14 (by omega)
        have h2 := restZ_hi (zs.getD k 0) 14 (by omega)
        have HRS := hide (fun W => rest_any (zs.getD k 0) 14 W hzk.1 hzk.2 (by omega) (by omega))
        generalize zs.getD k 0 = z at *
        obtain ⟨i, hi⟩ : ∃ i : Nat, restZ z 14 = (i : Int) := ⟨(restZ z 14).toNat, by omega⟩
        rw [hi] at h1 h2 hta HRS
        have hi14 : i < 14 := by omega
        rw [Int.toNat_natCast] at hta
        have htx : #[Value.string ⟨#[97]⟩, .string ⟨#[98]⟩, .string ⟨#[39, 99, 32, 100, 39]⟩, .string ⟨#[36, 120]⟩, .string ⟨#[124]⟩, .string ⟨#[38, 38]⟩, .string ⟨#[124, 124]⟩, .string ⟨#[59]⟩, .string ⟨#[38]⟩, .string ⟨#[60]⟩, .string ⟨#[62]⟩, .string ⟨#[62, 62]⟩, .string ⟨#[34, 36, 121, 34]⟩, .string ⟨#[119]⟩][i]? = some (.string (str ts[k])) := by
          rw [hta]
          have key : ∀ i < 14, #[Value.string ⟨#[97]⟩, .string ⟨#[98]⟩, .string ⟨#[39, 99, 32, 100, 39]⟩, .string ⟨#[36, 120]⟩, .string ⟨#[124]⟩, .string ⟨#[38, 38]⟩, .string ⟨#[124, 124]⟩, .string ⟨#[59]⟩, .string ⟨#[38]⟩, .string ⟨#[60]⟩, .string ⟨#[62]⟩, .string ⟨#[62, 62]⟩, .string ⟨#[34, 36, 121, 34]⟩, .string ⟨#[119]⟩][i]? = some (.string (str (textL.getD i []))) := by
            intro i hi
            have : i = 0 ∨ i = 1 ∨ i = 2 ∨ i = 3 ∨ i = 4 ∨ i = 5 ∨ i = 6 ∨ i = 7 ∨ i = 8 ∨ i = 9 ∨ i = 10 ∨ i = 11 ∨ i = 12 ∨ i = 13 := by omega
            rcases this with rfl | rfl | rfl | rfl | rfl | rfl | rfl | rfl | rfl | rfl | rfl | rfl | rfl | rfl <;> rfl
          exact key i hi14
        have HTX := hide htx
        have HI := hide hi
        generalize ts[k] = tx at *
        clear hta htx hi hzk
        have HXA := hide (HX.out.alloc (.cells #[Value.string ⟨#[97]⟩, .string ⟨#[98]⟩, .string ⟨#[39, 99, 32, 100, 39]⟩, .string ⟨#[36, 120]⟩, .string ⟨#[124]⟩, .string ⟨#[38, 38]⟩, .string ⟨#[124, 124]⟩, .string ⟨#[59]⟩, .string ⟨#[38]⟩, .string ⟨#[60]⟩, .string ⟨#[62]⟩, .string ⟨#[62, 62]⟩, .string ⟨#[34, 36, 121, 34]⟩, .string ⟨#[119]⟩] 9))
        have HOA := hide (HO.out.alloc (.cells #[Value.string ⟨#[97]⟩, .string ⟨#[98]⟩, .string ⟨#[39, 99, 32, 100, 39]⟩, .string ⟨#[36, 120]⟩, .string ⟨#[124]⟩, .string ⟨#[38, 38]⟩, .string ⟨#[124, 124]⟩, .string ⟨#[59]⟩, .string ⟨#[38]⟩, .string ⟨#[60]⟩, .string ⟨#[62]⟩, .string ⟨#[62, 62]⟩, .string ⟨#[34, 36, 121, 34]⟩, .string ⟨#[119]⟩] 9))
        have hL := (Blk.new wr 9 #[Value.string ⟨#[97]⟩, .string ⟨#[98]⟩, .string ⟨#[39, 99, 32, 100, 39]⟩, .string ⟨#[36, 120]⟩, .string ⟨#[124]⟩, .string ⟨#[38, 38]⟩, .string ⟨#[124, 124]⟩, .string ⟨#[59]⟩, .string ⟨#[38]⟩, .string ⟨#[60]⟩, .string ⟨#[62]⟩, .string ⟨#[62, 62]⟩, .string ⟨#[34, 36, 121, 34]⟩, .string ⟨#[119]⟩]).cell i
        rw [HTX.out] at hL
        have hsz := HXA.out.size
        generalize hWA : wr.alloc (.cells #[Value.string ⟨#[97]⟩, .string ⟨#[98]⟩, .string ⟨#[39, 99, 32, 100, 39]⟩, .string ⟨#[36, 120]⟩, .string ⟨#[124]⟩, .string ⟨#[38, 38]⟩, .string ⟨#[124, 124]⟩, .string ⟨#[59]⟩, .string ⟨#[38]⟩, .string ⟨#[60]⟩, .string ⟨#[62]⟩, .string ⟨#[62, 62]⟩, .string ⟨#[34, 36, 121, 34]⟩, .string ⟨#[119]⟩] 9) = WA at *
        have HRD := hide ((Blk.new WA 9 #[.string (str tx)]).rowsF 1 1 rfl)
        have HRW := hide (HOA.out.alloc (.cells #[.string (str tx)] 9))
        have HSZ := hide (show w.heap.size ≤ (WA.alloc (.cells #[.string (str tx)] 9)).heap.size by simp; omega)
        go_wp2_with fail
        refine (HRS.out _).mono ?_
        rintro e w' ⟨rfl, rfl⟩
        try rw [hWA]
        have HWA := hide hWA
        clear hWA
        clear HRS HWA HTX HI HTA
        go_wp2_with (at_builtin; refine wpList_append_any _ rfl (.tmp 15) (.tmp 21) _ rfl w.heap.size 9 i0 _ 1 16 Tryd.underlying42 hi0 hz0 hz1 hz2 rfl (by omega) _ k _ rfl HRW.out _ _ 1 1 _ rfl HRD.out (by simp [Value.oneCell']) (by simp only [maxLen]; omega) (by omega) HSZ.out ?_; intro A7 c7 w7 ho7 hg7 ha7)
        have HO7 := hide (show w7.ownsRow w.heap.size 9 1 (.slice A7 (ts.take (k + 1)).length c7) (ts.take (k + 1)).length (strV (ts.take (k + 1))) from by rw [HNX.out, htk1]; exact ho7)
        have HX7 := hide ((HXA.out.alloc (.cells #[.string (str tx)] 9)).grown hg7 (fun g hg => (HRW.out.lt g hg).1))
        clear ho7 hg7 ha7
        go_roundw
        case rel => exact ⟨k + 1, by omega, by go_num, A7, c7, by rw [htk1], HO7.out, HX7.out⟩
        case measure => simp [intOf]; omega
      · have htk1 : ts.take (k + 1) = ts.take k := by rw [List.take_of_length_le (by omega), List.take_of_length_le (by omega)]
        have HT1 := hide htk1
        clear htk1
        generalize zs.getD k 0 = z at *
        go_wp2_with fail
        go_roundw
        case rel => exact ⟨k + 1, by omega, by go_num, A3, c3, by rw [HT1.out], by rw [HT1.out]; exact HO.out, HX.out⟩
        case measure => simp [intOf]; omega
    · obtain rfl : k = n := by omega
      have htk : ts.take k = ts := List.take_of_length_le (by omega)
      rw [htk] at HO ⊢
      have hjl : (joinS ts).length ≤ 1000 := by have := join_short ts HT5.out; omega
      have HJ := hide (join_any A3 c3 w.heap.size ts wr HO.out (by omega) (by omega))
      clear htk hjl htl
      go_wp2_with fail
      refine HJ.out.mono ?_
      rintro e w2 ⟨rfl, hx2⟩
      have HX2 := hide (HX.out.trans hx2)
      clear hx2
      go_wp2_with fail
      go_ret
      exact ⟨rfl, HX2.out⟩
/-- What jobsOf gives for a text s: jobs, or none. -/
def JobsPost (w : World) (s : List UInt8) (e : Ending) (w' : World) : Prop :=
  ∃ (A : Option Addr) (n c : Nat) (X : Option (List (JobJ Tk))), e = .returned (.tuple #[.slice A n c, .bool X.isSome]) ∧ Ext w w' ∧ (∀ a, splitD s = .bad a → X = none) ∧
    (∀ ts, splitD s = .ok ts → ∃ ls : List Tk, ls.map (·.1) = ts ∧ parseP oT 300 300 ls [] = X ∧ ∀ x ∈ ls, PartsAt w' w.heap.size x) ∧ ∀ js, X = some js → ∃ vs, JobsAt w' w.heap.size js A n c vs ∧ n ≤ 8
set_option maxHeartbeats 8000000 in
set_option maxRecDepth 100000 in
theorem jobsOf_any (s : List UInt8) (hs : s.length ≤ 200) (hp : Printable s) (w : World) :
    Calls Tryd.prog 5 #[.string (str s)] w (JobsPost w s) := by
  have HSP := hide (split_any s hs hp w)
  have HCT := hide (fun ts (h : splitD s = .ok ts) => splitD_count h)
  clear hp
  go_enter Tryd.func5, Tryd.ntmps5
  go_wp2_with fail
  refine HSP.out.mono ?_
  rintro e w1 ⟨hx1, hpost⟩
  have HX1 := hide hx1
  cases hR : splitD s with
  | bad a =>
    rw [hR] at hpost
    have he : e = .returned (.tuple #[.slice none 0 0, .int .i64 (a : Int), .int .i64 22]) := hpost
    subst he
    clear hpost HSP hx1
    have HR := hide hR
    clear hR
    go_wp2_with fail
    go_ret2
    exact ⟨none, 0, 0, none, rfl, HX1.out, fun _ _ => rfl, fun ts h => (by rw [HR.out] at h; cases h), fun js h => by cases h⟩
  | ok ts =>
    rw [hR] at hpost
    obtain ⟨A, c, ls, rfl, hts, htk, h6⟩ := hpost
    have hct := HCT.out ts hR
    have hln : ls.length ≤ 200 := by rw [← hts] at hct; simp at hct; omega
    have HTS := hide hts
    have HTK := hide htk
    have HR := hide hR
    have HPA := hide (parse_any A ls.length c ls 300 w1 (by omega) (by omega) (Reads.of_own htk.own) rfl (fun x hx => by obtain ⟨A', c', e, _⟩ := htk.parts x hx; exact ⟨A', _, c', e⟩))
    clear hts htk hR HSP hx1 hct h6
    go_wp2_with fail
    refine HPA.out.mono ?_
    rintro e w2 ⟨Ac, nc, cc, q, r, rfl, hr0, hx2, hjs⟩
    have HX2 := hide hx2
    have HR0 := hide hr0
    have HJS := hide hjs
    clear hx2 hr0 hjs HPA
    obtain ⟨X, hX⟩ : ∃ X, parseP oT 300 300 ls [] = X := ⟨_, rfl⟩
    rw [hX] at HR0 HJS
    have HXE := hide hX
    clear hX
    go_wp2_with fail
    go_ret2
    refine ⟨Ac, nc, cc, X, by rw [← HR0.out]; rfl, HX1.out.trans HX2.out, fun a h => (by rw [HR.out] at h; cases h), fun us h => ?_, fun js hj => ?_⟩
    · rw [HR.out] at h
      cases h
      exact ⟨ls, HTS.out, HXE.out, fun x hx => (HTK.out.parts x hx).ext HX2.out⟩
    · obtain ⟨vs, h1, h2⟩ := HJS.out js hj
      exact ⟨vs, h1.lower HX1.out.size, h2⟩
end Go.Proofs.YtjbgkcljjgofnaaDoor
