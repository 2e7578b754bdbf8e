/- The contracts of (*fields).loose, value and Expand. -/
import Derived.Test.YtapjfiifpfoppaaDoorWFld
import Derived.Test.YtapjfiifpfoppaaDoorStrK
namespace Go.Proofs.YtapjfiifpfoppaaDoor
open Go.RowKit
set_option linter.unusedVariables false

theorem looseF_snoc (f : FldD) (s : List UInt8) (c : UInt8) : looseF f (s ++ [c]) = if c.toNat = 32 then endF (looseF f s) else addF (looseF f s) [c] := by
  unfold looseF
  rw [List.foldl_append]
  rfl
theorem looseF_size (s : List UInt8) : ∀ f : FldD, (looseF f s).out.length ≤ f.out.length + s.length ∧ (looseF f s).now.length ≤ f.now.length + s.length := by
  induction s with
  | nil => intro f; exact ⟨Nat.le_refl _, Nat.le_refl _⟩
  | cons c s ih =>
    intro f
    have e : looseF f (c :: s) = looseF (if c.toNat = 32 then endF f else addF f [c]) s := rfl
    have := ih (if c.toNat = 32 then endF f else addF f [c])
    rw [e, List.length_cons]
    have h1 : (if c.toNat = 32 then endF f else addF f [c]).out.length ≤ f.out.length + 1 := by
      split
      · simp only [endF]
        split <;> simp
      · simp [addF]
    have h2 : (if c.toNat = 32 then endF f else addF f [c]).now.length ≤ f.now.length + 1 := by
      split
      · simp [endF]
      · simp [addF]
    omega
def LooseRel (w0 : World) (gf : Nat) (f : FldD) (s : List UInt8) (v : Value) (wr : World) : Prop := ∃ k : Nat, k ≤ s.length ∧ v = .int .i64 k ∧ FdAt w0 gf (looseF f (s.take k)) wr
set_option maxHeartbeats 8000000 in
set_option maxRecDepth 100000 in
theorem loose_any (w0 : World) (gf : Nat) (f : FldD) (w : World) (h : FdAt w0 gf f w) (s : List UInt8) (hs : s.length ≤ 1000) (hn : f.now.length ≤ 100000) (ho : f.out.length ≤ 100000) :
    Calls Tryd.prog 27 #[.pointer (some ⟨gf, 0, none⟩), .string (str s)] w fun e w' => e = .returned (.tuple #[]) ∧ FdAt w0 gf (looseF f s) w' := by
  have HM := hide h
  have hss : (str s).size = s.length := str_size s
  clear h
  go_enter Tryd.func27, Tryd.ntmps27
  go_wp2_with fail
  go_loopw [7] (LooseRel w0 gf f s) (fun i _ => s.length - (intOf i).toNat)
  case atStart => exact ⟨0, Nat.zero_le _, rfl, HM.out⟩
  case round =>
    obtain ⟨k, hk, rfl, hm⟩ := hrel
    have HMR := hide hm
    clear hm
    by_cases hlt : k < s.length
    · obtain ⟨c, hc⟩ : ∃ c, s[k]? = some c := ⟨_, List.getElem?_eq_getElem hlt⟩
      have ix := str_index (P := Tryd.prog) Tryd.underlying9 hc
      have hsz := looseF_size (s.take k) f
      rw [List.length_take] at hsz
      have hnext : looseF f (s.take (k + 1)) = if c.toNat = 32 then endF (looseF f (s.take k)) else addF (looseF f (s.take k)) [c] := by
        obtain ⟨_, rfl⟩ := List.getElem?_eq_some_iff.1 hc
        rw [List.take_succ_eq_append_getElem hlt, looseF_snoc]
      have HN := hide hnext
      have hcutr : ∀ W, (Instr.slice 9 (.string (str s)) (some (.int .i64 (k : Int))) (some (.int .i64 ((k : Int) + 1))) none).run Tryd.prog W = .ok (.string (str [c])) W := fun W => by
        have := str_cut (P := Tryd.prog) (T := 9) Tryd.underlying9 s (j := k) (k := k + 1) (by omega) (by omega) W
        have e : (s.drop k).take (k + 1 - k) = [c] := by
          obtain ⟨_, rfl⟩ := List.getElem?_eq_some_iff.1 hc
          rw [List.drop_eq_getElem_cons hlt, show k + 1 - k = 1 by omega]
          rfl
        rw [e] at this
        exact this
      have HEN := hide (endF_any w0 gf (looseF f (s.take k)) wr HMR.out (by omega))
      have HAD := hide (addF_any w0 gf (looseF f (s.take k)) wr HMR.out [c] (by simp) (by omega))
      generalize looseF f (s.take k) = fk at *
      clear hc hnext hsz
      by_cases h32 : c.toNat = 32
      · rw [if_pos h32] at HN
        have t1 : ((c.toNat : Int) == 32) = true := by simp; omega
        clear h32 hcutr
        go_wp2_with fail
        refine HEN.out.mono ?_
        rintro e w2 ⟨rfl, hm2⟩
        have HM2 := hide hm2
        clear hm2 HEN HAD
        go_wp2_with fail
        go_roundw
        case rel => exact ⟨k + 1, by omega, by go_num, by rw [HN.out]; exact HM2.out⟩
        case measure => simp [intOf]; omega
      · rw [if_neg h32] at HN
        have t1 : ((c.toNat : Int) == 32) = false := by simp; omega
        clear h32
        go_wp2_with fail
        refine HAD.out.mono ?_
        rintro e w2 ⟨rfl, hm2⟩
        have HM2 := hide hm2
        clear hm2 HEN HAD hcutr
        go_wp2_with fail
        go_roundw
        case rel => exact ⟨k + 1, by omega, by go_num, by rw [HN.out]; exact HM2.out⟩
        case measure => simp [intOf]; omega
    · obtain rfl : k = s.length := by omega
      rw [List.take_length] at HMR
      go_wp2_with fail
      (first | go_end0 | ((try simp only [Exit.inBlock, Exit.then]); refine bodyPost_ret (results_none rfl _ _ _) rfl ?_))
      exact ⟨rfl, HMR.out⟩
def varC (v : VarD) : List Value := [.string (str v.name), .string (str v.value)]
theorem varC_len (v : VarD) : (varC v).length = 2 := rfl
theorem findV_drop (name : List UInt8) (l : List VarD) (k : Nat) (h : k < l.length) : findV name (l.drop k) = if l[k].name = name then l[k].value else findV name (l.drop (k + 1)) := by
  rw [List.drop_eq_getElem_cons h]
  rfl
/-- What the status comes to as a text. -/
def ItoaAt (w : World) (n : Int) (st : List UInt8) : Prop := ∀ W, Ext w W → Calls Tryd.prog 41 #[.int .i64 n] W fun e W' => e = .returned (.string (str st)) ∧ Ext W W'
def ValRel (w : World) (name : List UInt8) (l : List VarD) (v : Value) (wr : World) : Prop := ∃ k : Nat, k ≤ l.length ∧ v = .int .i64 k ∧ findV name l = findV name (l.drop k) ∧ Ext w wr
theorem str_eq (a b : List UInt8) : ((str a).toList == (str b).toList) = decide (a = b) := by
  rw [Lib.toList_data, Lib.toList_data, str_toList, str_toList]
  by_cases h : a = b
  · simp [h]
  · simp [h]
set_option maxHeartbeats 8000000 in
set_option maxRecDepth 100000 in
theorem value_any (name : List UInt8) (A : Option Addr) (c B : Nat) (vs : List VarD) (n : Int) (st : List UInt8) (w : World) (hr : Reads w B 2 A vs.length (vs.flatMap varC)) (hB : B ≤ w.heap.size) (hv : vs.length ≤ 1000) (hi : ItoaAt w n st) :
    Calls Tryd.prog 26 #[.string (str name), .slice A vs.length c, .int .i64 n] w fun e w' => e = .returned (.string (str (valueD name vs st))) ∧ Ext w w' := by
  have HV := hide (show valueD name vs st = if name = [63] then st else findV name vs from rfl)
  have HR := hide hr
  have HI := hide hi
  have t0 : ((str name).toList == [63]) = decide (name = [63]) := by have := str_eq name [63]; rwa [Lib.toList_data (str [63]), str_toList] at this
  clear hr hi
  by_cases h63 : name = [63]
  · rw [if_pos h63] at HV
    rw [decide_eq_true h63] at t0
    clear h63
    go_enter Tryd.func26, Tryd.ntmps26
    go_wp2_with fail
    refine (HI.out w (Ext.refl w)).mono ?_
    rintro e w2 ⟨rfl, hx⟩
    have HX := hide hx
    clear hx
    go_wp2_with fail
    go_ret
    exact ⟨by rw [HV.out]; rfl, HX.out⟩
  · rw [if_neg h63] at HV
    rw [decide_eq_false h63] at t0
    clear h63
    go_enter Tryd.func26, Tryd.ntmps26
    go_wp2_with fail
    go_loopw [15] (ValRel w name vs) (fun i _ => vs.length - (intOf i).toNat)
    case atStart => exact ⟨0, Nat.zero_le _, rfl, rfl, Ext.refl _⟩
    case round =>
      obtain ⟨k, hk, rfl, hf, hx⟩ := hrel
      have HX := hide hx
      have HF := hide hf
      clear hf
      by_cases hlt : k < vs.length
      · have hrd := hx.reads HR.out hB
        obtain ⟨b, off, rfl, -⟩ := hrd.addr (by omega) (by omega)
        have c0 := Reads.elem varC_len hrd k hlt (by omega) 0 (by omega) (u := .string (str vs[k].name)) rfl
        have c1 := Reads.elem varC_len hrd k hlt (by omega) 1 (by omega) (u := .string (str vs[k].value)) rfl
        rw [Nat.add_zero] at c0
        have HFD := hide (findV_drop name vs k hlt)
        have t1 := str_eq vs[k].name name
        have HXA := hide (HX.out.alloc (.cells #[.string (str vs[k].name), .string (str vs[k].value)] 25))
        generalize vs[k].value = vv at *
        by_cases he : vs[k].name = name
        · rw [decide_eq_true he] at t1
          rw [if_pos he] at HFD
          generalize str vs[k].name = S1 at *
          clear he hrd hx
          go_wp2_with fail
          go_ret
          exact ⟨by rw [HV.out, HF.out, HFD.out]; rfl, HXA.out⟩
        · rw [decide_eq_false he] at t1
          rw [if_neg he] at HFD
          generalize str vs[k].name = S1 at *
          clear he hrd hx
          go_wp2_with fail
          go_roundw
          case rel => exact ⟨k + 1, by omega, by go_num, HF.out.trans HFD.out, HXA.out⟩
          case measure => simp [intOf]; omega
      · obtain rfl : k = vs.length := by omega
        rw [List.drop_length] at HF
        clear hx
        go_wp2_with fail
        go_ret
        exact ⟨by rw [HV.out, HF.out]; rfl, HX.out⟩
end Go.Proofs.YtapjfiifpfoppaaDoor
