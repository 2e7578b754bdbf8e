/- The contract of words.Expand at variables that may be. -/
import Derived.Test.YtapjfiifpfoppaaDoorWExp
namespace Go.Proofs.YtapjfiifpfoppaaDoor
open Go.RowKit
set_option linter.unusedVariables false

def VarsOk (vs : List VarD) : Prop := ∀ v ∈ vs, nameB v.name = true ∧ v.name.length ≤ 1000 ∧ v.value.length ≤ 60
def ExpRel1 (w : World) (l : List VarD) (v : Value) (wr : World) : Prop := ∃ k : Nat, k ≤ l.length ∧ v = .int .i64 k ∧ Ext w wr
/-- The fields so far stay small. -/
def FldOk (f : FldD) (k : Nat) : Prop := f.out.length ≤ k * 1000 ∧ f.now.length ≤ k * 1000
def ExpRel2 (w0 : World) (gf : Nat) (vs : List VarD) (st : List UInt8) (ps : List PartD) (v : Value) (wr : World) : Prop := ∃ k : Nat, k ≤ ps.length ∧ v = .int .i64 k ∧ FdAt w0 gf (partsF vs st ⟨[], [], false⟩ (ps.take k)) wr
theorem partsF_next (vs : List VarD) (st : List UInt8) (f : FldD) (ps : List PartD) (k : Nat) (h : k < ps.length) : partsF vs st f (ps.take (k + 1)) = stepF vs st (partsF vs st f (ps.take k)) ps[k] := by
  unfold partsF
  rw [List.take_succ_eq_append_getElem h, List.foldl_append]
  rfl
theorem findV_len (name : List UInt8) (N : Nat) : ∀ vs : List VarD, (∀ v ∈ vs, v.value.length ≤ N) → (findV name vs).length ≤ N := by
  intro vs
  induction vs with
  | nil => intro _; simp [findV]
  | cons v vs ih =>
    intro h
    simp only [findV]
    split
    · exact h v (by simp)
    · exact ih (fun u hu => h u (by simp [hu]))
theorem valueD_len {name st : List UInt8} {vs : List VarD} (hv : VarsOk vs) (hs : st.length ≤ 60) : (valueD name vs st).length ≤ 60 := by
  unfold valueD
  split
  · exact hs
  · exact findV_len name 60 vs (fun v h => (hv v h).2.2)
theorem stepF_size {vs : List VarD} {st : List UInt8} (hv : VarsOk vs) (hs : st.length ≤ 60) (f : FldD) (p : PartD) (hp : p.text.length ≤ 1000) : (stepF vs st f p).out.length ≤ f.out.length + 60 ∧ (stepF vs st f p).now.length ≤ f.now.length + 1000 := by
  have h1 := valueD_len (name := p.text) hv hs
  unfold stepF
  split
  · simp [addF]; omega
  split
  · have := looseF_size (valueD p.text vs st) f
    omega
  split
  · simp [addF]; omega
  · omega
theorem partsF_size {vs : List VarD} {st : List UInt8} (hv : VarsOk vs) (hs : st.length ≤ 60) : ∀ (ps : List PartD) (f : FldD), (∀ p ∈ ps, p.text.length ≤ 1000) → (partsF vs st f ps).out.length ≤ f.out.length + ps.length * 60 ∧ (partsF vs st f ps).now.length ≤ f.now.length + ps.length * 1000 := by
  intro ps
  induction ps with
  | nil => intro f _; simp [partsF]
  | cons p ps ih =>
    intro f h
    have h1 := stepF_size hv hs f p (h p (by simp))
    have h2 := ih (stepF vs st f p) (fun q hq => h q (by simp [hq]))
    have e : partsF vs st f (p :: ps) = partsF vs st (stepF vs st f p) ps := rfl
    rw [e, List.length_cons]
    omega
set_option maxHeartbeats 16000000 in
set_option maxRecDepth 100000 in
theorem expand_any (ps : List PartD) (Ap : Option Addr) (cp Bp : Nat) (at_ : Int) (A : Option Addr) (c B : Nat) (vs : List VarD) (n : Int) (st : List UInt8) (w : World) (hp : Reads w Bp 3 Ap ps.length (ps.flatMap partC)) (hBp : Bp ≤ w.heap.size)
    (hr : Reads w B 2 A vs.length (vs.flatMap varC)) (hB : B ≤ w.heap.size) (hv : vs.length ≤ 100) (hvs : VarsOk vs) (hst : st.length ≤ 60) (hi : ItoaAt w n st) (hpl : ps.length ≤ 60) (hpt : ∀ p ∈ ps, p.text.length ≤ 1000) (hout : (fieldsD ps vs st).length ≤ 40) :
    Calls Tryd.prog 9 #[.agg #[.string ⟨#[]⟩, .slice Ap ps.length cp, .int .i64 at_], .slice A vs.length c, .int .i64 n] w fun e w' => ∃ A' c', e = .returned (.tuple #[.slice A' (fieldsD ps vs st).length c', .int .i64 0]) ∧ w'.ownsRow w.heap.size 9 1 (.slice A' (fieldsD ps vs st).length c') (fieldsD ps vs st).length (strsV (fieldsD ps vs st)) ∧ Ext w w' := by
  have HP := hide hp
  have HR := hide hr
  have HI := hide hi
  have HVS := hide hvs
  have HPT := hide hpt
  obtain ⟨out, hout2⟩ : ∃ out, fieldsD ps vs st = out := ⟨_, rfl⟩
  have HOUT := hide hout2
  rw [hout2] at hout ⊢
  clear hp hr hi hvs hpt hout2
  have HBT := hide (Blk.new w 36 #[.string ⟨#[]⟩, .slice Ap ps.length cp, .int .i64 at_])
  have HX0 := hide ((Ext.refl w).alloc (.cells #[.string ⟨#[]⟩, .slice Ap ps.length cp, .int .i64 at_] 36))
  go_enter Tryd.func9, Tryd.ntmps9
  go_upto_region 3 with fail
  generalize w.alloc (.cells #[.string ⟨#[]⟩, .slice Ap ps.length cp, .int .i64 at_] 36) = W at *
  go_wp2_with fail
  go_loopw [18] (ExpRel1 W vs) (fun i _ => vs.length - (intOf i).toNat)
  case atStart => exact ⟨0, Nat.zero_le _, rfl, Ext.refl _⟩
  case round =>
    obtain ⟨k, hk, rfl, hx⟩ := hrel
    have HX := hide hx
    clear hx
    by_cases hlt : k < vs.length
    · have hrd := (HX0.out.trans HX.out).reads HR.out hB
      obtain ⟨b, off, rfl, -⟩ := hrd.addr (by omega) (by omega)
      have c0 := Reads.elem varC_len hrd k hlt (by omega) 0 (by omega) (u := .string (str vs[k].name)) rfl
      have c1 := Reads.elem varC_len hrd k hlt (by omega) 1 (by omega) (u := .string (str vs[k].value)) rfl
      rw [Nat.add_zero] at c0
      obtain ⟨k1, k2, k3⟩ := HVS.out _ (List.getElem_mem hlt)
      have z1 : (str vs[k].value).size = vs[k].value.length := str_size _
      have HNA := hide (fun W => name_any vs[k].name W (by omega))
      rw [k1] at HNA
      have HXA := hide (HX.out.alloc (.cells #[.string (str vs[k].name), .string (str vs[k].value)] 25))
      generalize vs[k].value = vv at *
      generalize vs[k].name = nn at *
      clear hrd k1
      go_wp2_with fail
      refine (HNA.out _).mono ?_
      rintro e w2 ⟨rfl, rfl⟩
      clear HNA
      go_wp2_with fail
      go_roundw
      case rel => exact ⟨k + 1, by omega, by go_num, HXA.out⟩
      case measure => simp [intOf]; omega
    · obtain rfl : k = vs.length := by omega
      have HXW := hide (HX0.out.trans HX.out)
      have HBR := hide (HBT.out.ext HX.out)
      clear HX HX0 HBT
      go_upto_region 12 with fail
      have hsz := HXW.out.size
      have hltw := HBR.out.lt
      have HFD := hide (show FdAt w wr.heap.size ⟨[], [], false⟩ (wr.alloc (.cells #[.slice none 0 0, .string ⟨#[]⟩, .bool false] 58)) from ⟨⟨none, 0, Blk.new wr 58 #[.slice none 0 0, .string ⟨#[]⟩, .bool false], World.ownsRow_nil _ _ _ _⟩, hsz, HXW.out.alloc _⟩)
      have HBR2 := hide (HBR.out.alloc (.cells #[.slice none 0 0, .string ⟨#[]⟩, .bool false] 58))
      generalize wr.alloc (.cells #[.slice none 0 0, .string ⟨#[]⟩, .bool false] 58) = W2 at *
      obtain ⟨gf, hgf⟩ : ∃ gf, wr.heap.size = gf := ⟨_, rfl⟩
      rw [hgf] at HFD hsz hltw ⊢
      have t1 : W2.cell? ⟨w.heap.size, 1, none⟩ = some (.slice Ap ps.length cp) := HBR2.out.cell 1
      clear hgf HBR
      go_wp2_with fail
      go_loopw [36] (ExpRel2 w gf vs st ps) (fun i _ => ps.length - (intOf i).toNat)
      case atStart => exact ⟨0, Nat.zero_le _, rfl, HFD.out⟩
      case round =>
        obtain ⟨q, hq, rfl, hm⟩ := hrel
        have HM := hide hm
        clear hm
        have hszs := partsF_size HVS.out hst (ps.take q) ⟨[], [], false⟩ (fun p hp => HPT.out p (List.mem_of_mem_take hp))
        have hml : (ps.take q).length ≤ 60 := by rw [List.length_take]; omega
        simp only [List.length_nil, Nat.zero_add] at hszs
        have ho1 : (partsF vs st ⟨[], [], false⟩ (ps.take q)).out.length ≤ 3600 := Nat.le_trans hszs.1 (by omega)
        have ho2 : (partsF vs st ⟨[], [], false⟩ (ps.take q)).now.length ≤ 60000 := Nat.le_trans hszs.2 (by omega)
        clear hszs hml
        by_cases hqt : q < ps.length
        · have HNX := hide (partsF_next vs st ⟨[], [], false⟩ ps q hqt)
          have hxw := HM.out.ext
          have hrd := hxw.reads HP.out hBp
          obtain ⟨b, off, rfl, -⟩ := hrd.addr (by omega) (by omega)
          have c0 := Reads.elem partC_len hrd q hqt (by omega) 0 (by omega) (u := .string (str ps[q].text)) rfl
          have c1 := Reads.elem partC_len hrd q hqt (by omega) 1 (by omega) (u := .bool ps[q].var) rfl
          have c2 := Reads.elem partC_len hrd q hqt (by omega) 2 (by omega) (u := .bool ps[q].quoted) rfl
          rw [Nat.add_zero] at c0
          have hpl' := HPT.out _ (List.getElem_mem hqt)
          have HXA := hide ((Ext.refl wr).alloc (.cells #[.string (str ps[q].text), .bool ps[q].var, .bool ps[q].quoted] 47))
          have hvl := valueD_len (name := ps[q].text) HVS.out hst
          generalize partsF vs st ⟨[], [], false⟩ (ps.take q) = fk at *
          have HADD := hide (fun (x : List UInt8) (hx : x.length ≤ 1000) (W : World) (hW : Ext wr W) => addF_any w gf fk W (HM.out.extend hW) x (by omega) (by omega))
          have HLO := hide (fun (W : World) (hW : Ext wr W) => loose_any w gf fk W (HM.out.extend hW) (valueD ps[q].text vs st) (by omega) (by omega) (by omega))
          have HVA := hide (fun (W : World) (hW : Ext wr W) => value_any ps[q].text A c B vs n st W ((hxw.trans hW).reads HR.out hB) (Nat.le_trans hB (hxw.trans hW).size) (by omega) (fun W2 h2 => HI.out W2 ((hxw.trans hW).trans h2)))
          have te : (str ps[q].text).toList.isEmpty = decide (ps[q].text = []) := by rw [Lib.toList_data, str_toList]; cases ps[q].text <;> rfl
          have HSF := hide (show stepF vs st fk ps[q] = (if ps[q].var = true ∧ ps[q].quoted = true then addF fk (valueD ps[q].text vs st) else if ps[q].var = true then looseF fk (valueD ps[q].text vs st) else if ps[q].quoted = true ∨ ps[q].text ≠ [] then addF fk ps[q].text else fk) from rfl)
          generalize ps[q] = p at *
          obtain ⟨x, v, u⟩ := p
          dsimp only at *
          clear hrd hxw
          cases v
          · cases u
            · by_cases hx0 : x = []
              · have HSE := hide (show stepF vs st fk ⟨x, false, false⟩ = fk by rw [HSF.out]; simp [hx0])
                rw [decide_eq_true hx0] at te
                have HM9 := hide (HM.out.extend HXA.out)
                clear hx0 HADD HLO HVA HSF
                go_wp2_with fail
                go_roundw
                case rel => exact ⟨q + 1, by omega, by go_num, by rw [HNX.out, HSE.out]; exact HM9.out⟩
                case measure => simp [intOf]; omega
              · have HSE := hide (show stepF vs st fk ⟨x, false, false⟩ = addF fk x by rw [HSF.out]; simp [hx0])
                rw [decide_eq_false hx0] at te
                clear hx0 HLO HVA HSF
                go_wp2_with fail
                refine (HADD.out x (by omega) _ HXA.out).mono ?_
                rintro e w9 ⟨rfl, hm9⟩
                have HM9 := hide hm9
                clear hm9
                go_wp2_with fail
                go_roundw
                case rel => exact ⟨q + 1, by omega, by go_num, by rw [HNX.out, HSE.out]; exact HM9.out⟩
                case measure => simp [intOf]; omega
            · have HSE := hide (show stepF vs st fk ⟨x, false, true⟩ = addF fk x by rw [HSF.out]; simp)
              clear te HLO HVA HSF
              go_wp2_with fail
              refine (HADD.out x (by omega) _ HXA.out).mono ?_
              rintro e w9 ⟨rfl, hm9⟩
              have HM9 := hide hm9
              clear hm9
              go_wp2_with fail
              go_roundw
              case rel => exact ⟨q + 1, by omega, by go_num, by rw [HNX.out, HSE.out]; exact HM9.out⟩
              case measure => simp [intOf]; omega
          · cases u
            · have HSE := hide (show stepF vs st fk ⟨x, true, false⟩ = looseF fk (valueD x vs st) by rw [HSF.out]; simp)
              clear te HADD HSF
              go_wp2_with fail
              refine (HVA.out _ HXA.out).mono ?_
              rintro e w8 ⟨rfl, hx8⟩
              have HX8 := hide (HXA.out.trans hx8)
              clear hx8 HVA
              go_wp2_with fail
              refine (HLO.out _ HX8.out).mono ?_
              rintro e w9 ⟨rfl, hm9⟩
              have HM9 := hide hm9
              clear hm9
              go_wp2_with fail
              go_roundw
              case rel => exact ⟨q + 1, by omega, by go_num, by rw [HNX.out, HSE.out]; exact HM9.out⟩
              case measure => simp [intOf]; omega
            · have HSE := hide (show stepF vs st fk ⟨x, true, true⟩ = addF fk (valueD x vs st) by rw [HSF.out]; simp)
              clear te HLO HSF
              go_wp2_with fail
              refine (HVA.out _ HXA.out).mono ?_
              rintro e w8 ⟨rfl, hx8⟩
              have HX8 := hide (HXA.out.trans hx8)
              clear hx8 HVA
              go_wp2_with fail
              refine (HADD.out _ (by omega) _ HX8.out).mono ?_
              rintro e w9 ⟨rfl, hm9⟩
              have HM9 := hide hm9
              clear hm9
              go_wp2_with fail
              go_roundw
              case rel => exact ⟨q + 1, by omega, by go_num, by rw [HNX.out, HSE.out]; exact HM9.out⟩
              case measure => simp [intOf]; omega
        · obtain rfl : q = ps.length := by omega
          rw [List.take_length] at HM ho1 ho2
          have HEN := hide (endF_any w gf _ wr HM.out (by omega))
          go_wp2_with fail
          refine HEN.out.mono ?_
          rintro e w9 ⟨rfl, hm9⟩
          have he : (endF (partsF vs st ⟨[], [], false⟩ ps)).out = out := HOUT.out
          obtain ⟨A9, c9, hb9, ho9⟩ := hm9.box
          rw [he] at hb9 ho9
          have e0 : w9.cell? ⟨gf, 0, none⟩ = some (.slice A9 out.length c9) := hb9.cell 0
          have HX9 := hide hm9.ext
          have hA9 : A9 = none → out.length = 0 := fun hn => by
            obtain ⟨A', c', hv, -, -, h0⟩ := own_form ho9
            injection hv with h1 _ _
            exact (h0 (h1 ▸ hn)).1
          have HCL := hide (sclone_any A9 out.length c9 w9.heap.size (strsV out) w9 (Reads.of_own ho9) (by intro u hu; obtain ⟨y, -, rfl⟩ := List.mem_map.1 hu; rfl) (Nat.le_refl _) (by omega) hA9)
          clear hm9 hb9 ho9 he HEN hA9
          go_wp2_with fail
          refine HCL.out.mono ?_
          rintro e w10 ⟨A10, c10, rfl, ho10, hx10⟩
          have HO10 := hide ho10
          have HX10 := hide (HX9.out.trans hx10)
          have hs9 := HX9.out.size
          clear ho10 hx10 HCL
          go_wp2_with fail
          go_ret2
          exact ⟨A10, c10, rfl, own_mono HO10.out hs9, HX10.out⟩
end Go.Proofs.YtapjfiifpfoppaaDoor
