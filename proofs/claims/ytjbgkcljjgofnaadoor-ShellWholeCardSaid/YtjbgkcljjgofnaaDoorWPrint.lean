/- The contract of words.Print. -/
import Derived.Test.YtjbgkcljjgofnaaDoorWQuote
namespace Go.Proofs.YtjbgkcljjgofnaaDoor
open Go.RowKit
set_option linter.unusedVariables false

theorem bld_made (w : World) (B : Nat) (hB : B ≤ w.heap.size) : BldAt (w.alloc (.cells #[.pointer none, .slice none 0 0] 58)) B w.heap.size [] := .inl ⟨hB, .slice none 0 0, heap_alloc_new w _, World.ownsRow_nil _ _ _ _, by simp [Value.ownBlock]⟩
theorem BldAt.alloc {w : World} {B b : Nat} {l : List UInt8} (h : BldAt w B b l) (o : Obj) : BldAt (w.alloc o) B b l := h.below ((Ext.refl w).alloc o).below (Nat.le_refl _)
def PrintRel (w : World) (gb : Nat) (ps : List PartD) (v : Value) (wr : World) : Prop := ∃ k : Nat, k ≤ ps.length ∧ v = .int .i64 k ∧ BldAt wr w.heap.size gb ((ps.take k).flatMap printP) ∧ Ext w wr
theorem printP_len (p : PartD) : (printP p).length ≤ 4 * p.text.length + 3 := by
  have := escQ_len p.text
  obtain ⟨x, v, u⟩ := p
  cases v <;> cases u <;> simp [printP, quoteL] at this ⊢ <;> omega
theorem print_len (ps : List PartD) (N : Nat) (h : ∀ p ∈ ps, p.text.length ≤ N) : (ps.flatMap printP).length ≤ ps.length * (4 * N + 3) := by
  induction ps with
  | nil => simp
  | cons p l ih =>
    have h1 := printP_len p
    have h2 := h p (by simp)
    have h3 := ih (fun q hq => h q (by simp [hq]))
    rw [List.flatMap_cons, List.length_append, List.length_cons, Nat.succ_mul]
    omega
theorem print_next (ps : List PartD) (k : Nat) (h : k < ps.length) : (ps.take (k + 1)).flatMap printP = (ps.take k).flatMap printP ++ printP ps[k] := by
  rw [List.take_succ_eq_append_getElem h, List.flatMap_append]
  simp
set_option maxHeartbeats 8000000 in
set_option maxRecDepth 100000 in
theorem print_any (t : TokD) (A : Option Addr) (c B : Nat) (w : World) (hr : Reads w B 3 A t.parts.length (t.parts.flatMap partC)) (hB : B ≤ w.heap.size) (hn : t.parts.length ≤ 1000) (hx : ∀ p ∈ t.parts, p.text.length ≤ 1000) (hm : MaxAt w) (at_ : Int) :
    Calls Tryd.prog 14 #[.agg #[.string (str t.op), .slice A t.parts.length c, .int .i64 at_]] w fun e w' => e = .returned (.string (str (printTok t))) ∧ Ext w w' := by
  obtain ⟨op, ps, ta⟩ := t
  dsimp only at hr hn hx ⊢
  have HPT := hide (show printTok ⟨op, ps, ta⟩ = if op ≠ [] then op else ps.flatMap printP from rfl)
  have HR := hide hr
  have HX := hide hx
  have HM := hide hm
  clear hr hx hm
  by_cases ho : op = []
  · subst ho
    rw [if_neg (fun k => k rfl)] at HPT
    have te : (str ([] : List UInt8)).toList.isEmpty = true := by rw [Lib.toList_data, str_toList]; rfl
    have HTE := hide te
    have hstr : str ([] : List UInt8) = ⟨#[]⟩ := rfl
    rw [hstr] at te ⊢
    clear hstr
    go_enter Tryd.func14, Tryd.ntmps14
    go_upto_region 4 with fail
    have HX1 := hide (((Ext.refl w).alloc (.cells #[.string ⟨#[]⟩, .slice A ps.length c, .int .i64 at_] 47)).alloc (.cells #[.pointer none, .slice none 0 0] 58))
    have HBT := hide ((Blk.new w 47 #[.string ⟨#[]⟩, .slice A ps.length c, .int .i64 at_]).alloc (.cells #[.pointer none, .slice none 0 0] 58))
    have HBB := hide (bld_made (w.alloc (.cells #[.string ⟨#[]⟩, .slice A ps.length c, .int .i64 at_] 47)) w.heap.size (by simp))
    rw [show (w.alloc (.cells #[.string ⟨#[]⟩, .slice A ps.length c, .int .i64 at_] 47)).heap.size = w.heap.size + 1 by simp] at HBB
    try rw [show (w.alloc (.cells #[.string ⟨#[]⟩, .slice A ps.length c, .int .i64 at_] 47)).heap.size = w.heap.size + 1 by simp]
    obtain ⟨gb, hgb⟩ : ∃ gb, w.heap.size + 1 = gb := ⟨_, rfl⟩
    rw [hgb] at HBB ⊢
    generalize (w.alloc (.cells #[.string ⟨#[]⟩, .slice A ps.length c, .int .i64 at_] 47)).alloc (.cells #[.pointer none, .slice none 0 0] 58) = W at *
    have t1 : W.cell? ⟨w.heap.size, 1, none⟩ = some (.slice A ps.length c) := HBT.out.cell 1
    have hgw : w.heap.size ≤ gb := by omega
    clear te hgb
    go_wp2_with fail
    go_loopw [14] (PrintRel w gb ps) (fun i _ => ps.length - (intOf i).toNat)
    case atStart => exact ⟨0, Nat.zero_le _, rfl, HBB.out, HX1.out⟩
    case round =>
      obtain ⟨k, hk, rfl, hbld, hx⟩ := hrel
      have HBL := hide hbld
      have HXR := hide hx
      clear hbld hx
      by_cases hlt : k < ps.length
      · have HN := hide (print_next ps k hlt)
        have hlen := print_len (ps.take k) 1000 (fun p hp => HX.out p (List.mem_of_mem_take hp))
        have hpl := printP_len ps[k]
        have hxk := HX.out ps[k] (List.getElem_mem hlt)
        have hll : ((ps.take k).flatMap printP).length ≤ 4003000 := by
          refine Nat.le_trans hlen ?_
          rw [List.length_take]
          have : min k ps.length ≤ 1000 := by omega
          calc min k ps.length * (4 * 1000 + 3) ≤ 1000 * (4 * 1000 + 3) := Nat.mul_le_mul_right _ this
            _ ≤ 4003000 := by decide
        have hrd := HXR.out.reads HR.out hB
        obtain ⟨b, off, rfl, -⟩ := hrd.addr (by omega) (by omega)
        have hv : ∀ (j : Nat) (hj : j < 3) (u : Value), (partC ps[k])[j]? = some u → wr.cell? ⟨b, off + k * 3 + j, none⟩ = some u := fun j hj u hu => Reads.elem partC_len hrd k hlt (by omega) j hj hu
        have c0 := hv 0 (by omega) (.string (str ps[k].text)) rfl
        have c1 := hv 1 (by omega) (.bool ps[k].var) rfl
        have c2 := hv 2 (by omega) (.bool ps[k].quoted) rfl
        rw [Nat.add_zero] at c0
        have hsz := HXR.out.size
        have HPP := hide (show printP ps[k] = (if ps[k].var = true then (if ps[k].quoted = true then 34 :: 36 :: (ps[k].text ++ [34]) else 36 :: ps[k].text) else if ps[k].quoted = true then quoteL ps[k].text else ps[k].text) from rfl)
        have HWR := hide (fun (y : List UInt8) (W2 : World) (hx2 : Ext wr W2) (hy : y.length ≤ 5000) => bld_write w.heap.size gb ((ps.take k).flatMap printP) y W2 (HBL.out.below hx2.below (Nat.le_refl _)) (by omega) (Nat.le_trans hsz hx2.size))
        have HMX := hide (fun (W2 : World) (hx2 : Ext wr W2) => quote_any ps[k].text (by omega) W2 (HM.out.ext (HXR.out.trans hx2)))
        have HXA := hide ((Ext.refl wr).alloc (.cells #[.string (str ps[k].text), .bool ps[k].var, .bool ps[k].quoted] 60))
        have s1 : (⟨#[34, 36]⟩ : ByteArray) ++ str ps[k].text = str (34 :: 36 :: ps[k].text) := str_append [34, 36] _
        have s2 : str (34 :: 36 :: ps[k].text) ++ ⟨#[34]⟩ = str (34 :: 36 :: (ps[k].text ++ [34])) := str_append (34 :: 36 :: ps[k].text) [34]
        have s3 : (⟨#[36]⟩ : ByteArray) ++ str ps[k].text = str (36 :: ps[k].text) := str_append [36] _
        have z1 : (str ps[k].text).size = ps[k].text.length := str_size _
        have z2 : (str (34 :: 36 :: ps[k].text)).size = ps[k].text.length + 2 := str_size _
        generalize ps[k] = p at *
        obtain ⟨x, v, u⟩ := p
        dsimp only at *
        clear hv hrd hlen hpl hll HPP
        cases v
        · cases u
          · clear s1 s2 s3 z1 z2
            go_wp2_with fail
            refine (HWR.out (x) _ HXA.out (by first | omega | (simp; omega))).mono ?_
            rintro e w2 ⟨rfl, hb2, hbel⟩
            have HB2 := hide hb2
            have HX2 := hide ((HXR.out.trans HXA.out).trans' hbel)
            clear hb2 hbel c0 c1 c2 HWR HMX HXA
            go_wp2_with fail
            go_roundw
            case rel => exact ⟨k + 1, by omega, by go_num, by rw [HN.out, show printP ⟨x, false, false⟩ = x from rfl]; exact HB2.out, HX2.out⟩
            case measure => simp [intOf]; omega
          · clear s1 s2 s3 z1 z2
            go_wp2_with fail
            refine (HMX.out _ HXA.out).mono ?_
            rintro e w3 ⟨rfl, hx3⟩
            have HX3 := hide (HXA.out.trans hx3)
            have hql := escQ_len x
            have HQL := hide (show (quoteL x).length ≤ 5000 by simp [quoteL]; omega)
            clear hx3 hql
            go_wp2_with fail
            refine (HWR.out (quoteL x) _ HX3.out HQL.out).mono ?_
            rintro e w2 ⟨rfl, hb2, hbel⟩
            have HB2 := hide hb2
            have HX2 := hide ((HXR.out.trans HX3.out).trans' hbel)
            clear hb2 hbel c0 c1 c2 HWR HMX HXA
            go_wp2_with fail
            go_roundw
            case rel => exact ⟨k + 1, by omega, by go_num, by rw [HN.out, show printP ⟨x, false, true⟩ = quoteL x from rfl]; exact HB2.out, HX2.out⟩
            case measure => simp [intOf]; omega
        · cases u
          · clear s1 s2 z2
            go_wp2_with fail
            refine (HWR.out (36 :: x) _ HXA.out (by first | omega | (simp; omega))).mono ?_
            rintro e w2 ⟨rfl, hb2, hbel⟩
            have HB2 := hide hb2
            have HX2 := hide ((HXR.out.trans HXA.out).trans' hbel)
            clear hb2 hbel c0 c1 c2 HWR HMX HXA
            go_wp2_with fail
            go_roundw
            case rel => exact ⟨k + 1, by omega, by go_num, by rw [HN.out, show printP ⟨x, true, false⟩ = 36 :: x from rfl]; exact HB2.out, HX2.out⟩
            case measure => simp [intOf]; omega
          · clear s3
            go_wp2_with fail
            refine (HWR.out (34 :: 36 :: (x ++ [34])) _ HXA.out (by first | omega | (simp; omega))).mono ?_
            rintro e w2 ⟨rfl, hb2, hbel⟩
            have HB2 := hide hb2
            have HX2 := hide ((HXR.out.trans HXA.out).trans' hbel)
            clear hb2 hbel c0 c1 c2 HWR HMX HXA
            go_wp2_with fail
            go_roundw
            case rel => exact ⟨k + 1, by omega, by go_num, by rw [HN.out, show printP ⟨x, true, true⟩ = 34 :: 36 :: (x ++ [34]) from rfl]; exact HB2.out, HX2.out⟩
            case measure => simp [intOf]; omega
      · obtain rfl : k = ps.length := by omega
        rw [List.take_length] at HBL
        have HST := hide (bld_string w.heap.size gb (ps.flatMap printP) wr HBL.out HXR.out.size)
        go_wp2_with fail
        refine HST.out.mono ?_
        rintro e w2 ⟨rfl, hbel⟩
        have HX2 := hide (HXR.out.trans' hbel)
        clear hbel HST
        go_wp2_with fail
        go_ret
        exact ⟨by rw [HPT.out]; rfl, HX2.out⟩
  · rw [if_pos ho] at HPT
    have te : (str op).toList.isEmpty = false := by rw [Lib.toList_data, str_toList]; cases op with | nil => exact absurd rfl ho | cons => rfl
    have HX0 := hide ((Ext.refl w).alloc (.cells #[.string (str op), .slice A ps.length c, .int .i64 at_] 47))
    clear ho
    go_enter Tryd.func14, Tryd.ntmps14
    go_wp2_with fail
    go_ret
    exact ⟨by rw [HPT.out]; rfl, HX0.out⟩
end Go.Proofs.YtjbgkcljjgofnaaDoor
