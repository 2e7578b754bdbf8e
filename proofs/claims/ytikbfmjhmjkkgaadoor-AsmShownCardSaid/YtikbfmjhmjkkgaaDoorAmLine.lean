/- The contract of (*Unit).line. -/
import Derived.Test.YtikbfmjhmjkkgaaDoorAmOrder
import Derived.Test.YtikbfmjhmjkkgaaDoorAmMark
import Derived.StillTailTactics
namespace Go.Proofs.YtikbfmjhmjkkgaaDoor
open Go.RowKit
set_option linter.unusedVariables false

theorem fieldsGo_sm : ∀ (l cur : Bs), (∀ x ∈ Lib.fieldsGo cur l, x.length ≤ cur.length + l.length) ∧ (Lib.fieldsGo cur l).length ≤ l.length + 1 := by
  intro l
  induction l with
  | nil =>
    intro cur
    unfold Lib.fieldsGo
    split
    · simp
    · simp
  | cons b l ih =>
    intro cur
    unfold Lib.fieldsGo
    split
    · split
      · have := ih []
        refine ⟨fun x hx => ?_, ?_⟩
        · have := this.1 x hx; simp at this ⊢; omega
        · have := this.2; simp at this ⊢; omega
      · have := ih []
        refine ⟨fun x hx => ?_, ?_⟩
        · rcases List.mem_cons.1 hx with rfl | hx
          · simp
          · have := this.1 x hx; simp at this ⊢; omega
        · have := this.2; simp at this ⊢; omega
    · have := ih (cur ++ [b])
      refine ⟨fun x hx => ?_, ?_⟩
      · have := this.1 x hx; simp at this ⊢; omega
      · have := this.2; simp at this ⊢; omega
theorem fields_sm (l : Bs) : (∀ x ∈ Lib.fields l, x.length ≤ l.length) ∧ (Lib.fields l).length ≤ l.length + 1 := by
  have := fieldsGo_sm l []
  exact ⟨fun x hx => by have := this.1 x hx; simpa using this, this.2⟩
theorem cut_pre (s sep : Bs) : ∃ k, (Lib.cut s sep).1 = s.take k := by
  unfold Lib.cut
  split
  · exact ⟨_, rfl⟩
  · exact ⟨s.length, by simp⟩
theorem trim_len (s p : Bs) : (Lib.trimSuffix s p).length ≤ s.length := by
  unfold Lib.trimSuffix
  split
  · simp
  · exact Nat.le_refl _
theorem okCh_lt {c : UInt8} (h : okCh c = true) : c.toNat < 128 := by
  unfold okCh at h
  have := of_decide_eq_true h
  omega
theorem FsAt.of_blk {w : World} {f : List Bs} {g : Nat} (h : Blk w g 9 ((f.map fun l => Value.string ⟨l.toArray⟩).toArray)) (h1 : ∀ x ∈ f, x.length ≤ 4000) (h2 : f.length ≤ 4000) : FsAt w (some ⟨g, 0, none⟩) f.length f := by
  have hb := rows_blk h f.length 1 (by simp)
  have e : ((f.map fun l => Value.string ⟨l.toArray⟩).toArray).toList = strsV f := by simp [strsV, str]
  rw [e] at hb
  exact ⟨hb, rfl, h1, h2⟩
def LnRel (w : World) (s : Bs) (v : Value) (wr : World) : Prop := ∃ k : Nat, k ≤ s.length ∧ v = .int .i64 (k : Int) ∧ wr = w ∧ ∀ j (h : j < s.length), j < k → okCh s[j] = true
/-- What stands ahead of a line's instruction. -/
def InCut (w0 wk : World) (gu : Nat) (u : UnD) (F : List Bs) (v6 : Value) (wx : World) : Prop :=
  ∃ (u' : UnD) (F' : List Bs) (A : Option Addr) (n c : Nat), fieldsL u F = instL u' F' ∧ v6 = .slice A n c ∧ n ≤ c ∧ FsAt wx A n F' ∧ UnOk w0 wk gu u' wx ∧ u'.code.length ≤ 128 ∧ u'.needs.length ≤ 200 ∧ u'.marks.length ≤ 2091
set_option maxHeartbeats 16000000 in
set_option maxRecDepth 100000 in
theorem line_any (w0 wk : World) (gu : Nat) (u : UnD) (s : Bs) (w : World) (h : UnOk w0 wk gu u w) (hc : u.code.length ≤ 128) (hn : u.needs.length ≤ 200) (hm : u.marks.length ≤ 2090) (hs : s.length ≤ 2100) (hL0 : LibOk w0) :
    Calls Tryd.prog 16 #[.pointer (some ⟨gu, 0, none⟩), .string (str s)] w fun e w' => ResOut w0 wk gu (lineL u s) e w' := by
  have HX0 := hide h.ext
  have HU := hide h
  have HL0 := hide hL0
  have HL := hide (hL0.ext h.ext)
  have HSL := hide hs
  have HUC := hide hc
  have HUN := hide hn
  have HUM := hide hm
  have HLN := hide (show lineL u s = if s.all okCh = true then fieldsL u (Go.Lib.fields (Go.Lib.cut s [59]).1) else .err 22 from rfl)
  have hls := str_size s
  have hlen : ∀ W : World, (Builtin.len_ #[9] 3 #[.string (str s)]).run Tryd.prog W = .ok (.int .i64 (s.length : Int)) W := fun W => by
    rw [run_len_string W _ _ _ Tryd.underlying9, hls]; rfl
  clear h hL0 hc hn hm hls hs
  go_enter Tryd.func16, Tryd.ntmps16
  go_wp2_with fail
  clear hlen
  go_loopw [10] (LnRel w s) (fun v _ => s.length - (intOf v).toNat)
  case atStart => exact ⟨0, Nat.zero_le _, rfl, rfl, fun j h h0 => by omega⟩
  case round =>
    obtain ⟨k, hk, rfl, rfl, hok⟩ := hrel
    have hk22 : k ≤ 2100 := Nat.le_trans hk HSL.out
    have HOK := hide hok
    clear hok
    by_cases hlt : k < s.length
    · obtain ⟨ch, hch⟩ : ∃ ch, s[k]'hlt = ch := ⟨_, rfl⟩
      have hix := str_index (P := Tryd.prog) Tryd.underlying9 (l := s) (k := k) (c := ch) (by rw [List.getElem?_eq_getElem hlt, hch])
      have hx256 := ch.toNat_lt
      have hoc : okCh ch = decide (ch.toNat = 9 ∨ (32 ≤ ch.toNat ∧ ch.toNat ≤ 126)) := rfl
      have HLT := hide hlt
      have HCH := hide hch
      clear hch
      cases hb : okCh ch with
      | true =>
        have HB := hide hb
        rw [hb] at hoc
        have hoc2 := of_decide_eq_true hoc.symm
        generalize ch.toNat = x at hix hoc2 hx256
        clear hoc hb
        have HNX := hide (show ∀ j (h : j < s.length), j < k + 1 → okCh s[j] = true from fun j h1 h2 => by
          by_cases e : j = k
          · subst e; rw [HCH.out]; exact HB.out
          · exact HOK.out j h1 (by omega))
        rcases hoc2 with h9 | ⟨h32, h126⟩
        · subst h9
          go_wp2_with fail
          go_roundw
          case rel => exact ⟨k + 1, by have := HLT.out; omega, by go_num, rfl, HNX.out⟩
          case measure => simp [intOf]; have := HLT.out; omega
        · have t1 : ((x : Int) != 9) = true := by simp; omega
          have t1' : ((x : Int) == 9) = false := by simp; omega
          have t2 : decide ((x : Int) < 32) = false := decide_eq_false (by omega)
          have t2' : decide (x < 32) = false := decide_eq_false (by omega)
          have t3 : decide ((126 : Int) < (x : Int)) = false := decide_eq_false (by omega)
          have t3' : decide (126 < x) = false := decide_eq_false (by omega)
          go_wp2_with fail
          go_roundw
          case rel => exact ⟨k + 1, by have := HLT.out; omega, by go_num, rfl, HNX.out⟩
          case measure => simp [intOf]; have := HLT.out; omega
      | false =>
        rw [hb] at hoc
        have hoc2 := of_decide_eq_false hoc.symm
        have hall : ¬ s.all okCh = true := fun e => by
          rw [List.all_eq_true] at e
          have := e (s[k]'hlt) (List.getElem_mem hlt)
          rw [HCH.out, hb] at this
          cases this
        rw [if_neg hall] at HLN
        generalize ch.toNat = x at hix hoc2 hx256
        clear hoc hb hall
        have t1 : ((x : Int) != 9) = true := by simp; omega
        have t1' : ((x : Int) == 9) = false := by simp; omega
        by_cases h32 : x < 32
        · have t2 : decide ((x : Int) < 32) = true := decide_eq_true (by omega)
          have t2' : decide (x < 32) = true := decide_eq_true (by omega)
          go_wp2_with fail
          go_ret
          rw [HLN.out]
          exact ⟨rfl, by decide, HX0.out⟩
        · have t2 : decide ((x : Int) < 32) = false := decide_eq_false (by omega)
          have t2' : decide (x < 32) = false := decide_eq_false (by omega)
          have t3 : decide ((126 : Int) < (x : Int)) = true := decide_eq_true (by omega)
          have t3' : decide (126 < x) = true := decide_eq_true (by omega)
          go_wp2_with fail
          go_ret
          rw [HLN.out]
          exact ⟨rfl, by decide, HX0.out⟩
    · obtain rfl : k = s.length := by omega
      have hall : s.all okCh = true := by
        rw [List.all_eq_true]
        intro x hx
        obtain ⟨j, hj, rfl⟩ := List.getElem_of_mem hx
        exact HOK.out j hj hj
      rw [if_pos hall] at HLN
      have HALL := hide hall
      clear hall hlt
      obtain ⟨m, hmax⟩ := HL.out.max
      have HCUT := hide (Tryd.strings_Cut (str s) (str [59]) m wr (by rw [str_size]; have := HSL.out; omega) hmax)
      rw [str_list, str_list] at HCUT
      obtain ⟨q, hq⟩ : ∃ q, (Lib.cut s [59]).1 = q := ⟨_, rfl⟩
      have HQ := hide (show q.length ≤ 2100 ∧ ∀ c ∈ q, okCh c = true from by
        obtain ⟨k, hk⟩ := cut_pre s [59]
        rw [← hq, hk]
        refine ⟨by have := HSL.out; simp; omega, fun c hc => ?_⟩
        exact List.all_eq_true.1 HALL.out c (List.mem_of_mem_take hc))
      rw [hq] at HLN HCUT
      clear hq hmax HOK
      go_wp2_with fail
      refine HCUT.out.mono ?_
      rintro e w1 ⟨rfl, nd, rfl⟩
      have hx1 := (Ext.refl wr).drewN nd
      have HU1 := hide (HU.out.to hx1)
      have HL1 := hide (HL.out.ext hx1)
      generalize wr.drewN nd = W1 at *
      have HFS := hide (Tryd.strings_Fields_laid (str q) W1 (by rw [str_size]; have := HQ.out.1; omega) (fun j b hb => by
        rw [str_list] at hb
        exact okCh_lt (HQ.out.2 b (List.mem_of_getElem? hb))) HL1.out.asc)
      rw [str_list] at HFS
      obtain ⟨F, hF⟩ : ∃ F, Lib.fields q = F := ⟨_, rfl⟩
      have HFM := hide (show (∀ x ∈ F, x.length ≤ 2100) ∧ F.length ≤ 2101 from by
        have := fields_sm q
        rw [hF] at this
        have hq := HQ.out.1
        exact ⟨fun x hx => Nat.le_trans (this.1 x hx) hq, Nat.le_trans this.2 (by omega)⟩)
      rw [hF] at HLN HFS
      have HBF := hide (Blk.new W1 9 ((F.map fun l => Value.string ⟨l.toArray⟩).toArray))
      have HX2 := hide ((Ext.refl W1).alloc (.cells ((F.map fun l => Value.string ⟨l.toArray⟩).toArray) 9))
      clear hF hx1
      go_wp2_with fail
      refine HFS.out.mono ?_
      rintro e w2 ⟨rfl, rfl⟩
      have HU2 := hide (HU1.out.to HX2.out)
      obtain ⟨g, hg⟩ : ∃ x, W1.heap.size = x := ⟨_, rfl⟩
      rw [hg] at HBF ⊢
      generalize W1.alloc (.cells ((F.map fun l => Value.string ⟨l.toArray⟩).toArray) 9) = W2 at *
      obtain ⟨n, hFn⟩ : ∃ x, F.length = x := ⟨_, rfl⟩
      rw [hFn] at ⊢
      have HFL := hide hFn
      have HFN := hide (show FsAt W2 (some ⟨g, 0, none⟩) n F from by rw [← hFn]; exact FsAt.of_blk HBF.out (fun x hx => Nat.le_trans (HFM.out.1 x hx) (by decide)) (Nat.le_trans HFM.out.2 (by decide)))
      clear hFn hg HFS HCUT HU1 HL1 HU HL HX2
      obtain hnil | ⟨a, r, hcons⟩ : F = [] ∨ ∃ a r, F = a :: r := by
        cases F with
        | nil => exact .inl rfl
        | cons a r => exact .inr ⟨a, r, rfl⟩
      · have hn0 : n = 0 := by rw [← HFL.out, hnil]; rfl
        subst hn0
        rw [hnil] at HLN
        clear hnil
        go_wp2_with fail
        go_ret
        rw [HLN.out]
        exact ⟨rfl, HU2.out⟩
      · have HCN := hide hcons
        have hf2 : FsAt W2 (some ⟨g, 0, none⟩) n (a :: r) := by rw [← hcons]; exact HFN.out
        have HF2 := hide hf2
        obtain ⟨pb, off, hpa, -, hcl⟩ := hf2.head
        obtain ⟨rfl, rfl⟩ : g = pb ∧ 0 = off := by injection hpa with hpa; injection hpa with h1 h2; exact ⟨h1, h2⟩
        have hal : a.length ≤ 2100 := HFM.out.1 a (by rw [hcons]; simp)
        have HAL := hide hal
        have hn1 : 0 < n := by rw [← HFL.out, hcons]; simp
        have t1 : decide ((0 : Int) < (n : Int)) = true := decide_eq_true (by omega)
        have t2 : decide (0 < n) = true := decide_eq_true hn1
        have HSX := hide (Tryd.strings_HasSuffix (str a) (str [58]) W2 (by rw [str_size]; omega))
        rw [str_list, str_list] at HSX
        have HTR := hide (Tryd.strings_TrimSuffix (str a) (str [58]) W2 (by rw [str_size]; omega))
        rw [str_list, str_list] at HTR
        have HFI := hide (show fieldsL u F = if Go.Lib.hasSuffix a [58] = true then match markL u (Go.Lib.trimSuffix a [58]) with | .ok u' => instL u' r | .err e => .err e else instL u (a :: r) from by rw [hcons]; rfl)
        obtain ⟨hsx, hhs⟩ : ∃ x, Lib.hasSuffix a [58] = x := ⟨_, rfl⟩
        obtain ⟨tra, htr⟩ : ∃ x, Lib.trimSuffix a [58] = x := ⟨_, rfl⟩
        have hln : tra.length ≤ 4000 := by rw [← htr]; exact Nat.le_trans (trim_len a [58]) (by omega)
        have HLT := hide hln
        rw [hhs, htr] at HFI
        rw [hhs] at HSX
        rw [htr] at HTR
        clear hcons hpa hal hhs htr hf2 hln
        go_wp2_with fail
        refine HSX.out.mono ?_
        rintro e w3 ⟨rfl, hw3⟩
        have hw4 := hw3.symm
        subst hw4
        go_upto_if 46 with fail
        go_cut [6] (InCut w0 wk gu u F)
        case first =>
          cases hsx with
          | false =>
            rw [if_neg (by decide)] at HFI
            have HM := hide (show InCut w0 wk gu u F (.slice (some ⟨g, 0, none⟩) n n) W2 from ⟨u, a :: r, some ⟨g, 0, none⟩, n, n, HFI.out, rfl, Nat.le_refl _, HF2.out, HU2.out, HUC.out, HUN.out, Nat.le_trans HUM.out (by decide)⟩)
            go_wp2_with fail
            go_meet
            exact HM.out
          | true =>
            rw [if_pos rfl] at HFI
            have HMA := hide (mark_any w0 wk gu u tra W2 HU2.out ⟨Nat.le_trans HUC.out (by decide), HUN.out, Nat.le_trans HUM.out (by decide)⟩ HLT.out)
            obtain ⟨A3, n3, c3, hct, hnc3, hf3⟩ := FsAt.tail2 (some ⟨g, 0, none⟩) hn1 (Nat.le_refl n)
            have HF3 := hide (fun w => hf3 w a r)
            have HNC3 := hide hnc3
            have hlq : (1 : Int) ≤ (n : Int) := by omega
            clear hf3 hnc3
            go_wp2_with fail
            refine HTR.out.mono ?_
            rintro e w4 ⟨rfl, hw3⟩
            have hw4 := hw3.symm
            subst hw4
            go_wp2_with fail
            refine HMA.out.mono ?_
            rintro e w5 ⟨hres, hks⟩
            have HF5 := hide (show FsAt w5 (some ⟨g, 0, none⟩) n (a :: r) from by rw [← HCN.out, ← HFL.out]; exact FsAt.of_blk (hks _ _ HBF.out) (fun x hx => Nat.le_trans (HFM.out.1 x hx) (by decide)) (Nat.le_trans HFM.out.2 (by decide)))
            clear hks
            have hmk : ∀ u', markL u tra = .ok u' → u'.code = u.code ∧ u'.needs = u.needs ∧ u'.marks.length ≤ 2091 := fun u' h => by
              unfold markL at h
              split at h
              · split at h
                · cases h
                · injection h with h; rw [← h]; exact ⟨rfl, rfl, by have := HUM.out; simp; omega⟩
              · cases h
            cases hma : markL u tra with
            | ok u1 =>
              rw [hma] at hres HFI
              obtain ⟨rfl, hu1⟩ := hres
              obtain ⟨hm1, hm2, hm3⟩ := hmk u1 hma
              have HM := hide (show InCut w0 wk gu u F (.slice A3 n3 c3) w5 from ⟨u1, r, A3, n3, c3, HFI.out, rfl, HNC3.out, HF3.out w5 HF5.out, hu1, by rw [hm1]; exact HUC.out, by rw [hm2]; exact HUN.out, hm3⟩)
              clear hma hu1 hm1 hm2 hm3 hmk
              go_wp2_with fail
              go_meet
              exact HM.out
            | err k =>
              rw [hma] at hres HFI
              obtain ⟨rfl, hk0, hx5⟩ := hres
              have HX5 := hide hx5
              have t5 : ((k : Int) != 0) = true := by simp; omega
              have HK0 := hide hk0
              clear hma hx5 hmk hk0
              go_wp2_with fail
              go_ret
              rw [HLN.out, HFI.out]
              exact ⟨rfl, HK0.out, HX5.out⟩
        case rest =>
          obtain ⟨u', F', A6, n6, c6, hfi, rfl, hnc6, hf6, hu6, hc6, hn6, hm6⟩ := hcut
          have HIN := hide (HLN.out.trans hfi)
          have HF6 := hide hf6
          have HU6 := hide hu6
          have HRM := hide (show Room u' from ⟨Nat.le_trans hc6 (by decide), hn6, Nat.le_trans hm6 (by decide)⟩)
          have HL6 := hide (HL0.out.ext hu6.ext)
          have HNC6 := hide hnc6
          have HX6 := hide hu6.ext
          clear hfi hf6 hu6 hc6 hn6 hm6 hnc6 HFI HSX HTR HF2 HCN t1 t2 hn1 hcl HFN HBF
          obtain hnil | ⟨b, r', hcons⟩ : F' = [] ∨ ∃ a r, F' = a :: r := by
            cases F' with
            | nil => exact .inl rfl
            | cons a r => exact .inr ⟨a, r, rfl⟩
          · have hn0 : n6 = 0 := by have h := HF6.out.len; rw [hnil] at h; exact h.symm
            subst hn0
            rw [hnil] at HIN
            clear hnil
            go_wp2_with fail
            go_ret
            rw [HIN.out]
            exact ⟨rfl, HU6.out⟩
          · have hf7 : FsAt wc A6 n6 (b :: r') := by rw [← hcons]; exact HF6.out
            have HF7 := hide hf7
            obtain ⟨pb, off, rfl, -, hcl⟩ := hf7.head
            have hn1 : 0 < n6 := by have h := hf7.len; rw [← h]; simp
            have hn0 : ((n6 : Int) == 0) = false := by simp; omega
            have hn2 : decide (n6 = 0) = false := decide_eq_false (by omega)
            obtain ⟨A3, n3, c3, hct, hnc3, hf3⟩ := FsAt.tail2 (some ⟨pb, off, none⟩) hn1 HNC6.out
            have HF3 := hide (hf3 wc b r' hf7)
            have HNC3 := hide hnc3
            have hlq : (1 : Int) ≤ (n6 : Int) := by omega
            have hin : instL u' F' = if u'.code.length = 128 then .err 2 else if b = [119, 111, 114, 100] then Res.of (wordL' u' r') else Res.of (orderL u' b r') := by rw [hcons]; rfl
            rw [hin] at HIN
            obtain ⟨n1, n2, n3', A1, A2, A3', c1, c2, c3', hu⟩ := HU6.out
            have d0 : wc.cell? ⟨gu, 0, none⟩ = some (.slice A1 n1 c1) := hu.box.cell 0
            have hl1 := hu.l1
            rw [hl1] at HIN
            have hbl : b.length ≤ 4000 := hf7.sm b (by simp)
            have HBL := hide hbl
            clear hf3 hnc3 hcons hin hf7 hu HF6 hl1 hbl
            by_cases h128 : n1 = 128
            · subst h128
              rw [if_pos rfl] at HIN
              go_wp2_with fail
              go_ret
              rw [HIN.out]
              exact ⟨rfl, by decide, HX6.out⟩
            · have e1 : ((n1 : Int) == 128) = false := by simp; omega
              have e2 : (n1 == 128) = false := by simp; omega
              have e3 : decide (n1 = 128) = false := decide_eq_false h128
              rw [if_neg h128] at HIN
              clear h128
              by_cases hw : b = [119, 111, 114, 100]
              · have e4 : ((str b).toList == [119, 111, 114, 100]) = true := by rw [Go.Lib.toList_data, str_list]; simpa using hw
                rw [if_pos hw] at HIN
                have HWD := hide (word_any w0 wk gu u' A3 n3 c3 r' wc HU6.out HRM.out HF3.out HL6.out)
                clear hw
                go_wp2_with fail
                refine HWD.out.mono ?_
                rintro e w5 hres
                cases hrr : Res.of (wordL' u' r') with
                | ok u1 =>
                  rw [hrr] at hres HIN
                  obtain ⟨rfl, hu1⟩ := hres
                  have HU9 := hide hu1
                  clear hu1 hrr
                  go_wp2_with fail
                  go_ret
                  rw [HIN.out]
                  exact ⟨rfl, HU9.out⟩
                | err k =>
                  rw [hrr] at hres HIN
                  obtain ⟨rfl, hk0, hx5⟩ := hres
                  have HX5 := hide hx5
                  have HK0 := hide hk0
                  clear hrr hx5 hk0
                  go_wp2_with fail
                  go_ret
                  rw [HIN.out]
                  exact ⟨rfl, HK0.out, HX5.out⟩
              · have e4 : ((str b).toList == [119, 111, 114, 100]) = false := by rw [Go.Lib.toList_data, str_list]; simpa using hw
                rw [if_neg hw] at HIN
                have HOD := hide (fun W (hx : Ext wc W) => order_any w0 wk gu u' b A3 n3 c3 r' W (HU6.out.to hx) HRM.out (HF3.out.ext hx) HNC3.out (HL6.out.ext hx))
                clear hw
                go_upto_region 20 with fail
                go_still_tail 6, (by kernel_rfl)
                go_wp2_with fail
                refine (HOD.out _ (by first | exact (Ext.refl wc).drew | exact (Ext.refl wc).drewN _ | exact Ext.refl wc)).mono ?_
                rintro e w5 hres
                cases hrr : Res.of (orderL u' b r') with
                | ok u1 =>
                  rw [hrr] at hres HIN
                  obtain ⟨rfl, hu1⟩ := hres
                  have HU9 := hide hu1
                  clear hu1 hrr
                  go_wp2_with fail
                  go_ret
                  rw [HIN.out]
                  exact ⟨rfl, HU9.out⟩
                | err k =>
                  rw [hrr] at hres HIN
                  obtain ⟨rfl, hk0, hx5⟩ := hres
                  have HX5 := hide hx5
                  have HK0 := hide hk0
                  clear hrr hx5 hk0
                  go_wp2_with fail
                  go_ret
                  rw [HIN.out]
                  exact ⟨rfl, HK0.out, HX5.out⟩
end Go.Proofs.YtikbfmjhmjkkgaaDoor
