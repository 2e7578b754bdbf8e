/- The contract of Drop, where nobody waits for the socket. -/
import Derived.Test.YtnniicmpbcfinaaDropLeaf
namespace Go.Proofs.Ytnniicmpbcfinaa
open Go.RowKit
set_option linter.unusedVariables false

theorem updN_self {α : Type} (f : Nat → α) (i : Nat) (v : α) (h : f i = v) : updN f i v = f := by
  funext x
  unfold updN
  split
  · subst_vars; rfl
  · rfl
section
variable {w0 w w1 : World} {gs : Nat} {S : Nat → Option SkD} {M : Nat → MemS}
theorem SkAt.requeue (h : SkAt w0 gs S M w) (k : Nat) (d : SkD) (v : Value) (hS : S k = some d) (hx : Ext w w1) (ho : w1.ownsRow w.heap.size 3 1 v d.queue.length (intsV d.queue)) :
    SkAt w0 gs S (updN M k ⟨(M k).b, v, (M k).vi⟩) (w1.setCell ⟨(M k).b, 3, none⟩ v) ∧ w.grownBy (w1.setCell ⟨(M k).b, 3, none⟩ v) (some (M k).b) := by
  have hb := h.box k d hS
  have hbw := hb.ext hx
  have hg : w.grownBy (w1.setCell ⟨(M k).b, 3, none⟩ v) (some (M k).b) := grown_set ⟨hx.os, hx.tape, hx.output, hx.size, fun k hk _ => hx.block k hk⟩ 3 _
  refine ⟨?_, hg⟩
  have key := h.mod k d d ⟨(M k).b, v, (M k).vi⟩ hS rfl (Kept3.of_grown hg) (hbw.set_ 3 _) (own_mono (own_far (p := ⟨(M k).b, 3, none⟩) ho (own_blk_ne ho hbw (by decide)) v) h.ext.size)
    (own_of_keep (h.inn k d hS) (fun k' hv => hg.block k' ((h.inn k d hS).lt k' hv).2 (fun e => own_blk_ne (h.inn k d hS) hb (by decide) (by rw [hv, e]))))
    (.inr (fun k' hk => (ho.lt k' hk).1)) (.inl rfl)
  rwa [updN_self _ _ _ hS] at key
end
def SameB (M M' : Nat → MemS) : Prop := ∀ j, (M' j).b = (M j).b ∧ (M' j).vi = (M j).vi
theorem SameB.upd {M M' : Nat → MemS} (h : SameB M M') (k : Nat) (v : Value) : SameB M (updN M' k ⟨(M' k).b, v, (M' k).vi⟩) := fun j => by
  by_cases e : j = k
  · subst e; rw [updN_same]; exact h j
  · rw [updN_other _ _ _ _ e]; exact h j
def DropRel1 (w0 : World) (gs : Nat) (S : Nat → Option SkD) (M : Nat → MemS) (W : World) (bx : Nat) (y : Int) (i : Value) (wr : World) : Prop :=
  ∃ k : Nat, k ≤ 16 ∧ i = .int .i64 k ∧ ∃ M', SameB M M' ∧ SkAt w0 gs S M' wr ∧ Blk wr bx 3 #[.int .i64 y] ∧ DK gs S M W wr
def DropRel2 (w0 : World) (gs : Nat) (S : Nat → Option SkD) (T : Nat → Nat → Option SkD) (M M' : Nat → MemS) (W : World) (bx : Nat) (y : Int) (n : Nat) (i : Value) (wr : World) : Prop :=
  ∃ k : Nat, k ≤ n ∧ i = .int .i64 k ∧ SkAt w0 gs (T k) M' wr ∧ Blk wr bx 3 #[.int .i64 y] ∧ DK gs S M W wr
def DropPost (w0 : World) (gs : Nat) (S S' : Nat → Option SkD) (M : Nat → MemS) (w : World) (e : Ending) (w' : World) : Prop :=
  e = .returned (.int .i64 0) ∧ ∃ M', SameB M M' ∧ SkAt w0 gs S' M' w' ∧ DK gs S M w w'
abbrev GoneTo (w0 : World) (gs : Nat) (S S' : Nat → Option SkD) (M : Nat → MemS) (i : Nat) : Prop :=
  ∀ M' w, SameB M M' → SkAt w0 gs S M' w → Calls Try.prog 30 #[.pointer (some ⟨gs, 0, none⟩), .int .i64 ((i : Int) + 1)] w fun e w' => e = .returned (.tuple #[]) ∧ SkAt w0 gs S' M' w' ∧ DK gs S M' w w'

set_option maxHeartbeats 4000000 in
set_option maxRecDepth 100000 in
theorem drop_ok {w0 : World} {gs : Nat} {S : Nat → Option SkD} {M : Nat → MemS} (i : Nat) (d : SkD) (q : List Nat) (T : Nat → Nat → Option SkD) (S' : Nat → Option SkD) (w : World) (h : SkAt w0 gs S M w) (hi : i < 16) (hS : S i = some d) (hq : d.queue = q.map (fun j : Nat => (j : Int) + 1)) (hql : q.length ≤ 100)
    (hno : ∀ j e, S j = some e → ((i : Int) + 1) ∉ e.queue ∧ e.queue.length ≤ 100) (hT0 : T 0 = S) (hTd : ∀ k, k ≤ q.length → ∃ dk, T k i = some dk ∧ dk.queue = d.queue) (hTs : ∀ k, k ≤ q.length → ∀ j, (T k j).isSome = true → (S j).isSome = true)
    (hg : ∀ k, k < q.length → GoneTo w0 gs (T k) (T (k + 1)) M (q.getD k 0)) (hl : GoneTo w0 gs (T q.length) S' M i) :
    Calls Try.prog 18 #[.pointer (some ⟨gs, 0, none⟩), .int .i64 ((i : Int) + 1)] w (DropPost w0 gs S S' M w) := by
  obtain ⟨ip, hip, -, hip1, -⟩ := info_parts ptr_info
  have hxa : Ext w (w.alloc (.cells #[.int .i64 ((i : Int) + 1)] 3)) := (Ext.refl w).alloc _
  have HH := hide (h.more hxa)
  have HBX := hide (Blk.new w 3 #[.int .i64 ((i : Int) + 1)])
  have HDK := hide (DK.ext (gs := gs) (S := S) (M := M) hxa)
  have HS := hide hS
  have HQ := hide hq
  have HNO := hide hno
  have HT0 := hide hT0
  have HTD := hide hTd
  have HTS := hide hTs
  have HG := hide hg
  have HL := hide hl
  clear h hS hq hno hT0 hTd hTs hg hl hxa
  go_enter Try.func18, Try.ntmps18
  go_upto_region 1 with fail
  obtain ⟨wa, hwa⟩ : ∃ x, x = w.alloc (.cells #[.int .i64 ((i : Int) + 1)] 3) := ⟨_, rfl⟩
  rw [← hwa] at HH HBX HDK ⊢
  clear hwa
  generalize w.heap.size = bx at *
  have HBN := hide (show ∀ j, (S j).isSome = true → bx ≠ (M j).b from fun j hj => by
    obtain ⟨e, he⟩ := Option.isSome_iff_exists.mp hj
    exact Blk.ne_ HBX.out (HH.out.box j e he) (by decide))
  have x0 : wa.cell? ⟨bx, 0, none⟩ = some (.int .i64 ((i : Int) + 1)) := HBX.out.cell 0
  go_wp2_with fail
  have hF := find_at i wa HH.out hi
  simp only [ptrS, HS.out, Option.isSome_some, if_true] at hF
  refine hF.mono ?_
  rintro e w' ⟨rfl, rfl⟩
  clear hF x0
  obtain ⟨cs, hcs, hlen, hld⟩ := HH.out.tab.whole
  have HCS := hide hcs
  have HLD := hide hld
  have HSZ := hide (show (Try.prog.info? 51).map (·.size) = some cs.length by rw [hlen]; kernel_rfl)
  clear hcs hlen hld
  go_wp2_with ((with_reducible refine wpList_load_mid rfl 51 (.tmp 17) rfl gs 0 rfl cs _ HLD.out Try.underlying51 rfl HSZ.out ?_))
  go_loopw [19] (DropRel1 w0 gs S M w bx ((i : Int) + 1)) (fun n _ => 16 - (intOf n).toNat)
  case atStart => exact ⟨0, Nat.zero_le _, rfl, M, fun _ => ⟨rfl, rfl⟩, HH.out, HBX.out, HDK.out⟩
  case round =>
    obtain ⟨k, hk, rfl, M', hsb, hsk, hbx, hdk⟩ := hrel
    have HSB := hide hsb
    have HSK := hide hsk
    have HBX := hide hbx
    have HDK := hide hdk
    clear hsb hsk hbx hdk
    by_cases hk16 : k < 16
    · have hix := index_arr (P := Try.prog) Try.underlying51 Try.underlying45 rfl hip hip1 cs.toArray k hk16 (by simpa using HCS.out k hk16) .i64
      cases hSk : S k with
      | none =>
        simp only [ptrS, hSk, Option.isSome_none] at hix
        clear hSk
        go_wp2_with fail
        go_roundw
        case rel => exact ⟨k + 1, by omega, by go_num, M', HSB.out, HSK.out, HBX.out, HDK.out⟩
        case measure => simp [intOf]; omega
      | some dk =>
        simp only [ptrS, hSk, Option.isSome_some, if_true] at hix
        rw [← (HSB.out k).1] at hix
        have hb := HSK.out.box k dk hSk
        obtain ⟨n1, n2⟩ := HNO.out k dk hSk
        have ho := HSK.out.q k dk hSk
        obtain ⟨A, c, hv, hnc, hcm, hnil⟩ := own_form ho
        have c3 : wr.cell? ⟨(M' k).b, 3, none⟩ = some (M' k).vq := hb.cell 3
        have f3 := hb.frozen 3
        rw [hv] at c3 ho
        have x0 : wr.cell? ⟨bx, 0, none⟩ = some (.int .i64 ((i : Int) + 1)) := HBX.out.cell 0
        obtain ⟨n, hn⟩ : ∃ n, dk.queue.length = n := ⟨_, rfl⟩
        have HRQ := hide (show ∀ (w1 : World) (v : Value), Ext wr w1 → w1.ownsRow wr.heap.size 3 1 v n (intsV dk.queue) → SkAt w0 gs S (updN M' k ⟨(M' k).b, v, (M' k).vi⟩) (w1.setCell ⟨(M' k).b, 3, none⟩ v) ∧ wr.grownBy (w1.setCell ⟨(M' k).b, 3, none⟩ v) (some (M' k).b) from fun w1 v hx ho => HSK.out.requeue k dk v hSk hx (by rw [hn]; exact ho))
        have HBK := hide hb
        have HRD := hide (Reads.of_own (show wr.ownsRow w0.heap.size 3 1 (.slice A n c) n (intsV dk.queue) by rw [← hn]; exact ho))
        have HN1 := hide n1
        have HNIL := hide (show A = none → n = 0 from fun e => by have := (hnil e).1; omega)
        rw [hn] at c3 n2
        have HIS := hide (show (S k).isSome = true by rw [hSk]; rfl)
        clear hSk hb ho hv n1 hnil hn
        obtain ⟨b, hb'⟩ : ∃ b, (M' k).b = b := ⟨_, rfl⟩
        rw [hb'] at hix c3 f3
        have HB' := hide hb'
        clear hb'
        go_wp2_with fail
        refine (iclone_any A n c wr.heap.size _ wr HRD.out (intsV_one _) (Nat.le_refl _) (by omega) HNIL.out).mono ?_
        rintro e w1 ⟨A1, c1, rfl, ho1, hx1⟩
        have d3 : w1.cell? ⟨b, 3, none⟩ = some _ := hx1.cell c3
        have g3 : w1.frozen? ⟨b, 3, none⟩ = false := (hx1.frozen c3).trans f3
        have x1 : w1.cell? ⟨bx, 0, none⟩ = some (.int .i64 ((i : Int) + 1)) := hx1.cell x0
        have HO1 := hide ho1
        have HX1 := hide hx1
        clear ho1 hx1 c3 f3 x0
        go_wp2_with fail
        refine (del_none A1 n c1 w1.heap.size dk.queue ((i : Int) + 1) ⟨bx, 0, none⟩ w1 (Reads.of_own HO1.out) x1 HN1.out (by omega)).mono ?_
        rintro e w' ⟨rfl, rfl⟩
        go_wp2_with fail
        go_roundw
        case rel =>
          obtain ⟨r1, r2⟩ := HRQ.out w1 (.slice A1 n c1) HX1.out HO1.out
          rw [HB'.out] at r1 r2
          refine ⟨k + 1, by omega, by go_num, _, HSB.out.upd k (.slice A1 n c1), by rw [HB'.out]; exact r1, HBX.out.grown r2 (fun e => by injection e with e; rw [← HB'.out] at e; exact Blk.ne_ HBX.out HBK.out (by decide) e), HDK.out.trans (DK.grown (i := k) (by rw [← (HSB.out k).1, HB'.out]; exact r2) HIS.out)⟩
        case measure => simp [intOf]; omega
    · obtain ⟨k0, hk0⟩ : ∃ k0, k0 = k := ⟨_, rfl⟩
      have hb := HSK.out.box i d HS.out
      have hbi := (HSB.out i).1
      obtain ⟨A, c, hv, hnc, hcm, hnil⟩ := own_form (HSK.out.q i d HS.out)
      have c3 : wr.cell? ⟨(M i).b, 3, none⟩ = some (M' i).vq := by rw [← hbi]; exact hb.cell 3
      obtain ⟨n, hn⟩ : ∃ n, d.queue.length = n := ⟨_, rfl⟩
      rw [hv, hn] at c3
      have HN := hide (show q.length = n by rw [← hn, HQ.out, List.length_map])
      have HV := hide (show (M' i).vq = .slice A n c by rw [← hn]; exact hv)
      rw [HN.out] at hql
      clear hb hbi hv hn hnc hcm hnil
      generalize (M i).b = bi at *
      go_upto_region 11 with fail
      go_loopw [40] (DropRel2 w0 gs S T M M' w bx ((i : Int) + 1) n) (fun x _ => n - (intOf x).toNat)
      case atStart => exact ⟨0, Nat.zero_le _, rfl, by rw [HT0.out]; exact HSK.out, HBX.out, HDK.out⟩
      case round =>
        clear HSK HBX HDK c3
        clear hk hk16 hk0
        obtain ⟨k, hk, rfl, hsk, hbx, hdk⟩ := hrel
        have HSK := hide hsk
        have HBX := hide hbx
        have HDK := hide hdk
        clear hsk hbx hdk
        have HBY := hide (show ∀ w', DK gs S M wr w' → Blk w' bx 3 #[.int .i64 ((i : Int) + 1)] from fun w' hd => (hd.2 bx HBX.out.lt (fun e => by
          obtain ⟨cs, hT⟩ := HSK.out.blkT
          exact Blk.ne_ HBX.out hT (by decide) e) HBN.out).trans HBX.out)
        have HST := hide (HTS.out k (by rw [HN.out]; exact hk))
        by_cases hlt : k < n
        · obtain ⟨dk, hTk, hdq⟩ := HTD.out k (by rw [HN.out]; exact hk)
          have ho := HSK.out.q i dk hTk
          rw [HV.out, hdq, HQ.out, List.length_map, HN.out] at ho
          have hkq : k < q.length := by rw [HN.out]; exact hlt
          obtain ⟨g, rfl, -, -, -, -⟩ := own_addr ho (by omega)
          have ck := (own_cell ho k (u := .int .i64 ((q.getD k 0 : Nat) + 1)) (by simp [intsV, List.getElem?_eq_getElem hkq, List.getD_eq_getElem?_getD])).1
          have HGK := hide (HG.out k hkq M' wr HSB.out HSK.out)
          clear ho hTk hdq hkq
          generalize q.getD k 0 = y at *
          go_wp2_with fail
          refine HGK.out.mono ?_
          rintro e w1 ⟨rfl, h1, k1⟩
          have H1 := hide h1
          have K1 := hide (k1.of HST.out (fun j => (HSB.out j).1))
          clear h1 k1 ck
          go_wp2_with fail
          go_roundw
          case rel => exact ⟨k + 1, by omega, by go_num, H1.out, HBY.out _ K1.out, HDK.out.trans K1.out⟩
          case measure => simp [intOf]; omega
        · obtain rfl : k = n := by omega
          have x0 : wr.cell? ⟨bx, 0, none⟩ = some (.int .i64 ((i : Int) + 1)) := HBX.out.cell 0
          have HLK := hide (show Calls _ _ _ _ _ from HL.out M' wr HSB.out (by rw [HN.out]; exact HSK.out))
          go_wp2_with fail
          refine HLK.out.mono ?_
          rintro e w1 ⟨rfl, h1, k1⟩
          go_wp2_with fail
          go_ret
          exact ⟨rfl, M', HSB.out, h1, HDK.out.trans (k1.of (by rw [HN.out]; exact HST.out) (fun j => (HSB.out j).1))⟩
end Go.Proofs.Ytnniicmpbcfinaa
