/- The contract of obj.Check. -/
import Derived.Test.YtljlniehbenefaaObMem
import Derived.Deep.RegionHeld3
namespace Go.Proofs.Ytljlniehbenefaa
open Go.RowKit
set_option linter.unusedVariables false

theorem calls_back {P : Program} {f : FuncId} {args : Array Value} {w : World} {X : Ending} (h : Calls P f args w fun e w' => e = X ∧ w = w') : Calls P f args w fun e w' => e = X ∧ w' = w := h.mono fun _ _ ⟨a, b⟩ => ⟨a, b.symm⟩
/-- The map of the names met so far. -/
def metB (l : List NmD) : Bs → Bool := fun s => decide (s ∈ l.map NmD.name)
theorem metB_nil : metB [] = fun _ => false := by funext s; simp [metB]
theorem metB_snoc (l : List NmD) (n : NmD) : metB (l ++ [n]) = updS (metB l) n.name true := by
  funext s
  unfold metB updS
  by_cases h : s = n.name
  · simp [h]
  · simp [h]
def ChkRel1 (w : World) (o : ObD) (gb gm : Nat) (cs : Array Value) (v : Value) (wr : World) : Prop := ∃ k : Nat, k ≤ o.names.length ∧ v = .int .i64 k ∧ Blk wr gb obT cs ∧ MapSB wr gm k (metB (o.names.take k)) ∧ (∀ n ∈ o.names.take k, nmOk o n) ∧ ((o.names.take k).map NmD.name).Nodup ∧ Ext w wr
def ChkRel2 (w : World) (o : ObD) (gb : Nat) (cs : Array Value) (v : Value) (wr : World) : Prop := ∃ k : Nat, k ≤ o.needs.length ∧ v = .int .i64 k ∧ Blk wr gb obT cs ∧ (∀ n ∈ o.needs.take k, neOk o n) ∧ (o.needs.take k).Pairwise (fun a b => a.pos < b.pos) ∧ Ext w wr
theorem mem_take_next {α : Type} {l : List α} {k : Nat} (h : k < l.length) {P : α → Prop} (h1 : ∀ x ∈ l.take k, P x) (h2 : P l[k]) : ∀ x ∈ l.take (k + 1), P x := by
  intro x hx
  rw [List.take_succ_eq_append_getElem h] at hx
  rcases List.mem_append.1 hx with hx | hx
  · exact h1 x hx
  · rw [List.mem_singleton] at hx
    rw [hx]
    exact h2
theorem nodup_take_next {l : List NmD} {k : Nat} (h : k < l.length) (h1 : ((l.take k).map NmD.name).Nodup) (h2 : l[k].name ∉ (l.take k).map NmD.name) : ((l.take (k + 1)).map NmD.name).Nodup := by
  rw [List.take_succ_eq_append_getElem h, List.map_append, List.nodup_append]
  refine ⟨h1, by simp, fun a ha b hb e => ?_⟩
  simp only [List.map_cons, List.map_nil, List.mem_singleton] at hb
  subst e
  rw [hb] at ha
  exact h2 ha
theorem pair_take_next {l : List NeD} {k : Nat} (h : k < l.length) (h1 : (l.take k).Pairwise (fun a b => a.pos < b.pos)) (h2 : 0 < k → ∀ hk : k - 1 < l.length, l[k - 1].pos < l[k].pos) : (l.take (k + 1)).Pairwise (fun a b => a.pos < b.pos) := by
  rw [List.take_succ_eq_append_getElem h, List.pairwise_append]
  refine ⟨h1, by simp, fun a ha b hb => ?_⟩
  rw [List.mem_singleton] at hb
  subst hb
  have hk : 0 < k := by
    rcases Nat.eq_zero_or_pos k with e | e
    · subst e; simp at ha
    · exact e
  have h3 := h2 hk (by omega)
  obtain ⟨i, hi, rfl⟩ := List.getElem_of_mem ha
  have hik : i < k := by rw [List.length_take] at hi; omega
  rw [List.getElem_take]
  by_cases he : i = k - 1
  · subst he; exact h3
  · have := List.pairwise_iff_getElem.1 h1 i (k - 1) (by rw [List.length_take]; omega) (by rw [List.length_take]; omega) (by omega)
    simp only [List.getElem_take] at this
    omega
theorem sizeW_bd (o : ObD) (wh : Int) : -1 ≤ sizeW o wh := by
  unfold sizeW
  split
  · omega
  · split <;> omega
/-- What Check says: 0 just where the part may be. -/
def ChkPost (w : World) (o : ObD) (e : Ending) (w' : World) : Prop := ∃ z : Int, e = .returned (.int .i64 z) ∧ (z = 0 ↔ ChkOk o) ∧ Ext w w'
set_option maxHeartbeats 16000000 in
set_option maxRecDepth 100000 in
theorem check_any (o : ObD) (v : ObV) (w : World) (hr : ObRd w o v) (hs : ObSm o) : Calls Try.prog 16 #[.agg v.cells] w (ChkPost w o) := by
  obtain ⟨A1, n1, c1, A2, n2, c2, A3, n3, c3, A4, n4, c4⟩ := v
  have l1 := hr.l1
  have l2 := hr.l2
  have l3 := hr.l3
  have l4 := hr.l4
  have s1 := hs.code
  have s2 := hs.data
  have s3 := hs.nms
  have s4 := hs.nds
  have HR := hide hr
  have HS := hide hs
  dsimp only at l1 l2 l3 l4
  obtain ⟨cs, hcs⟩ : ∃ cs : Array Value, cs = #[.slice A1 n1 c1, .slice A2 n2 c2, .slice A3 n3 c3, .slice A4 n4 c4] := ⟨_, rfl⟩
  have HCS := hide hcs
  have hb0 := Blk.new w obT #[.slice A1 n1 c1, .slice A2 n2 c2, .slice A3 n3 c3, .slice A4 n4 c4]
  have HX0 := hide ((Ext.refl w).alloc (.cells #[.slice A1 n1 c1, .slice A2 n2 c2, .slice A3 n3 c3, .slice A4 n4 c4] obT))
  show Calls Try.prog 16 #[.agg #[.slice A1 n1 c1, .slice A2 n2 c2, .slice A3 n3 c3, .slice A4 n4 c4]] w (ChkPost w o)
  clear hr hs hcs
  by_cases hlen : n1 ≤ 128 ∧ n2 ≤ 256 ∧ n3 ≤ 24 ∧ n4 ≤ 40
  case neg =>
    have HNO := hide (show ¬ ChkOk o from fun h => hlen ⟨by have := h.code; omega, by have := h.data; omega, by have := h.nms; omega, by have := h.nds; omega⟩)
    clear HR HS l1 l2 l3 l4
    by_cases a1 : 128 < n1
    case' neg =>
      by_cases a2 : 256 < n2
      case' neg =>
        by_cases a3 : 24 < n3
        case' neg => have a4 : 40 < n4 := by omega
    all_goals
      clear hlen
      go_enter Try.func16, Try.ntmps16
      go_wp2_with fail
      go_ret
      exact ⟨2, rfl, ⟨fun h => absurd h (by decide), fun h => absurd h HNO.out⟩, HX0.out⟩
  case pos =>
    obtain ⟨a1, a2, a3, a4⟩ := hlen
    go_enter Try.func16, Try.ntmps16
    go_upto_region 3 with fail
    generalize w.alloc (.cells #[.slice A1 n1 c1, .slice A2 n2 c2, .slice A3 n3 c3, .slice A4 n4 c4] obT) = W0 at *
    generalize hgb : w.heap.size = gb at *
    have hgbm := hb0.lt
    have HM0 := hide (MapSB.made W0)
    have HB0 := hide (hb0.alloc (.map #[] 0))
    have HX1 := hide (HX0.out.alloc (.map #[] 0))
    clear hb0 HX0
    have hmm := @run_makeMap Try.prog
    go_upto_region 4 with fail
    clear hmm
    generalize W0.alloc (.map #[] 0) = W1 at *
    generalize W0.heap.size = gm at *
    have z2 : W1.cell? ⟨gb, 2, none⟩ = some (.slice A3 n3 c3) := HB0.out.cell 2
    rw [← HCS.out] at HB0
    go_wp2_with fail
    go_loopw [34] (ChkRel1 w o gb gm cs) (fun i _ => n3 - (intOf i).toNat)
    case atStart => exact ⟨0, Nat.zero_le _, rfl, HB0.out, by rw [List.take_zero, metB_nil]; exact HM0.out, by simp, by simp, HX1.out⟩
    case round =>
      obtain ⟨k, hk, rfl, hb, hm, hok, hnd, hx⟩ := hrel
      have HB := hide hb
      have HM := hide hm
      have HOK := hide hok
      have HND := hide hnd
      have HX := hide hx
      clear hb hm hok hnd hx HB0 HM0 HX1 z2
      have R3 := HR.out.names
      have R4 := HR.out.needs
      dsimp only at R3 R4
      by_cases hlt : k < n3
      · have hkl : k < o.names.length := by omega
        obtain ⟨b3, o3, rfl, -⟩ := R3.addr (by omega) (by omega)
        have q0 := HX.out.cell (Reads.elem nmC_len R3 k hkl (by omega) 0 (by omega) rfl)
        have q1 := HX.out.cell (Reads.elem nmC_len R3 k hkl (by omega) 1 (by omega) rfl)
        have q2 := HX.out.cell (Reads.elem nmC_len R3 k hkl (by omega) 2 (by omega) rfl)
        have q3 := HX.out.cell (Reads.elem nmC_len R3 k hkl (by omega) 3 (by omega) rfl)
        rw [Nat.add_zero] at q0
        obtain ⟨m1, ⟨m2, m3⟩, m4, m5⟩ := HS.out.nm o.names[k] (List.getElem_mem hkl)
        have HAN := hide (fun (W : World) => calls_back (aname_any o.names[k].name W (by omega)))
        have HNO := hide (show ChkOk o → nmOk o o.names[k] from fun h => h.names _ (List.getElem_mem hkl))
        have HYES := hide (fun h => mem_take_next hkl HOK.out h : nmOk o o.names[k] → ∀ n ∈ o.names.take (k + 1), nmOk o n)
        have HOD := hide (show nmOk o o.names[k] ↔ nameB o.names[k].name = true ∧ 0 ≤ o.names[k].pos ∧ o.names[k].pos ≤ sizeW o o.names[k].wh ∧ (o.names[k].wh = 1 → o.names[k].pos % 4 = 0) from Iff.rfl)
        have HSZ := hide (fun (W : World) (hb : Blk W gb obT cs) => size_any o ⟨A1, n1, c1, A2, n2, c2, some ⟨b3, o3, none⟩, n3, c3, A4, n4, c4⟩ gb o.names[k].wh W (by rw [HCS.out] at hb; exact hb) l1 l2 (by dsimp only; omega) (by dsimp only; omega))
        have hlook := fun (W : World) (hm : MapSB W gm k (metB (o.names.take k))) => hm.look o.names[k].name (by simp only [maxLen]; omega)
        have HSN := hide (show metB (o.names.take (k + 1)) = updS (metB (o.names.take k)) o.names[k].name true by rw [List.take_succ_eq_append_getElem hkl, metB_snoc])
        have HMB := hide (show metB (o.names.take k) o.names[k].name = decide (o.names[k].name ∈ (o.names.take k).map NmD.name) from rfl)
        have HNN := hide (nodup_take_next hkl HND.out)
        have HDUP := hide (show o.names[k].name ∈ (o.names.take k).map NmD.name → ¬ ChkOk o by
          intro h hc
          have h1 := hc.nodup
          rw [← List.take_append_drop (k + 1) o.names, List.take_succ_eq_append_getElem hkl, List.map_append, List.map_append] at h1
          have h2 := (List.nodup_append.1 h1).1
          exact (List.nodup_append.1 h2).2.2 _ h _ (by simp) rfl)
        have hszl := sizeW_bd o o.names[k].wh
        generalize o.names[k] = nm at *
        obtain ⟨nn, wh, pos, weak⟩ := nm
        dsimp only at q0 q1 q2 q3 m1 m2 m3 m4 m5 HAN HOD HSZ hlook HSN HMB HNN HDUP hszl
        have hb9 := Blk.new wr nmT #[.string (str nn), .int .i64 wh, .int .i64 pos, .bool weak]
        have HXB := hide ((Ext.refl wr).alloc (.cells #[.string (str nn), .int .i64 wh, .int .i64 pos, .bool weak] nmT))
        go_upto_region 7 with fail
        generalize wr.alloc (.cells #[.string (str nn), .int .i64 wh, .int .i64 pos, .bool weak] nmT) = W9 at *
        generalize wr.heap.size = gn at *
        have b0 : W9.cell? ⟨gn, 0, none⟩ = some (.string (str nn)) := hb9.cell 0
        have b1 : W9.cell? ⟨gn, 1, none⟩ = some (.int .i64 wh) := hb9.cell 1
        have b2 : W9.cell? ⟨gn, 2, none⟩ = some (.int .i64 pos) := hb9.cell 2
        have HBW := hide (HB.out.ext HXB.out)
        have HSD := hide (fun d : Nat => calls_back (HSZ.out (W9.drewN d) (HBW.out.ext ((Ext.refl W9).drewN d))))
        have HXW := hide (HX.out.trans HXB.out)
        have HMW := hide (HM.out.ext HXB.out)
        generalize hsz : sizeW o wh = sz at *
        generalize nameB nn = nb at *
        clear hsz hb9 q0 q1 q2 q3 HSZ HXB
        by_cases hgood : nb = true ∧ 0 ≤ pos ∧ pos ≤ sz ∧ (wh = 1 → pos % 4 = 0)
        case neg =>
          have HBAD := hide (show ¬ ChkOk o from fun h => hgood (HOD.out.1 (HNO.out h)))
          clear HNO HOD HYES HSN HMB HNN HDUP hlook HMW HM HOK HND HBW HB
          cases nb
          case' true =>
            by_cases hp0 : pos < 0
            case' neg =>
              have d1 : decide (pos < 0) = false := by simp; omega
              by_cases hps : sz < pos
              case' neg =>
                have d2 : decide (sz < pos) = false := by simp; omega
                have hw1 : wh = 1 := by
                  rcases Classical.em (wh = 1) with h | h
                  · exact h
                  · exact absurd ⟨rfl, by omega, by omega, fun e => absurd e h⟩ hgood
                subst hw1
                have d4 : (pos % 4 == 0) = false := by
                  have : ¬ pos % 4 = 0 := fun e => hgood ⟨rfl, by omega, by omega, fun _ => e⟩
                  simpa using this
          all_goals
            clear hgood
            go_quiet ((first | (go_at_call 18; exact Calls.quiet_of_same (HAN.out _)) | (go_at_call 19; exact Calls.quiet_of_same (HSD.out _)) | fail))
            go_wp2_with fail
            go_ret
            exact ⟨3, rfl, ⟨fun h => absurd h (by decide), fun h => absurd h HBAD.out⟩, HXW.out.drewN _⟩
        case pos =>
          obtain ⟨rfl, hp0, hps, hmod⟩ := hgood
          have d1 : decide (pos < 0) = false := by simp; omega
          have d2 : decide (sz < pos) = false := by simp; omega
          have HNEXT := hide (HYES.out (HOD.out.2 ⟨rfl, hp0, hps, hmod⟩))
          by_cases hw1 : wh = 1
          case' pos =>
            subst hw1
            have d4 : (pos % 4 != 0) = false := by simpa using hmod rfl
            clear hmod
          case' neg =>
            have d4 : (wh == 1) = false := by simpa using hw1
            clear hmod hw1
          all_goals
            clear HNO HOD HYES HM HOK HB hps
            go_quiet ((first | (go_at_call 18; exact Calls.quiet_of_same (HAN.out _)) | (go_at_call 19; exact Calls.quiet_of_same (HSD.out _)) | fail))
            have HX10 := hide (HXW.out.trans ((Ext.refl W9).drewN nq))
            have HM10 := hide (HMW.out.ext ((Ext.refl W9).drewN nq))
            have HB10 := hide (HBW.out.ext ((Ext.refl W9).drewN nq))
            have e0 : (W9.drewN nq).cell? ⟨gn, 0, none⟩ = some (.string (str nn)) := b0
            have hl := hlook _ HM10.out
            clear HSD HAN HMW HBW HXW b0 b1 b2 hlook
            generalize W9.drewN nq = W10 at *
            generalize hmb : metB (o.names.take k) nn = mb at *
            have HMBE := hide hmb
            clear hmb
            obtain ⟨W11, hrun, hm11, hg11⟩ := HM10.out.store (by simp only [maxLen]; omega) nn (by simp only [maxLen]; omega) true
            have HG11 := hide hg11
            have HM11 := hide hm11
            clear hm11 hg11
            cases mb with
            | true =>
              have HBAD := hide (HDUP.out (by have := HMB.out; exact of_decide_eq_true this.symm))
              clear hrun
              go_wp2_with fail
              go_ret
              exact ⟨5, rfl, ⟨fun h => absurd h (by decide), fun h => absurd h HBAD.out⟩, HX10.out⟩
            | false =>
              have HNI := hide (HNN.out (by have := HMB.out; exact of_decide_eq_false this.symm))
              have HX11 := hide (HX10.out.grown HG11.out (fun j hj => by injection hj with hj; omega))
              have HB11 := hide (HB10.out.grown HG11.out (fun e => by injection e with e; omega))
              go_wp2_with fail
              go_roundw
              case rel => exact ⟨k + 1, by omega, by go_num, HB11.out, by rw [HSN.out]; exact HM11.out, HNEXT.out, HNI.out, HX11.out⟩
              case measure => simp [intOf]; omega
      · obtain rfl : k = n3 := by omega
        have HAN3 := hide (show (∀ n ∈ o.names, nmOk o n) ∧ (o.names.map NmD.name).Nodup by
          have h1 := HOK.out
          have h2 := HND.out
          rw [List.take_of_length_le (by omega)] at h1 h2
          exact ⟨h1, h2⟩)
        have z3 : wr.cell? ⟨gb, 3, none⟩ = some (.slice A4 n4 c4) := by have h := HB.out; rw [HCS.out] at h; exact h.cell 3
        clear HM HOK HND
        go_wp2_with fail
        clear z3
        go_loopw [77] (ChkRel2 w o gb cs) (fun i _ => n4 - (intOf i).toNat)
        case atStart => exact ⟨0, Nat.zero_le _, rfl, HB.out, by simp, by simp, HX.out⟩
        case round =>
          obtain ⟨k', hk', rfl, hb, hok, hri, hx⟩ := hrel
          have HB2 := hide hb
          have HOK := hide hok
          have HRI := hide hri
          have HX2 := hide hx
          clear hb hok hri hx HB HX
          by_cases hlt2 : k' < n4
          · have hkl : k' < o.needs.length := by omega
            obtain ⟨b4, o4, rfl, -⟩ := R4.addr (by omega) (by omega)
            have q0 := HX2.out.cell (Reads.elem neC_len R4 k' hkl (by omega) 0 (by omega) rfl)
            have q1 := HX2.out.cell (Reads.elem neC_len R4 k' hkl (by omega) 1 (by omega) rfl)
            have q2 := HX2.out.cell (Reads.elem neC_len R4 k' hkl (by omega) 2 (by omega) rfl)
            rw [Nat.add_zero] at q0
            obtain ⟨m1, ⟨m2, m3⟩, m4, m5⟩ := HS.out.ne o.needs[k'] (List.getElem_mem hkl)
            have HAN := hide (fun (W : World) => calls_back (aname_any o.needs[k'].name W (by omega)))
            have HNO := hide (show ChkOk o → neOk o o.needs[k'] from fun h => h.needs _ (List.getElem_mem hkl))
            have HYES := hide (fun h => mem_take_next hkl HOK.out h : neOk o o.needs[k'] → ∀ n ∈ o.needs.take (k' + 1), neOk o n)
            have HOD := hide (show neOk o o.needs[k'] ↔ nameB o.needs[k'].name = true ∧ 1 ≤ o.needs[k'].kind ∧ o.needs[k'].kind ≤ 3 ∧ 0 ≤ o.needs[k'].pos ∧ o.needs[k'].pos < 4 * (n1 : Int) ∧ o.needs[k'].pos % 4 = 0 by rw [← l1]; exact Iff.rfl)
            have HPN := hide (pair_take_next hkl HRI.out)
            have HPR := hide (show ∀ m, k' = m + 1 → ∃ pr : NeD, wr.cell? ⟨b4, o4 + m * 3, none⟩ = some (.int .i64 pr.pos) ∧ (-1000000 ≤ pr.pos ∧ pr.pos ≤ 1000000) ∧ (ChkOk o → pr.pos < o.needs[k'].pos) ∧ (pr.pos < o.needs[k'].pos → 0 < k' → ∀ hk : k' - 1 < o.needs.length, o.needs[k' - 1].pos < o.needs[k'].pos) by
              intro m hm
              subst hm
              have r0 := HX2.out.cell (Reads.elem neC_len R4 m (by omega) (by omega) 0 (by omega) rfl)
              rw [Nat.add_zero] at r0
              exact ⟨o.needs[m], r0, (HS.out.ne o.needs[m] (List.getElem_mem _)).2.1, fun h => List.pairwise_iff_getElem.1 h.rising m (m + 1) (by omega) hkl (by omega), fun h _ _ => h⟩)
            generalize o.needs[k'] = ne at *
            obtain ⟨pos, nn, kind⟩ := ne
            dsimp only at q0 q1 q2 m1 m2 m3 m4 m5 HAN HOD HPN HPR
            have hb9 := Blk.new wr neT #[.int .i64 pos, .string (str nn), .int .i64 kind]
            have HXB := hide ((Ext.refl wr).alloc (.cells #[.int .i64 pos, .string (str nn), .int .i64 kind] neT))
            go_upto_region 16 with fail
            generalize wr.alloc (.cells #[.int .i64 pos, .string (str nn), .int .i64 kind] neT) = W9 at *
            generalize wr.heap.size = gn at *
            have b0 : W9.cell? ⟨gn, 0, none⟩ = some (.int .i64 pos) := hb9.cell 0
            have b1 : W9.cell? ⟨gn, 1, none⟩ = some (.string (str nn)) := hb9.cell 1
            have b2 : W9.cell? ⟨gn, 2, none⟩ = some (.int .i64 kind) := hb9.cell 2
            have HBW := hide (HB2.out.ext HXB.out)
            have g0 : W9.cell? ⟨gb, 0, none⟩ = some (.slice A1 n1 c1) := by have h := HBW.out; rw [HCS.out] at h; exact h.cell 0
            have g3 : W9.cell? ⟨gb, 3, none⟩ = some (.slice (some ⟨b4, o4, none⟩) n4 c4) := by have h := HBW.out; rw [HCS.out] at h; exact h.cell 3
            have HXW := hide (HX2.out.trans HXB.out)
            generalize nameB nn = nb at *
            clear hb9 q0 q1 q2
            by_cases hgood : nb = true ∧ 1 ≤ kind ∧ kind ≤ 3 ∧ 0 ≤ pos ∧ pos < 4 * (n1 : Int) ∧ pos % 4 = 0
            case neg =>
              have HBAD := hide (show ¬ ChkOk o from fun h => hgood (HOD.out.1 (HNO.out h)))
              clear HNO HOD HYES HPN HPR HOK HRI HB2 HBW
              cases nb
              case' true =>
                by_cases hk1 : kind < 1
                case' neg =>
                  have d1 : decide (kind < 1) = false := by simp; omega
                  by_cases hk3 : 3 < kind
                  case' neg =>
                    have d2 : decide (3 < kind) = false := by simp; omega
                    by_cases hp0 : pos < 0
                    case' neg =>
                      have d3 : decide (pos < 0) = false := by simp; omega
                      by_cases hp4 : 4 * (n1 : Int) ≤ pos
                      case' neg =>
                        have d4 : decide (4 * (n1 : Int) ≤ pos) = false := by simp; omega
                        have d5 : (pos % 4 != 0) = true := by
                          have : ¬ pos % 4 = 0 := fun e => hgood ⟨rfl, by omega, by omega, by omega, by omega, e⟩
                          simpa using this
              all_goals
                clear hgood
                go_quiet ((first | (go_at_call 18; exact Calls.quiet_of_same (HAN.out _)) | fail))
                go_wp2_with fail
                go_ret
                exact ⟨3, rfl, ⟨fun h => absurd h (by decide), fun h => absurd h HBAD.out⟩, HXW.out.drewN _⟩
            case pos =>
              obtain ⟨rfl, hk1, hk3, hp0, hp4, hp5⟩ := hgood
              have d1 : decide (kind < 1) = false := by simp; omega
              have d2 : decide (3 < kind) = false := by simp; omega
              have d3 : decide (pos < 0) = false := by simp; omega
              have d4 : decide (4 * (n1 : Int) ≤ pos) = false := by simp; omega
              have d5 : (pos % 4 != 0) = false := by simpa using hp5
              have HNEXT := hide (HYES.out (HOD.out.2 ⟨rfl, hk1, hk3, hp0, hp4, hp5⟩))
              clear HNO HOD HYES HOK
              rcases Nat.eq_zero_or_pos k' with hk0 | hk0
              · subst hk0
                have HPX := hide (HPN.out (fun h => absurd h (by omega)))
                clear HPN HPR HRI HB2
                go_quiet ((first | (go_at_call 18; exact Calls.quiet_of_same (HAN.out _)) | fail))
                have HX10 := hide (HXW.out.trans ((Ext.refl W9).drewN nq))
                have HB10 := hide (HBW.out.ext ((Ext.refl W9).drewN nq))
                generalize W9.drewN nq = W10 at *
                go_wp2_with fail
                go_roundw
                case rel => exact ⟨0 + 1, by omega, by go_num, HB10.out, HNEXT.out, HPX.out, HX10.out⟩
                case measure => simp [intOf]; omega
              · obtain ⟨m, rfl⟩ : ∃ m, k' = m + 1 := ⟨k' - 1, by omega⟩
                obtain ⟨pr, r0, ⟨r1, r2⟩, hc, hn⟩ := HPR.out m rfl
                have r0 := HXB.out.cell r0
                generalize pr.pos = pp at *
                have e1 : decide ((0 : Int) < ((m + 1 : Nat) : Int)) = true := decide_eq_true (by omega)
                have e2 : IntKind.i64.wrap (((m + 1 : Nat) : Int) - 1) = (m : Int) := by rw [IntKind.wrap_i64]; omega
                have e3 : (0 : Int) ≤ (m : Int) := by omega
                have e4 : (m : Int) < (n4 : Int) := by omega
                by_cases hpl : pp < pos
                · have d7 : decide (pos ≤ pp) = false := by simp; omega
                  have HPX := hide (HPN.out (hn hpl))
                  clear HPN HPR HRI HB2 hc hn
                  go_quiet ((first | (go_at_call 18; exact Calls.quiet_of_same (HAN.out _)) | fail))
                  have HX10 := hide (HXW.out.trans ((Ext.refl W9).drewN nq))
                  have HB10 := hide (HBW.out.ext ((Ext.refl W9).drewN nq))
                  generalize W9.drewN nq = W10 at *
                  go_wp2_with fail
                  go_roundw
                  case rel => exact ⟨m + 1 + 1, by omega, by go_num, HB10.out, HNEXT.out, HPX.out, HX10.out⟩
                  case measure => simp [intOf]; omega
                · have d7 : pos ≤ pp := by omega
                  have HBAD := hide (show ¬ ChkOk o from fun h => hpl (hc h))
                  clear HPN HPR HRI HB2 hc hn HNEXT HBW hpl
                  go_quiet ((first | (go_at_call 18; exact Calls.quiet_of_same (HAN.out _)) | fail))
                  go_wp2_with fail
                  go_ret
                  exact ⟨3, rfl, ⟨fun h => absurd h (by decide), fun h => absurd h HBAD.out⟩, HXW.out.drewN _⟩
          · obtain rfl : k' = n4 := by omega
            have HFIN := hide (show ChkOk o from ⟨by omega, by omega, by omega, by omega, HAN3.out.1, HAN3.out.2, by have h := HOK.out; rwa [List.take_of_length_le (by omega)] at h, by have h := HRI.out; rwa [List.take_of_length_le (by omega)] at h⟩)
            go_wp2_with fail
            go_ret
            exact ⟨0, rfl, ⟨fun _ => HFIN.out, fun _ => rfl⟩, HX2.out⟩
end Go.Proofs.Ytljlniehbenefaa
