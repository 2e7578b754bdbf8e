/- The contract of refs.Reach. -/
import Derived.Test.YtlmcahgffakoiaaRows
import Derived.Test.YtlmcahgffakoiaaReachPlain
import Derived.Test.YtlmcahgffakoiaaIntsC
import Derived.WalkKit
import Derived.WalkSpells
import Derived.Deep.LoopGhost
namespace Go.Proofs.Ytlmcahgffakoiaa
open Go.RowKit
set_option linter.unusedVariables false

theorem bool_info : (Try.prog.info? 4).map (fun i => (i.zero, i.size, i.bytes)) = some (some (.bool false), 1, 1) := by kernel_rfl
def ReachPost (w : World) (es : List EdgeD) (fs : List Nat) (e : Ending) (w' : World) : Prop := ∃ (M : Nat → Bool) (A : Option Addr) (c n : Nat), e = .returned (.tuple #[.slice A n c, .int .i64 0]) ∧ n ≤ 64 ∧ w'.ownsRow w.heap.size 3 1 (.slice A n c) n (natsV (setL M 64)) ∧ Least es fs M ∧ Ext w w'
def UpTo (n : Nat) (i : Value) : Prop := ∃ k : Nat, k ≤ n ∧ i = .int .i64 k
def UpToW (w : World) (n : Nat) (i : Value) (wr : World) : Prop := ∃ k : Nat, k ≤ n ∧ i = .int .i64 k ∧ Ext w wr
def WayRel (w w1 : World) (es : List EdgeD) (fs : List Nat) (g G : Nat) (gk : Nat) (way : Value) (wr : World) : Prop :=
  ∃ (M : Nat → Bool) (l : List Nat) (A : Option Addr) (m c : Nat), way = .slice A m c ∧ l.length = m ∧ gk = (64 - cnt M) * (es.length + 1) + m ∧ gk ≤ G ∧ wr.ownsRow w1.heap.size 3 1 (.slice A m c) m (natsV l) ∧ RInv es fs M l ∧ Arr wr g 53 64 (fun x => .bool (M x)) ∧ Ext w wr ∧ w1.heap.size ≤ wr.heap.size
def OutRel (w w1 : World) (es : List EdgeD) (M : Nat → Bool) (l : List Nat) (x g n : Nat) (way i : Value) (wr : World) : Prop :=
  ∃ (k : Nat) (A : Option Addr) (m c : Nat), k ≤ n ∧ i = .int .i64 k ∧ way = .slice A m c ∧ (l ++ outs (es.take k) x).length = m ∧ wr.ownsRow w1.heap.size 3 1 (.slice A m c) m (natsV (l ++ outs (es.take k) x)) ∧ Arr wr g 53 64 (fun x => .bool (M x)) ∧ Ext w wr ∧ w1.heap.size ≤ wr.heap.size
def SetRel (w : World) (M : Nat → Bool) (out i : Value) (wr : World) : Prop :=
  ∃ (k : Nat) (A : Option Addr) (m c : Nat), k ≤ 64 ∧ i = .int .i64 k ∧ out = .slice A m c ∧ (setL M k).length = m ∧ wr.ownsRow w.heap.size 3 1 (.slice A m c) m (natsV (setL M k)) ∧ Ext w wr

theorem snoc_of (l : List Nat) (m : Nat) (h : l.length = m) (hm : 0 < m) : ∃ l0 x, l = l0 ++ [x] ∧ l0.length = m - 1 := by
  rcases List.eq_nil_or_concat l with rfl | ⟨l0, x, rfl⟩
  · simp at h; omega
  · exact ⟨l0, x, by simp, by simp at h; omega⟩
theorem cnt_none : cnt (fun _ => false) = 0 := by decide

set_option maxHeartbeats 4000000 in
set_option maxRecDepth 100000 in
theorem reach_ok (es : List EdgeD) (fs : List Nat) (hes : ∀ e ∈ es, e.1 < 64 ∧ e.2 < 64) (hfs : ∀ f ∈ fs, f < 64) (A : Option Addr) (n c B : Nat) (A' : Option Addr) (n' c' B' : Nat) (w : World)
    (hr : Reads w B 2 A n (edgesV es)) (hr' : Reads w B' 1 A' n' (natsV fs)) (hB : B ≤ w.heap.size) (hB' : B' ≤ w.heap.size) (hn : n ≤ 1000) (hn' : n' ≤ 1000) (hA' : A' = none → n' = 0) :
    Calls Try.prog 8 #[.slice A n c, .slice A' n' c'] w (ReachPost w es fs) := by
  obtain ⟨i0, hi0, hz0, hz1, hz2⟩ := info_parts int_info
  have HLE := hide (show es.length = n from flat_len edgeC_len (by omega) hr)
  have HLF := hide (show fs.length = n' by have := hr'.1; rw [natsV_length] at this; omega)
  have HR := hide hr
  have HR' := hide hr'
  have HES := hide hes
  have HFS := hide hfs
  have HA' := hide hA'
  clear hr hr' hes hfs hA'
  go_enter Try.func8, Try.ntmps8
  go_upto_region 2 with fail
  obtain ⟨W, hW⟩ : ∃ W, W = w.alloc (.cells (List.replicate 64 (Value.bool false)).toArray 53) := ⟨_, rfl⟩
  have ha : Arr W w.heap.size 53 64 (fun _ => .bool false) := by rw [hW]; exact (Blk.new _ _ _).arr _ rfl
  have hxa : Ext w W := by rw [hW]; exact (Ext.refl w).alloc _
  simp only [List.replicate] at hW
  rw [← hW]
  have HA := hide ha
  have HXA := hide hxa
  have hgs : w.heap.size < W.heap.size := ha.lt
  clear hW ha hxa
  go_wp2_with fail
  refine (iclone_any A' n' c' B' (natsV fs) W (HXA.out.reads HR'.out hB') (natsV_one _) (Nat.le_trans hB' HXA.out.size) (by omega) HA'.out).mono ?_
  rintro e w2 ⟨A7, c7, rfl, ho7, hx7⟩
  have HO7 := hide ho7
  have HX7 := hide (HXA.out.trans hx7)
  have HA7 := hide (HA.out.ext hx7)
  have hs7 : W.heap.size ≤ w2.heap.size := hx7.size
  clear ho7 hx7
  go_wp2_with fail
  go_loop [22] (UpTo n') (fun i => n' - (intOf i).toNat)
  case atStart => exact ⟨0, Nat.zero_le _, rfl⟩
  case round =>
    obtain ⟨k, hk, rfl⟩ := hrel
    by_cases hlt : k < n'
    · obtain ⟨b, off, rfl, -, -⟩ := HR'.out.at1 (by omega)
      have g1 : w2.cell? ⟨b, off + k, none⟩ = some (.int .i64 (fs.getD k 0 : Nat)) := cells_nats (HX7.out.reads HR'.out hB') k hlt
      have hf : fs.getD k 0 < 64 := HFS.out _ (by
        have hkl : k < fs.length := by rw [HLF.out]; exact hlt
        simp [List.getD_eq_getElem?_getD, hkl])
      generalize fs.getD k 0 = x at g1 hf
      go_wp2_with fail
      go_round
      case rel => exact ⟨k + 1, by omega, by go_num⟩
      case measure => simp [intOf]; omega
    · obtain rfl : n' = k := by omega
      go_wp2_with fail
      go_loopw [35] (UpToW w2 n) (fun i _ => n - (intOf i).toNat)
      case atStart => exact ⟨0, Nat.zero_le _, rfl, Ext.refl _⟩
      case round =>
        obtain ⟨j, hj, rfl, hx⟩ := hrel
        have HX := hide hx
        clear hx
        by_cases hlt2 : j < n
        · obtain ⟨b, off, rfl, hb⟩ := HR.out.addr (by omega) (by omega)
          have hjl : j < es.length := by rw [HLE.out]; exact hlt2
          obtain ⟨q0, q1⟩ := edge_cells ((HX7.out.trans HX.out).reads HR.out hB) j hlt2 hjl
          obtain ⟨o1, o2⟩ := HES.out es[j] (List.getElem_mem hjl)
          generalize es[j] = ed at *
          obtain ⟨e1, e2⟩ := ed
          dsimp only at q0 q1 o1 o2
          go_wp2_with fail
          go_roundw
          case rel => exact ⟨j + 1, by omega, by go_num, HX.out.alloc _⟩
          case measure => simp [intOf]; omega
        · obtain rfl : n = j := by omega
          have HX3 := hide (HX7.out.trans HX.out)
          have HO3 := hide (HX.out.own HO7.out)
          have HA3 := hide (HA7.out.ext HX.out)
          have hs3 : W.heap.size ≤ wr.heap.size := Nat.le_trans hs7 HX.out.size
          clear HO7 HA7 HX HX7 HA HXA hs7
          generalize wr = w3 at *
          go_wp2_with fail
          go_loopg [7] (64 * (n + 1) + n') (WayRel w W es fs w.heap.size (64 * (n + 1) + n'))
          case atStart => exact ⟨_, fs, A7, n', c7, rfl, HLF.out, by rw [cnt_none, HLE.out], Nat.le_refl _, HO3.out, RInv.start es fs HFS.out, HA3.out, HX3.out, hs3⟩
          case round =>
            obtain ⟨M, l, A1, m, c1, rfl, hl, hgk, hG, ho, hinv, harr, hx, hs⟩ := hrel
            have HL := hide hl
            have HGK := hide hgk
            have HG := hide hG
            have HO := hide ho
            have HI := hide hinv
            have HAR := hide harr
            have HX := hide hx
            clear hl hgk hG hinv harr hx HO3 HA3 HX3 hs3
            have hm1 : m ≤ 64 * 1001 + 1000 := by
              have h1 := HGK.out
              have h2 := HG.out
              have h3 : 64 * (n + 1) ≤ 64 * 1001 := by omega
              omega
            by_cases hm : 0 < m
            · obtain ⟨g1, rfl, hg1, hg1', hc1, hc2⟩ := own_addr ho hm
              unfold maxLen at hc2
              clear ho
              obtain ⟨l0, x, hl0, hlen0⟩ := snoc_of l m HL.out hm
              have hcell := (own_cell HO.out (m - 1) (u := .int .i64 (x : Int)) (by rw [hl0, natsV_append, List.getElem?_append_right (by rw [natsV_length]; omega), natsV_length, hlen0]; simp [natsV])).1
              have hx64 : x < 64 := HI.out.2.2.2.1 x (by rw [hl0]; simp)
              have HL0 := hide hl0
              have HLEN0 := hide hlen0
              clear hl0 hlen0
              have hmx := HAR.out.cell x hx64
              have hfx := HAR.out.frozen x
              have hm2 : (m : Int) - 1 = ((m - 1 : Nat) : Int) := by omega
              by_cases hM : M x = true
              · rw [hM] at hmx
                have HL1 := hide (show wr.ownsRow W.heap.size 3 1 (.slice (some ⟨g1, 0, none⟩) (m - 1) c1) (m - 1) (natsV l0) by
                  have := own_take HO.out (m - 1) (by omega)
                  rwa [HL0.out, natsV_append, List.take_append_of_le_length (by rw [natsV_length, HLEN0.out]; exact Nat.le_refl _), List.take_of_length_le (by rw [natsV_length, HLEN0.out]; exact Nat.le_refl _)] at this)
                have HI1 := hide (show RInv es fs M l0 from RInv.skip (by rw [← HL0.out]; exact HI.out) hM)
                clear hM
                go_wp2_with fail
                go_roundg ((64 - cnt M) * (es.length + 1) + (m - 1))
                case measure => have := HGK.out; omega
                case rel => exact ⟨M, l0, _, m - 1, c1, rfl, HLEN0.out, rfl, by have := HGK.out; have := HG.out; omega, HL1.out, HI1.out, HAR.out, HX.out, hs⟩
              · have hMf : M x = false := by simpa using hM
                have HM := hide hMf
                rw [hMf] at hmx
                have HL1 := hide (show wr.ownsRow W.heap.size 3 1 (.slice (some ⟨g1, 0, none⟩) (m - 1) c1) (m - 1) (natsV l0) by
                  have := own_take HO.out (m - 1) (by omega)
                  rwa [HL0.out, natsV_append, List.take_append_of_le_length (by rw [natsV_length, HLEN0.out]; exact Nat.le_refl _), List.take_of_length_le (by rw [natsV_length, HLEN0.out]; exact Nat.le_refl _)] at this)
                have HI1 := hide (show RInv es fs (updN M x true) (l0 ++ outs es x) from RInv.take HES.out (by rw [← HL0.out]; exact HI.out))
                have HCN := hide (cnt_upd M x hMf hx64)
                have HA1 := hide (show Arr (wr.setCell ⟨w.heap.size, x, none⟩ (.bool true)) w.heap.size 53 64 (fun y => .bool (updN M x true y)) from (HAR.out.set x hx64 (.bool true)).congr (fun o _ => by unfold updN; split <;> rfl))
                have HX1 := hide (show Ext w (wr.setCell ⟨w.heap.size, x, none⟩ (.bool true)) from HX.out.setCell (Nat.le_refl _) _)
                have HL2 := hide (show (wr.setCell ⟨w.heap.size, x, none⟩ (.bool true)).ownsRow W.heap.size 3 1 (.slice (some ⟨g1, 0, none⟩) (m - 1) c1) (m - 1) (natsV l0) from own_far HL1.out (by simp [Value.ownBlock]; omega) _)
                have hs1 : W.heap.size ≤ (wr.setCell ⟨w.heap.size, x, none⟩ (.bool true)).heap.size := by simp; exact hs
                clear hM hMf
                go_upto_region 20 with fail
                clear hmx hfx hcell
                generalize wr.setCell ⟨w.heap.size, x, none⟩ (.bool true) = w4 at *
                go_wp2_with fail
                go_loopg [7, 79] (n + 1) (fun gk way i wr => OutRel w W es (updN M x true) l0 x w.heap.size n way i wr ∧ gk + (intOf i).toNat = n + 1)
                case atStart => exact ⟨⟨0, _, m - 1, c1, Nat.zero_le _, rfl, rfl, by simp [outs, HLEN0.out], by simpa [outs] using HL2.out, HA1.out, HX1.out, hs1⟩, by simp [intOf]⟩
                case round =>
                  obtain ⟨⟨k, A5, m5, c5, hk, rfl, rfl, hl5, ho5, ha5, hx5, hs5⟩, hgk5⟩ := hrel
                  have HL5 := hide hl5
                  have HO5 := hide ho5
                  have HA5 := hide ha5
                  have HX5 := hide hx5
                  have HK5 := hide hgk5
                  have hm5 : m5 ≤ 64 * 1001 + 2000 := by
                    have h1 := outs_le (es.take k) x
                    have h2 := HL5.out
                    rw [List.length_append, HLEN0.out] at h2
                    rw [List.length_take] at h1
                    omega
                  clear hl5 ho5 ha5 hx5 hgk5 HL2 HA1 HX1 hs1
                  by_cases hlt5 : k < n
                  · obtain ⟨b, off, rfl, hb⟩ := HR.out.addr (by omega) (by omega)
                    have hkl : k < es.length := by rw [HLE.out]; exact hlt5
                    obtain ⟨q0, q1⟩ := edge_cells (HX5.out.reads HR.out hB) k hlt5 hkl
                    obtain ⟨o1, o2⟩ := HES.out es[k] (List.getElem_mem hkl)
                    have HT := hide (show outs (es.take (k + 1)) x = outs (es.take k) x ++ if es[k].1 = x then [es[k].2] else [] by rw [List.take_succ_eq_append_getElem hkl, outs_snoc])
                    generalize es[k] = ed at *
                    obtain ⟨e1, e2⟩ := ed
                    dsimp only at q0 q1 o1 o2 HT
                    have HO6 := hide (((Ext.refl wr).alloc (.cells #[.int .i64 (e1 : Int), .int .i64 (e2 : Int)] 34)).own HO5.out)
                    have HX6 := hide (HX5.out.alloc (.cells #[.int .i64 (e1 : Int), .int .i64 (e2 : Int)] 34))
                    have HA6 := hide (HA5.out.alloc (.cells #[.int .i64 (e1 : Int), .int .i64 (e2 : Int)] 34))
                    by_cases he : e1 = x
                    · subst he
                      have HT' := hide (show outs (es.take (k + 1)) e1 = outs (es.take k) e1 ++ [e2] by rw [HT.out]; simp)
                      have HB7 := hide (Blk.new' (wr.alloc (.cells #[.int .i64 (e1 : Int), .int .i64 (e2 : Int)] 34)) 3 #[.int .i64 (e2 : Int)] (g := wr.heap.size + 1) (by simp))
                      go_wp2_with (at_builtin; refine wpList_append_any _ rfl (.tmp 87) (.tmp 90) _ rfl W.heap.size 3 i0 _ 1 8 Try.underlying22 hi0 hz0 hz1 hz2 rfl (by omega) _ m5 _ rfl (HO6.out.alloc _) _ _ 1 1 _ rfl HB7.out.reads (by simp [Value.oneCell']) (by simp only [maxLen]; omega) (by omega) (by simp; omega) ?_; intro A8 c8 w8 ho8 hg8 ha8)
                      have HO8 := hide (show w8.ownsRow W.heap.size 3 1 (.slice A8 (m5 + 1) c8) (m5 + 1) (natsV (l0 ++ outs (es.take (k + 1)) e1)) by
                        rw [HT'.out, ← List.append_assoc, natsV_append]; exact ho8)
                      have HX8 := hide (show Ext w w8 from (HX6.out.alloc _).grown hg8 (fun j hj => by have := (HO5.out.lt j hj).1; omega))
                      have HA8 := hide ((HA6.out.alloc (.cells #[.int .i64 (e2 : Int)] 3)).grown hg8 (fun e => by have := (HO5.out.lt _ e.symm).1; omega))
                      have hs8 : W.heap.size ≤ w8.heap.size := by have := hg8.size; simp at this; omega
                      clear ho8 hg8 ha8 q0 q1
                      go_roundg (n - k)
                      case measure => have := HK5.out; simp [intOf] at this; omega
                      case rel => exact ⟨⟨k + 1, A8, m5 + 1, c8, by omega, by go_num, rfl, by have := HL5.out; rw [HT'.out, ← List.append_assoc, List.length_append, this]; rfl, HO8.out, HA8.out, HX8.out, hs8⟩, by simp [intOf]; omega⟩
                    · have t1 : (e1 == x) = false := by simpa using he
                      have t2 : ((e1 : Int) == (x : Int)) = false := by simp; omega
                      have hs8 : W.heap.size ≤ (wr.alloc (.cells #[.int .i64 (e1 : Int), .int .i64 (e2 : Int)] 34)).heap.size := by simp; omega
                      have HN := hide he
                      clear he
                      go_wp2_with fail
                      go_roundg (n - k)
                      case measure => have := HK5.out; simp [intOf] at this; omega
                      case rel => exact ⟨⟨k + 1, A5, m5, c5, by omega, by go_num, rfl, by have := HL5.out; rw [HT.out, if_neg HN.out, List.append_nil, this], by rw [HT.out, if_neg HN.out, List.append_nil]; exact HO6.out, HA6.out, HX6.out, hs8⟩, by simp [intOf]; omega⟩
                  · obtain rfl : n = k := by omega
                    have HTK := hide (show es.take n = es from List.take_of_length_le (by rw [HLE.out]; exact Nat.le_refl _))
                    go_wp2_with fail
                    go_roundg ((64 - cnt (updN M x true)) * (es.length + 1) + m5)
                    case measure =>
                      have h1 := HGK.out
                      have h2 := HL5.out
                      have h3 := cnt_le (updN M x true)
                      rw [HTK.out, List.length_append, HLEN0.out] at h2
                      have h4 := outs_le es x
                      rw [HCN.out] at h3 ⊢
                      obtain ⟨d, hd⟩ : ∃ d, 64 - cnt M = d + 1 := ⟨64 - cnt M - 1, by omega⟩
                      rw [hd, Nat.succ_mul] at h1
                      rw [show 64 - (cnt M + 1) = d by omega]
                      omega
                    case rel => exact ⟨_, _, A5, m5, c5, rfl, HL5.out, rfl, by
                      have h1 := HGK.out
                      have h0 := HG.out
                      have h2 := HL5.out
                      have h3 := cnt_le (updN M x true)
                      rw [HTK.out, List.length_append, HLEN0.out] at h2
                      have h4 := outs_le es x
                      rw [HCN.out] at h3 ⊢
                      obtain ⟨d, hd⟩ : ∃ d, 64 - cnt M = d + 1 := ⟨64 - cnt M - 1, by omega⟩
                      rw [hd, Nat.succ_mul] at h1
                      rw [show 64 - (cnt M + 1) = d by omega]
                      omega, HO5.out, by rw [HTK.out]; exact HI1.out, HA5.out, HX5.out, hs5⟩
            · obtain rfl : m = 0 := by omega
              obtain rfl : l = [] := List.eq_nil_of_length_eq_zero HL.out
              have HLEAST := hide HI.out.done
              obtain ⟨cs, hcs, hlen, hld⟩ := HAR.out.whole
              have HCS := hide hcs
              have HLD := hide hld
              have HSZ := hide (show (Try.prog.info? 53).map (·.size) = some cs.length by rw [hlen]; kernel_rfl)
              obtain ⟨ib, hib, -, hib1, -⟩ := info_parts bool_info
              clear hcs ho hlen hld
              go_wp2_with ((with_reducible refine wpList_load_mid rfl 53 (.tmp 6) rfl w.heap.size 0 rfl cs _ HLD.out Try.underlying53 rfl HSZ.out ?_))
              go_loopw [15, 94] (SetRel w M) (fun _ i _ => 64 - (intOf i).toNat)
              case atStart => exact ⟨0, none, 0, 0, Nat.zero_le _, rfl, rfl, rfl, World.ownsRow_nil _ _ _ _, HX.out⟩
              case round =>
                obtain ⟨k, A5, m5, c5, hk, rfl, rfl, hl5, ho5, hx5⟩ := hrel
                have HL5 := hide hl5
                have HO5 := hide ho5
                have HX5 := hide hx5
                have hm5 : m5 ≤ 64 := by have := HL5.out; have := setL_le M k; omega
                clear hl5 ho5 hx5
                by_cases hlt5 : k < 64
                · have hix := index_arr (P := Try.prog) Try.underlying53 Try.underlying4 rfl hib hib1 cs.toArray k hlt5 (by simpa using HCS.out k hlt5) .i64
                  have HT := hide (setL_succ M k)
                  by_cases hM : M k = true
                  · rw [hM] at hix
                    have HMK := hide hM
                    clear hM
                    have HB7 := hide (Blk.new wr 3 #[.int .i64 (k : Int)])
                    go_wp2_with (at_builtin; refine wpList_append_any _ rfl (.tmp 99) (.tmp 101) _ rfl w.heap.size 3 i0 _ 1 8 Try.underlying22 hi0 hz0 hz1 hz2 rfl (by omega) _ m5 _ rfl (HO5.out.alloc _) _ _ 1 1 _ rfl HB7.out.reads (by simp [Value.oneCell']) (by simp only [maxLen]; omega) (by omega) (by have := HX5.out.size; simp; omega) ?_; intro A8 c8 w8 ho8 hg8 ha8)
                    have HO8 := hide (show w8.ownsRow w.heap.size 3 1 (.slice A8 (m5 + 1) c8) (m5 + 1) (natsV (setL M (k + 1))) by
                      rw [HT.out, if_pos HMK.out, natsV_append]; exact ho8)
                    have HX8 := hide (show Ext w w8 from (HX5.out.alloc _).grown hg8 (fun j hj => (HO5.out.lt j hj).1))
                    clear ho8 hg8 ha8 hix
                    go_roundw
                    case rel => exact ⟨k + 1, A8, m5 + 1, c8, by omega, by go_num, rfl, by rw [HT.out, if_pos HMK.out, List.length_append, HL5.out]; rfl, HO8.out, HX8.out⟩
                    case measure => simp [intOf]; omega
                  · have hMf : M k = false := by simpa using hM
                    rw [hMf] at hix
                    have HMK := hide hM
                    clear hM hMf
                    go_wp2_with fail
                    go_roundw
                    case rel => exact ⟨k + 1, A5, m5, c5, by omega, by go_num, rfl, by rw [HT.out, if_neg HMK.out, List.append_nil, HL5.out], by rw [HT.out, if_neg HMK.out, List.append_nil]; exact HO5.out, HX5.out⟩
                    case measure => simp [intOf]; omega
                · obtain rfl : k = 64 := by omega
                  go_wp2_with fail
                  go_ret2
                  exact ⟨M, A5, c5, m5, rfl, hm5, HO5.out, HLEAST.out, HX5.out⟩
end Go.Proofs.Ytlmcahgffakoiaa
