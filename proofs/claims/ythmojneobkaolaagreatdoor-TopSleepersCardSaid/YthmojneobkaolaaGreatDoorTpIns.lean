/- The contracts of slices.Clone and slices.Insert on timers. -/
import Derived.Test.YthmojneobkaolaaGreatDoorTpLeaf
import Derived.Test.YthmojneobkaolaaGreatDoorCopyN
import Derived.Lib.AppendZerosOnto
import Derived.Lib.Overlaps
import Derived.Laws.Externs
import Derived.Deep.RegionLaw
import Derived.Lib.SliceRun
namespace Go.Proofs.YthmojneobkaolaaGreatDoor
open Go.RowKit
set_option linter.unusedVariables false

abbrev tmT : TypeId := 110

theorem tm_infoW : (Tryz.prog.info? 110).map (fun i => (i.zero, i.size, i.bytes)) = some (some (.agg #[.int .u32 0, .int .i64 0]), 2, 16) := by kernel_rfl
set_option maxRecDepth 100000 in
theorem oclone_any (A : Option Addr) (n c B : Nat) (xs : List Value) (w : World) (hr : Reads w B 2 A n xs) (h1 : ∀ u ∈ xs, u.oneCell' = true) (hB : B ≤ w.heap.size) (hc : n ≤ 1000) (hA : A = none → n = 0) :
    Calls Tryz.prog 45 #[.slice A n c] w fun e w' => ∃ A' c', e = .returned (.slice A' n c') ∧ w'.ownsRow w.heap.size tmT 2 (.slice A' n c') n xs ∧ Ext w w' := by
  obtain ⟨i0, hi0, hz0, hz1, hz2⟩ := info_parts tm_infoW
  have q : ∀ (w : World) (a : Option Addr) (n c n' c' : Nat), (binOp .eql 106 (.slice a n c) (.slice none n' c')).run Tryz.prog w = .ok (.bool a.isNone) w := fun w a n c n' c' => Lib.run_eql_slice_nil w _ _ a n c n' c' Tryz.underlying106
  rcases A with _ | ad
  · obtain rfl := hA rfl
    have hx : xs = [] := List.eq_nil_of_length_eq_zero (by simpa using hr.1)
    subst hx
    go_enter Tryz.func45, Tryz.ntmps45
    go_wp2
    go_ret
    exact ⟨_, _, rfl, World.ownsRow_nil _ _ _ _, Ext.refl _⟩
  · have hr' := hr.alloc hB (.cells #[] tmT)
    have HR := hide hr'
    have HM := hide (show 0 + n ≤ maxLen by simp only [maxLen]; omega)
    have HN := hide (show (0 + n) * 16 ≤ 140737488355328 by omega)
    clear hr hr' hA
    go_enter Tryz.func45, Tryz.ntmps45
    go_wp2_with (at_builtin; refine wpList_append_any _ rfl (.tmp 5) (.tmp 6) _ rfl w.heap.size tmT i0 _ 2 16 Tryz.underlying106 hi0 hz0 hz1 hz2 rfl (by omega) _ 0 [] rfl (World.ownsRow_made w #[] 0 (Nat.le_refl _) (Nat.zero_le _) rfl) B (some ad) n c xs rfl HR.out h1 HM.out HN.out (by simp) ?_; intro A1 c1 w1 hown1 hg1 hadr1)
    go_ret
    refine ⟨A1, c1, by simp, by simpa using hown1, ?_⟩
    exact ((Ext.refl w).alloc _).grown hg1 (fun k hk => by injection hk with hk; subst hk; exact Nat.le_refl _)
theorem spl_len (L : List Value) (off : Nat) (cs : List Value) (h : off + cs.length ≤ L.length) : (spl L off cs).length = L.length := by simp [spl]; omega
/-- A row whose later part was moved up by one element, and then filled. -/
theorem spl_spl (L : List Value) (i n k : Nat) (ys : List Value) (hy : ys.length = k) (hi : i ≤ n) (hL : (n + 1) * k ≤ L.length) :
    (spl (spl L ((i + 1) * k) ((L.take (n * k)).drop (i * k))) (i * k) ys).take ((n + 1) * k) = (L.take (n * k)).take (i * k) ++ (ys ++ (L.take (n * k)).drop (i * k)) := by
  have h1 : (n + 1) * k = n * k + k := Nat.succ_mul n k
  have h2 : (i + 1) * k = i * k + k := Nat.succ_mul i k
  have h3 : i * k ≤ n * k := Nat.mul_le_mul_right k hi
  rw [h1] at hL ⊢
  rw [h2]
  generalize i * k = a at *
  generalize n * k = b at *
  have hln : ((L.take b).drop a).length = b - a := by rw [List.length_drop, List.length_take]; omega
  have e1 : (spl L (a + k) ((L.take b).drop a)).take a = L.take a := by
    unfold spl
    rw [List.take_append_of_le_length (by rw [List.length_take]; omega), List.take_take]
    congr 1; omega
  have e2 : (spl L (a + k) ((L.take b).drop a)).drop (a + k) = (L.take b).drop a ++ L.drop (b + k) := by
    unfold spl
    rw [List.drop_append_of_le_length (by rw [List.length_take]; omega), List.drop_of_length_le (by rw [List.length_take]; omega), List.nil_append, hln]
    congr 2; omega
  show ((spl L (a + k) ((L.take b).drop a)).take a ++ (ys ++ (spl L (a + k) ((L.take b).drop a)).drop (a + ys.length))).take (b + k) = _
  rw [hy, e1, e2, List.take_take, Nat.min_eq_left h3, ← List.append_assoc, ← List.append_assoc, List.take_append_of_le_length (by simp only [List.length_append, List.length_take, hln, hy]; omega),
    List.take_of_length_le (by simp only [List.length_append, List.length_take, hln, hy]; omega), List.append_assoc]
/-- The other way: first the new element is laid, then what stood behind. -/
theorem spl_spl' (L X Y : List Value) (i n k : Nat) (ys : List Value) (hy : ys.length = k) (hi : i ≤ n) (hX : X.length = n * k) (hL : (n + 1) * k ≤ L.length) (hLX : L.take (i * k) = X.take (i * k)) :
    (spl (spl L (i * k) ys) ((i + 1) * k) (X.drop (i * k))).take ((n + 1) * k) = X.take (i * k) ++ (ys ++ X.drop (i * k)) := by
  have h1 : (n + 1) * k = n * k + k := Nat.succ_mul n k
  have h2 : (i + 1) * k = i * k + k := Nat.succ_mul i k
  have h3 : i * k ≤ n * k := Nat.mul_le_mul_right k hi
  rw [h1] at hL ⊢
  rw [h2]
  generalize i * k = a at *
  generalize n * k = b at *
  have e1 : (spl L a ys).take (a + k) = L.take a ++ ys := by
    unfold spl
    rw [← List.append_assoc, List.take_append_of_le_length (by simp only [List.length_append, List.length_take, hy]; omega), List.take_of_length_le (by simp only [List.length_append, List.length_take, hy]; omega)]
  show ((spl L a ys).take (a + k) ++ (X.drop a ++ _)).take (b + k) = _
  rw [e1, ← List.append_assoc, List.take_append_of_le_length (by simp only [List.length_append, List.length_take, List.length_drop, hy]; omega),
    List.take_of_length_le (by simp only [List.length_append, List.length_take, List.length_drop, hy]; omega), hLX, List.append_assoc]
theorem blk_shape {w : World} {g : Nat} {t : TypeId} {cs : Array Value} (h : w.heap[g]? = some (.cells cs t (0, 0))) : w.shape? g = some (t, cs.size) := by simp [World.shape?, h]
theorem heap_drew (w : World) (g : Nat) : w.drew.heap[g]? = w.heap[g]? := rfl
theorem zero_len (z : Array Value) (n : Nat) : (Builtin.zeroCells z n).size = n * z.size := by simp [Builtin.zeroCells]
def InsOut (base : Nat) (w : World) (A : Option Addr) (n c i : Nat) (xs ys : List Value) (e : Ending) (w' : World) : Prop :=
  ∃ A' c', e = .returned (.slice A' (n + 1) c') ∧ w'.ownsRow base tmT 2 (.slice A' (n + 1) c') (n + 1) (xs.take (i * 2) ++ (ys ++ xs.drop (i * 2))) ∧ w.grownBy w' (Value.ownBlock (.slice A n c))
set_option maxHeartbeats 8000000 in
set_option maxRecDepth 100000 in
theorem insert_end (A : Option Addr) (n c gv : Nat) (xs : List Value) (y0 y1 : Value) (base : Nat) (w : World) (ho : w.ownsRow base tmT 2 (.slice A n c) n xs) (hB : base ≤ w.heap.size) (hn : n ≤ 20) (hv : Blk w gv tmT #[y0, y1]) (h1y : ∀ u ∈ [y0, y1], u.oneCell' = true) :
    Calls Tryz.prog 262 #[.slice A n c, .int .i64 (n : Int), .slice (some ⟨gv, 0, none⟩) 1 1] w (InsOut base w A n c n xs [y0, y1]) := by
  obtain ⟨i0, hi0, hz0, hz1, hz2⟩ := info_parts tm_infoW
  have hxl := ho.1
  obtain ⟨hnc, hcm⟩ := own_le ho
  unfold maxLen at hcm
  have HO := hide ho
  have HV := hide (Blk.one (l := [y0, y1]) hv rfl)
  have HON := hide h1y
  have HXL := hide hxl
  have HM := hide (show n + 1 ≤ maxLen by simp only [maxLen]; omega)
  have HN := hide (show (n + 1) * 16 ≤ 140737488355328 by omega)
  clear ho hv h1y hxl
  go_enter Tryz.func262, Tryz.ntmps262
  go_wp2_with (at_builtin; refine wpList_append_any _ rfl (.tmp 23) (.tmp 24) 106 rfl base tmT i0 _ 2 16 Tryz.underlying106 hi0 hz0 hz1 hz2 rfl (by omega) (.slice A n c) n xs rfl HO.out w.heap.size _ 1 1 [y0, y1] rfl HV.out HON.out HM.out HN.out hB ?_; intro A1 c1 w1 hown1 hg1 hadr1)
  all_goals
    go_ret
    exact ⟨A1, c1, rfl, by rw [List.take_of_length_le (by rw [HXL.out]; exact Nat.le_refl _), List.drop_of_length_le (by rw [HXL.out]; exact Nat.le_refl _), List.append_nil]; exact hown1, by cases A <;> exact hg1⟩
theorem cellsAt {w : World} {g : Nat} {cur : Array Value} {t : TypeId} (hh : w.heap[g]? = some (.cells cur t (0, 0))) (a : Nat) (L : List Value) (hL : ∀ j v, L[j]? = some v → cur[a + j]? = some v) : ∀ j v, L[j]? = some v → w.cell? ((⟨g, a, none⟩ : Addr).add j) = some v := fun j v hj => by
  rw [add_lit]
  simp [World.cell?, hh, hL j v hj]
set_option maxHeartbeats 8000000 in
set_option maxRecDepth 100000 in
theorem insert_room (g n c i gv : Nat) (xs : List Value) (y0 y1 : Value) (base : Nat) (w : World) (ho : w.ownsRow base tmT 2 (.slice (some ⟨g, 0, none⟩) n c) n xs) (hn : n ≤ 20) (hi : i < n) (hc : n + 1 ≤ c) (hv : Blk w gv tmT #[y0, y1]) (hne : gv ≠ g)
    (h1x : ∀ u ∈ xs, u.oneCell' = true) (h1y : ∀ u ∈ [y0, y1], u.oneCell' = true) :
    Calls Tryz.prog 262 #[.slice (some ⟨g, 0, none⟩) n c, .int .i64 (i : Int), .slice (some ⟨gv, 0, none⟩) 1 1] w (InsOut base w (some ⟨g, 0, none⟩) n c i xs [y0, y1]) := by
  obtain ⟨i0, hi0, hz0, hz1, hz2⟩ := info_parts tm_infoW
  have hsz : (Tryz.prog.info? tmT).map (·.size) = some 2 := by rw [hi0]; simp [hz1]
  have hxl := ho.1
  obtain ⟨g', cur, hA, hb, hh, hnc, hcm, hcs, hcx⟩ := own_row ho (by omega)
  injection hA with hA
  injection hA with hA
  subst hA
  have hcl : cur.toList.length = c * 2 := by simpa using hcs
  have hov : ∀ o lb cb, (callFunc 313 #[.slice (some ⟨gv, 0, none⟩) 1 1, .slice (some ⟨g, o, none⟩) lb cb]).run Tryz.prog w = .ok (.value (.bool false)) w := fun o lb cb => by
    rw [run_callFunc_extern Tryz.func313 (by kernel_rfl) (by kernel_rfl) (by kernel_rfl) (e := Extern.SlicesOverlaps.overlaps #[106, 106] #[4]) (by kernel_rfl),
      Lib.run_overlaps_apart w 106 4 tmT Tryz.underlying106 2 (fun w => by simp [sizeOf, typeInfo, hi0, hz1]) ⟨gv, 0, none⟩ ⟨g, o, none⟩ 1 1 lb cb hne tmT tmT _ _ (blk_shape hv) (blk_shape hh) (by rw [hcs]; omega) (hv.frozen 0) (hv.frozen _)]
    rfl
  have hds : (xs.drop (i * 2)).length = (n - i) * 2 := by rw [List.length_drop, hxl]; omega
  have hxc : ∀ j v, (xs.drop (i * 2))[j]? = some v → cur[i * 2 + j]? = some v := fun j v hj => by
    rw [List.getElem?_drop, ← hcx, List.getElem?_take] at hj
    split at hj
    · simpa using hj
    · cases hj
  have hcp1 : ∀ ty o1 l1 dc o2 l2 sc, o1 = (i + 1) * 2 → l1 = n - i → o2 = i * 2 → l2 = n + 1 - i → (Builtin.copy_ #[106, 106] ty #[.slice (some ⟨g, o1, none⟩) l1 dc, .slice (some ⟨g, o2, none⟩) l2 sc]).run Tryz.prog w.drew = .ok (goInt (Nat.min l2 l1)) (w.drew.setRow g (spl cur.toList ((i + 1) * 2) (xs.drop (i * 2))).toArray) := fun ty o1 l1 dc o2 l2 sc e1 e2 e3 e4 => by
    subst e1 e2 e3 e4
    exact run_copy_rowN w.drew _ _ ty tmT 2 g _ _ dc ⟨g, i * 2, none⟩ _ sc cur tmT _ Tryz.underlying106 hsz hh (by rw [hds, show Nat.min (n + 1 - i) (n - i) = n - i from Nat.min_eq_right (by omega)]) (cellsAt (w := w.drew) hh _ _ hxc) (by rw [hds, hcs]; omega) (fun u hu => h1x u (List.mem_of_mem_drop hu))
  obtain ⟨C1, hC1⟩ : ∃ C1, (spl cur.toList ((i + 1) * 2) (xs.drop (i * 2))) = C1 := ⟨_, rfl⟩
  have hC1l : C1.length = c * 2 := by rw [← hC1, spl_len _ _ _ (by rw [hds, hcl]; omega), hcl]
  obtain ⟨W1, hW1⟩ : ∃ W1, w.drew.setRow g C1.toArray = W1 := ⟨_, rfl⟩
  rw [hC1, hW1] at hcp1
  have hh1 : W1.heap[g]? = some (.cells C1.toArray tmT (0, 0)) := by rw [← hW1]; exact setRow_heap w.drew g cur _ tmT _ hh
  have hv1 : W1.heap[gv]? = some (.cells #[y0, y1] tmT (0, 0)) := by rw [← hW1, setRow_other _ _ _ _ hne]; exact hv
  have hcp2 : ∀ (W : World) ty o1 l1 dc, W.heap = W1.heap → o1 = i * 2 → l1 = n + 1 - i → (Builtin.copy_ #[106, 106] ty #[.slice (some ⟨g, o1, none⟩) l1 dc, .slice (some ⟨gv, 0, none⟩) 1 1]).run Tryz.prog W = .ok (goInt (Nat.min 1 l1)) (W.setRow g (spl C1 (i * 2) [y0, y1]).toArray) := fun W ty o1 l1 dc eW e1 e2 => by
    subst e1 e2
    exact run_copy_rowN W _ _ ty tmT 2 g _ _ dc ⟨gv, 0, none⟩ 1 1 C1.toArray tmT _ Tryz.underlying106 hsz (by rw [eW]; exact hh1) (by rw [show Nat.min 1 (n + 1 - i) = 1 from Nat.min_eq_left (by omega)]; rfl) (cellsAt (by rw [eW]; exact hv1) _ _ (fun j v hj => by rw [Nat.zero_add]; simpa using hj)) (by simp; omega) h1y
  have HOUT := hide (show ∀ W : World, W.heap = W1.heap → W.os = w.os → W.tape = w.tape → W.output = w.output → InsOut base w (some ⟨g, 0, none⟩) n c i xs [y0, y1] (.returned (.slice (some ⟨g, 0, none⟩) (n + 1) c)) (W.setRow g (spl C1 (i * 2) [y0, y1]).toArray) from fun W eW e1 e2 e3 => by
    have hl : (xs.take (i * 2) ++ ([y0, y1] ++ xs.drop (i * 2))).length = (n + 1) * 2 := by simp only [List.length_append, List.length_take, hds, hxl, List.length_cons, List.length_nil]; omega
    refine ⟨_, c, rfl, own_of_row (cur := (spl C1 (i * 2) [y0, y1]).toArray) hb (setRow_heap W g _ _ tmT _ (by rw [eW]; exact hh1)) hc hcm (by simp [spl_len C1 (i * 2) [y0, y1] (by simp; omega), hC1l]) ?_ hl, ?_⟩
    · have hs := spl_spl cur.toList i n 2 [y0, y1] rfl (by omega) (by omega)
      rw [hcx, hC1] at hs
      exact hs
    · refine setRow_grown ⟨e1, e2, e3, by rw [eW, ← hW1]; simp, fun k hk hkn => ?_⟩ _
      rw [eW, ← hW1, setRow_other _ _ _ _ (fun e => hkn (by rw [e]))]
      rfl)
  have h1 : W1.os = w.os := by rw [← hW1]; rfl
  have h2 : W1.tape = w.tape := by rw [← hW1]; rfl
  have h3 : W1.output = w.output := by rw [← hW1]; rfl
  have HF := hide (HOUT.out W1 rfl h1 h2 h3)
  have e1 : (n : Int) + 1 ≤ (c : Int) := by omega
  have hw1 : IntKind.i64.wrap ((i : Int) + 1) = (i : Int) + 1 := by rw [IntKind.wrap_i64]; omega
  have hb1 : (0 : Int) ≤ (i : Int) + 1 := by omega
  have htn : ((i : Int) + 1).toNat = i + 1 := by omega
  have hb3 : (i : Int) ≤ (n : Int) + 1 := by omega
  have hb5 : (i : Int) + 1 ≤ (n : Int) + 1 := by omega
  have hin : i ≤ n := by omega
  have hb2 : ¬ (c = i + 1) := by omega
  have hb4 : ¬ (c = i) := by omega
  have hb6 : i + 1 ≤ c := by omega
  have hb7 : n + 1 ≤ c := by omega
  have hb8 : i ≤ c := by omega
  have hb9 : i + 1 ≤ n + 1 := by omega
  have hb10 : i ≤ n + 1 := by omega
  clear ho hxl hh hcx hcl hds hxc hC1 hC1l hW1 hh1 hv1 HOUT h1 h2 h3 hi0 hz0 hz1 hz2 hsz h1x h1y hb hcs hv
  go_enter Tryz.func262, Tryz.ntmps262
  go_upto_region 15 with (simp only [hov])
  go_region_law (refine step_copy_eqN rfl _ _ 106 106 rfl _ _ (by simp [Act.eval, Act.put]) (by simp [Act.eval, Act.put]) (hcp1 _ _ _ _ _ _ _ (by omega) (by omega) (by omega) (by omega)) ?_)
  go_wp2_with (at_builtin; refine wpList_copy_eqN _ rfl _ _ 106 106 rfl _ _ rfl rfl (hcp2 _ _ _ _ _ rfl (by omega) (by omega)) ?_)
  go_ret
  exact HF.out
set_option maxHeartbeats 8000000 in
set_option maxRecDepth 100000 in
theorem insert_grow (g n c i gv : Nat) (xs : List Value) (y0 y1 : Value) (base : Nat) (w : World) (ho : w.ownsRow base tmT 2 (.slice (some ⟨g, 0, none⟩) n c) n xs) (hB : base ≤ w.heap.size) (hn : n ≤ 20) (hi : i < n) (hc : c < n + 1) (hv : Blk w gv tmT #[y0, y1])
    (h1x : ∀ u ∈ xs, u.oneCell' = true) (h1y : ∀ u ∈ [y0, y1], u.oneCell' = true) :
    Calls Tryz.prog 262 #[.slice (some ⟨g, 0, none⟩) n c, .int .i64 (i : Int), .slice (some ⟨gv, 0, none⟩) 1 1] w (InsOut base w (some ⟨g, 0, none⟩) n c i xs [y0, y1]) := by
  obtain ⟨i0, hi0, hz0, hz1, hz2⟩ := info_parts tm_infoW
  have hsz : (Tryz.prog.info? tmT).map (·.size) = some 2 := by rw [hi0]; simp [hz1]
  have hxl := ho.1
  obtain ⟨g', cur, hA, hb, hh, hnc, hcm, hcs, hcx⟩ := own_row ho (by omega)
  injection hA with hA
  injection hA with hA
  subst hA
  obtain rfl : n = c := by omega
  have hcl : cur.toList.length = n * 2 := by simpa using hcs
  have hgl : g < w.heap.size := Blk.lt (cs := cur) (t := tmT) hh
  have hvl : gv < w.heap.size := hv.lt
  have hds : (xs.drop (i * 2)).length = (n - i) * 2 := by rw [List.length_drop, hxl]; omega
  have hxc : ∀ j v, xs[j]? = some v → cur[0 + j]? = some v := fun j v hj => by
    rw [← hcx, List.getElem?_take] at hj
    split at hj
    · rw [Nat.zero_add]; simpa using hj
    · cases hj
  have hold : (Builtin.firstCells i0.size i (.slice (some ⟨g, 0, none⟩) i n)).run Tryz.prog w.drew = .ok (xs.take (i * 2)).toArray w.drew := by
    rw [hz1]
    exact run_firstCells_some w.drew 2 i ⟨g, 0, none⟩ i n (xs.take (i * 2)) (by rw [List.length_take, hxl]; omega) (cellsAt (w := w.drew) hh 0 _ (fun j v hj => by
      rw [List.getElem?_take] at hj
      split at hj
      · exact hxc j v hj
      · cases hj))
  have hap : ∀ ty z, z = ((n + 1 - i : Nat) : Int) → (Builtin.append_ #[106, 3] ty #[.slice (some ⟨g, 0, none⟩) i n, .int .i64 z]).run Tryz.prog w = .ok (.slice (some ⟨w.heap.size, 0, none⟩) (n + 1) (grownCap w (n + 1) n tmT))
      (w.drew.alloc (.cells ((xs.take (i * 2)).toArray ++ Builtin.zeroCells (Value.agg #[.int .u32 0, .int .i64 0]).cells (n + 1 - i) ++ Builtin.zeroCells (Value.agg #[.int .u32 0, .int .i64 0]).cells (grownCap w (n + 1) n tmT - (n + 1))) tmT)) := fun ty z e => by
    subst e
    have h := Lib.run_append_grow_zeros w 106 3 ty tmT i0 _ .i64 .i64 Tryz.underlying106 Tryz.underlying3 hi0 hz0 (some ⟨g, 0, none⟩) i n (xs.take (i * 2)) hold (n + 1 - i) (by omega) (by omega) (by omega) (by omega) (by rw [hz2]; omega) (by rw [hz2, show i + (n + 1 - i) = n + 1 by omega]; exact growslice_fits (by omega) (by omega))
    rw [show i + (n + 1 - i) = n + 1 by omega] at h
    exact h
  have hG := grownCap_ge w (n + 1) n tmT
  have hGm := grownCap_le_maxLen w (n + 1) n tmT (by simp only [maxLen]; omega)
  obtain ⟨G, hGe⟩ : ∃ G, grownCap w (n + 1) n tmT = G := ⟨_, rfl⟩
  rw [hGe] at hap hG hGm
  have hGx : G ≤ 9223372036854775807 := hGm
  obtain ⟨R, hR⟩ : ∃ R : Array Value, (xs.take (i * 2)).toArray ++ Builtin.zeroCells (Value.agg #[.int .u32 0, .int .i64 0]).cells (n + 1 - i) ++ Builtin.zeroCells (Value.agg #[.int .u32 0, .int .i64 0]).cells (G - (n + 1)) = R := ⟨_, rfl⟩
  have hRs : R.size = G * 2 := by
    rw [← hR]
    simp only [Array.size_append, zero_len, List.size_toArray, List.length_take, hxl]
    show min (i * 2) (n * 2) + (n + 1 - i) * 2 + (G - (n + 1)) * 2 = G * 2
    omega
  have hRt : R.toList.take (i * 2) = xs.take (i * 2) := by
    rw [← hR]
    simp only [Array.toList_append, List.append_assoc]
    rw [List.take_append_of_le_length (by rw [List.length_take, hxl]; omega), List.take_of_length_le (by rw [List.length_take]; omega)]
  rw [hR] at hap
  obtain ⟨W1, hW1⟩ : ∃ W1, w.drew.alloc (.cells R tmT) = W1 := ⟨_, rfl⟩
  rw [hW1] at hap
  obtain ⟨gs, hgs⟩ : ∃ gs, w.heap.size = gs := ⟨_, rfl⟩
  have hh1 : W1.heap[gs]? = some (.cells R tmT (0, 0)) := by rw [← hW1, ← hgs]; exact heap_alloc_new w.drew _
  have hx1 : Ext w W1 := by rw [← hW1]; exact ((Ext.refl w).drew).alloc _
  have hv1 : W1.heap[gv]? = some (.cells #[y0, y1] tmT (0, 0)) := hv.ext hx1
  have hg1 : W1.heap[g]? = some (.cells cur tmT (0, 0)) := Blk.ext (t := tmT) (cs := cur) hh hx1
  rw [hgs] at hap hgl hvl
  have hcp1 : ∀ ty o1 l1 dc, o1 = i * 2 → l1 = n + 1 - i → (Builtin.copy_ #[106, 106] ty #[.slice (some ⟨gs, o1, none⟩) l1 dc, .slice (some ⟨gv, 0, none⟩) 1 1]).run Tryz.prog W1 = .ok (goInt (Nat.min 1 l1)) (W1.setRow gs (spl R.toList (i * 2) [y0, y1]).toArray) := fun ty o1 l1 dc e1 e2 => by
    subst e1 e2
    exact run_copy_rowN W1 _ _ ty tmT 2 gs _ _ dc ⟨gv, 0, none⟩ 1 1 R tmT _ Tryz.underlying106 hsz hh1 (by rw [show Nat.min 1 (n + 1 - i) = 1 from Nat.min_eq_left (by omega)]; rfl) (cellsAt hv1 _ _ (fun j v hj => by rw [Nat.zero_add]; simpa using hj)) (by simp; omega) h1y
  obtain ⟨C1, hC1⟩ : ∃ C1, spl R.toList (i * 2) [y0, y1] = C1 := ⟨_, rfl⟩
  have hC1l : C1.length = G * 2 := by rw [← hC1, spl_len _ _ _ (by simp; omega)]; simpa using hRs
  obtain ⟨W2, hW2⟩ : ∃ W2, W1.setRow gs C1.toArray = W2 := ⟨_, rfl⟩
  rw [hC1, hW2] at hcp1
  have hh2 : W2.heap[gs]? = some (.cells C1.toArray tmT (0, 0)) := by rw [← hW2]; exact setRow_heap W1 gs R _ tmT _ hh1
  have hg2 : W2.heap[g]? = some (.cells cur tmT (0, 0)) := by rw [← hW2, setRow_other _ _ _ _ (by omega)]; exact hg1
  have hcp2 : ∀ (W : World) ty o1 l1 dc o2 l2 sc, W.heap = W2.heap → o1 = (i + 1) * 2 → l1 = n - i → o2 = i * 2 → l2 = n - i → (Builtin.copy_ #[106, 106] ty #[.slice (some ⟨gs, o1, none⟩) l1 dc, .slice (some ⟨g, o2, none⟩) l2 sc]).run Tryz.prog W = .ok (goInt (Nat.min l2 l1)) (W.setRow gs (spl C1 ((i + 1) * 2) (xs.drop (i * 2))).toArray) := fun W ty o1 l1 dc o2 l2 sc eW e1 e2 e3 e4 => by
    subst e1 e2 e3 e4
    exact run_copy_rowN W _ _ ty tmT 2 gs _ _ dc ⟨g, i * 2, none⟩ _ sc C1.toArray tmT _ Tryz.underlying106 hsz (by rw [eW]; exact hh2) (by rw [hds, show Nat.min (n - i) (n - i) = n - i from Nat.min_self _]) (cellsAt (by rw [eW]; exact hg2) _ _ (fun j v hj => by rw [List.getElem?_drop] at hj; have := hxc _ _ hj; rwa [Nat.zero_add] at this)) (by rw [hds]; simp; omega) (fun u hu => h1x u (List.mem_of_mem_drop hu))
  have HOUT := hide (show ∀ W : World, W.heap = W2.heap → W.os = w.os → W.tape = w.tape → W.output = w.output → InsOut base w (some ⟨g, 0, none⟩) n n i xs [y0, y1] (.returned (.slice (some ⟨gs, 0, none⟩) (n + 1) G)) (W.setRow gs (spl C1 ((i + 1) * 2) (xs.drop (i * 2))).toArray) from fun W eW e1 e2 e3 => by
    have hl : (xs.take (i * 2) ++ ([y0, y1] ++ xs.drop (i * 2))).length = (n + 1) * 2 := by simp only [List.length_append, List.length_take, hds, hxl, List.length_cons, List.length_nil]; omega
    refine ⟨_, G, rfl, own_of_row (cur := (spl C1 ((i + 1) * 2) (xs.drop (i * 2))).toArray) (by omega) (setRow_heap W gs _ _ tmT _ (by rw [eW]; exact hh2)) hG hGm (by simp [spl_len C1 ((i + 1) * 2) (xs.drop (i * 2)) (by rw [hds]; omega), hC1l]) ?_ hl, ?_⟩
    · have hs := spl_spl' R.toList xs xs i n 2 [y0, y1] rfl (by omega) hxl (by simp; omega) hRt
      rw [hC1] at hs
      exact hs
    · have h0 : w.grownBy W (some g) := ⟨e1, e2, e3, by rw [eW, ← hW2, ← hW1]; simp, fun k hk hkn => by rw [eW, ← hW2, setRow_other _ _ _ _ (by omega)]; exact hx1.block k hk⟩
      exact ⟨h0.os, h0.tape, h0.output, by have := h0.size; simpa using this, fun k hk hkn => by rw [setRow_other _ _ _ _ (by omega)]; exact h0.block k hk hkn⟩)
  have h1 : W2.os = w.os := by rw [← hW2, ← hW1]; rfl
  have h2 : W2.tape = w.tape := by rw [← hW2, ← hW1]; rfl
  have h3 : W2.output = w.output := by rw [← hW2, ← hW1]; rfl
  have HF := hide (HOUT.out W2.drew rfl h1 h2 h3)
  have hcp3 := hcp2 W2.drew 3 _ _ (G - (i + 1)) _ _ (n - i) rfl rfl rfl rfl rfl
  have hw1 : IntKind.i64.wrap ((i : Int) + 1) = (i : Int) + 1 := by rw [IntKind.wrap_i64]; omega
  have hb1 : (0 : Int) ≤ (i : Int) + 1 := by omega
  have htn : ((i : Int) + 1).toNat = i + 1 := by omega
  have hb3 : (i : Int) ≤ (n : Int) + 1 := by omega
  have hb5 : (i : Int) + 1 ≤ (n : Int) + 1 := by omega
  have hin : i ≤ n := by omega
  have hb2 : ¬ (G = i + 1) := by omega
  have hb4 : ¬ (G = i) := by omega
  have hb6 : i + 1 ≤ G := by omega
  have hb8 : i ≤ G := by omega
  have hb9 : i + 1 ≤ n + 1 := by omega
  have hb10 : i ≤ n + 1 := by omega
  have hb11 : ¬ (n = i) := by omega
  have hb12 : (i : Int) ≤ (n : Int) := by omega
  clear ho hxl hh hcx hcl hds hxc hC1 hC1l hW1 hW2 hh1 hh2 hg1 hg2 hv1 hx1 HOUT h1 h2 h3 hi0 hz0 hz1 hz2 hsz h1x h1y hb hcs hv hold hGe hR hRs hRt hGm hB hgl hvl hgs
  go_enter Tryz.func262, Tryz.ntmps262
  go_upto_region 11 with (at_builtin; first | (refine wpList_append_eqN _ rfl _ _ 106 3 rfl _ _ rfl rfl (hap _ _ (by omega)) ?_) | (refine wpList_copy_eqN _ rfl _ _ 106 106 rfl _ _ rfl rfl (hcp1 _ _ _ _ (by omega) (by omega)) ?_) | fail)
  go_region_law (fail)
  go_wp2_with fail
  go_ret
  exact HF.out
theorem insert_any (A : Option Addr) (n c i gv : Nat) (xs : List Value) (y0 y1 : Value) (base : Nat) (w : World) (ho : w.ownsRow base tmT 2 (.slice A n c) n xs) (hB : base ≤ w.heap.size) (hn : n ≤ 20) (hi : i ≤ n) (hv : Blk w gv tmT #[y0, y1]) (hne : Value.ownBlock (.slice A n c) ≠ some gv)
    (h1x : ∀ u ∈ xs, u.oneCell' = true) (h1y : ∀ u ∈ [y0, y1], u.oneCell' = true) :
    Calls Tryz.prog 262 #[.slice A n c, .int .i64 (i : Int), .slice (some ⟨gv, 0, none⟩) 1 1] w (InsOut base w A n c i xs [y0, y1]) := by
  by_cases hin : i = n
  · subst hin
    exact insert_end A i c gv xs y0 y1 base w ho hB hn hv h1y
  · obtain ⟨g, rfl, -⟩ := own_addr ho (by omega)
    by_cases hc : n + 1 ≤ c
    · exact insert_room g n c i gv xs y0 y1 base w ho hn (by omega) hc hv (fun e => hne (by rw [e]; rfl)) h1x h1y
    · exact insert_grow g n c i gv xs y0 y1 base w ho hB hn (by omega) (by omega) hv h1x h1y
end Go.Proofs.YthmojneobkaolaaGreatDoor
