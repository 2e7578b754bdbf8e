/- How two open ends part, when nothing is lost. Plain laws. -/
import Derived.Test.YtkfpmljlgpobjaaTalkP
namespace Go.Proofs.Ytkfpmljlgpobjaa
open Go.RowKit
set_option linter.unusedVariables false

def opnS (X Y : Int) : EndD := { opn X Y false with shut := true }
def fsent (X Y : Int) : EndD := ⟨4, X, plus X 1, plus X 1, X, Y, [], [], 64, true, false, false, 0, 0⟩
def fgot (X Y : Int) (wt : Int) : EndD := ⟨4, X, plus X 1, plus X 1, X, plus Y 1, [], [], 64, true, true, true, wt, 0⟩
def fack (X Y : Int) (wt : Int) : EndD := { fgot X Y wt with due := false }
def done (X Y : Int) : EndD := ⟨4, plus X 1, plus X 1, plus X 1, X, plus Y 1, [], [], 64, true, true, false, 0, 0⟩
theorem noN {e : EndD} {n : Int} (h : outAt e = n) (h0 : 0 ≤ n) (hl : e.out = []) : outN e ≤ 0 := by
  unfold outN
  rw [h, hl]
  simp only [List.length_nil]
  omega
theorem plus1_at {X : Int} (hX : U32 X) : (plus X 1 - X) % 4294967296 = 1 := by
  obtain ⟨h1, h2⟩ := hX
  unfold plus
  omega
theorem out_opnS {X : Int} (hX : U32 X) (Y : Int) : outE (opnS X Y) = (fsent X Y, [⟨X, Y, 6, 64, []⟩]) := by
  have hat : outAt (opnS X Y) = 0 := by simp [outAt, opnS, opn]
  have h1 : sayE (opnS X Y) 4 0 = fsent X Y := by
    have e : nxtE (opnS X Y) 4 0 = plus X 1 := by simp [nxtE, opnS, opn, spanF, plus]
    have e2 : beforeB (opnS X Y).top (plus X 1) = true := before_plus' hX 1 (by omega) (by omega)
    simp only [sayE, e, e2, if_true]
    rfl
  unfold outE
  rw [if_neg (by simp [opnS, opn]), if_pos (by rfl), outLoop, if_pos (noN hat (by omega) rfl)]
  have h3 : outFin (opnS X Y, []) = (fsent X Y, [⟨X, Y, 6, 64, []⟩]) := by
    unfold outFin
    rw [if_pos ⟨rfl, by rw [hat]; rfl⟩]
    dsimp only
    rw [h1]
    rfl
  rw [h3]
  unfold outDue
  rw [if_neg (by simp [fsent])]
theorem come_fsent {X Y : Int} (hX : U32 X) : comeS (fsent X Y) ⟨Y, X, 6, 64, []⟩ = fgot X Y 0 := by
  have ha : answerE (fsent X Y) X 64 = fsent X Y := by
    unfold answerE
    rw [if_neg (by
      rintro (h2 | h2)
      · have : beforeB (plus X 1) X = true := h2
        rw [before_plus hX _ (by omega)] at this; cases this
      · have : beforeB X X = true := h2
        rw [before_self] at this; cases this), if_pos (by simp [ansM, fsent])]
    rfl
  have hsp : spanF 6 ([] : List UInt8).length = 1 := by simp [spanF]
  unfold comeS comeE
  rw [if_neg (by simp [fsent]), if_neg (by simp), if_neg (by simp [fsent]), if_neg (by simp [fsent]), if_neg (by simp [fsent]), if_neg (by simp)]
  dsimp only
  rw [ha]
  unfold takeE
  rw [if_neg (by rw [hsp]; omega), if_neg (by simp [refuseB, fsent])]
  unfold takeTo
  rw [hsp]
  unfold fsent fgot plus
  simp
theorem rd_fin {x : EndD} (h4 : x.st = 4) (h1 : x.inn = []) (h2 : x.fin = true) : rdE x = x ∧ rdG x = [] := by
  have he : readErr x 64 = none := by
    unfold readErr
    rw [if_neg (by omega), if_neg (by rw [h2]; simp)]
  have hn : readN x 64 = 0 := by unfold readN; rw [h1]; simp
  unfold rdE rdG
  rw [he]
  dsimp only
  refine ⟨?_, by rw [hn]; rfl⟩
  unfold readTo
  rw [hn, h1]
  cases x
  simp_all
theorem tick_fgot {X : Int} (hX : U32 X) (Y : Int) : tickE (fgot X Y 0) = fgot X Y 1 := by
  unfold tickE
  rw [if_neg (fun h2 => h2.elim (fun h3 => by simp [begunB, fgot] at h3) (fun h3 => by
    obtain ⟨a1, a2⟩ := hX
    have : X = plus X 1 := h3
    unfold plus at this
    omega)), if_pos (by simp [fgot])]
  rfl
theorem out_fgot {X : Int} (hX : U32 X) (Y : Int) (wt : Int) : outE (fgot X Y wt) = (fack X Y wt, [⟨plus X 1, plus Y 1, 2, 64, []⟩]) := by
  have hat : outAt (fgot X Y wt) = 1 := plus1_at hX
  have h1 : sayE (fgot X Y wt) 0 0 = fack X Y wt := by
    have e : nxtE (fgot X Y wt) 0 0 = plus X 1 := nxt0 (plus_u _ _)
    have e2 : beforeB (fgot X Y wt).top (plus X 1) = false := before_self _
    simp only [sayE, e, e2]
    rfl
  unfold outE
  rw [if_neg (by simp [fgot]), if_pos (by rfl), outLoop, if_pos (noN hat (by omega) rfl)]
  have h3 : outFin (fgot X Y wt, []) = (fgot X Y wt, []) := by unfold outFin; rw [if_neg (by rintro ⟨_, h⟩; dsimp only at h; rw [hat] at h; simp [fgot] at h)]
  rw [h3]
  unfold outDue
  rw [if_pos (by rfl)]
  dsimp only
  rw [h1]
  rfl
theorem come_fack {X Y : Int} (hX : U32 X) : comeS (fack X Y 1) ⟨plus Y 1, plus X 1, 2, 64, []⟩ = done X Y := by
  have hM : ansM (fack X Y 1) (plus X 1) = 1 := by
    unfold ansM
    rw [show (fack X Y 1).una = X from rfl, plus1_at hX]
    rfl
  have hK : ansK (fack X Y 1) (plus X 1) = 0 := by unfold ansK; rw [hM]; unfold fack fgot; simp
  have ha : answerE (fack X Y 1) (plus X 1) 64 = done X Y := by
    unfold answerE
    rw [if_neg (by
      rintro (h2 | h2)
      · have : beforeB (plus X 1) (plus X 1) = true := h2
        rw [before_self] at this; cases this
      · have : beforeB (plus X 1) X = true := h2
        rw [before_plus hX _ (by omega)] at this; cases this), if_neg (by rw [hM]; omega)]
    unfold ansTo
    rw [hK]
    unfold fack fgot done
    dsimp only
    rw [before_self]
    have : (X + ((0 : Nat) : Int)) % 4294967296 = X := by obtain ⟨a1, a2⟩ := hX; omega
    rw [this]
    simp
  unfold comeS comeE
  rw [if_neg (by simp [fack, fgot]), if_neg (by simp), if_neg (by simp [fack, fgot]), if_neg (by simp [fack, fgot]), if_neg (by simp [fack, fgot]), if_neg (by simp)]
  dsimp only
  rw [ha]
  unfold takeE
  rw [if_pos (by simp [spanF])]
theorem out_done {X : Int} (hX : U32 X) (Y : Int) : outE (done X Y) = (done X Y, []) := by
  have hat : outAt (done X Y) = 1 := plus1_at hX
  unfold outE
  rw [if_neg (by simp [done]), if_pos (by rfl), outLoop, if_pos (noN hat (by omega) rfl)]
  have h3 : outFin (done X Y, []) = (done X Y, []) := by unfold outFin; rw [if_neg (by rintro ⟨_, h⟩; dsimp only at h; rw [hat] at h; simp [done] at h)]
  rw [h3]
  unfold outDue
  rw [if_neg (by simp [done])]
theorem part_1 {X Y : Int} (hX : U32 X) (hY : U32 Y) (p0 p1 g0 g1 : List UInt8) : roundT ⟨opnS X Y, opnS Y X, [], [], p0, p1, g0, g1⟩ = ⟨fgot X Y 1, fgot Y X 1, [], [], p0, p1, g0, g1⟩ := by
  simp only [roundT, sayT, out_opnS hX, out_opnS hY, comeT, List.nil_append, List.take_nil, List.take_succ_cons, comeL, List.foldl_nil, List.foldl_cons, come_fsent hX, come_fsent hY, readT]
  rw [(rd_fin (x := fgot X Y 0) rfl rfl rfl).1, (rd_fin (x := fgot X Y 0) rfl rfl rfl).2, (rd_fin (x := fgot Y X 0) rfl rfl rfl).1, (rd_fin (x := fgot Y X 0) rfl rfl rfl).2]
  simp only [tickT, tick_fgot hX, tick_fgot hY, List.append_nil]
theorem part_2 {X Y : Int} (hX : U32 X) (hY : U32 Y) (p0 p1 g0 g1 : List UInt8) : roundT ⟨fgot X Y 1, fgot Y X 1, [], [], p0, p1, g0, g1⟩ = ⟨done X Y, done Y X, [], [], p0, p1, g0, g1⟩ := by
  simp only [roundT, sayT, out_fgot hX, out_fgot hY, comeT, List.nil_append, List.take_nil, List.take_succ_cons, comeL, List.foldl_nil, List.foldl_cons, come_fack hX, come_fack hY, readT]
  rw [(rd_fin (x := done X Y) rfl rfl rfl).1, (rd_fin (x := done X Y) rfl rfl rfl).2, (rd_fin (x := done Y X) rfl rfl rfl).1, (rd_fin (x := done Y X) rfl rfl rfl).2]
  simp only [tickT, tick_eq (x := done X Y) rfl, tick_eq (x := done Y X) rfl, List.append_nil]
theorem done_idle {X Y : Int} (hX : U32 X) (hY : U32 Y) (p0 p1 g0 g1 : List UInt8) (k : Nat) : roundsT k ⟨done X Y, done Y X, [], [], p0, p1, g0, g1⟩ = ⟨done X Y, done Y X, [], [], p0, p1, g0, g1⟩ := by
  induction k with
  | zero => rfl
  | succ k ih =>
    rw [roundsT, ih]
    simp only [roundT, sayT, out_done hX, out_done hY, comeT, List.nil_append, List.take_nil, comeL, List.foldl_nil, readT]
    rw [(rd_fin (x := done X Y) rfl rfl rfl).1, (rd_fin (x := done X Y) rfl rfl rfl).2, (rd_fin (x := done Y X) rfl rfl rfl).1, (rd_fin (x := done Y X) rfl rfl rfl).2]
    simp only [tickT, tick_eq (x := done X Y) rfl, tick_eq (x := done Y X) rfl, List.append_nil]
theorem parted {X Y : Int} (hX : U32 X) (hY : U32 Y) (p0 p1 g0 g1 : List UInt8) : roundsT 8 ⟨opnS X Y, opnS Y X, [], [], p0, p1, g0, g1⟩ = ⟨done X Y, done Y X, [], [], p0, p1, g0, g1⟩ := by
  rw [show 8 = 6 + 2 from rfl, roundsT_add]
  have h2 : roundsT 2 ⟨opnS X Y, opnS Y X, [], [], p0, p1, g0, g1⟩ = ⟨done X Y, done Y X, [], [], p0, p1, g0, g1⟩ := by
    simp only [roundsT, part_1 hX hY, part_2 hX hY]
  rw [h2, done_idle hX hY]
theorem done_ended {X : Int} (Y : Int) : endedE (done X Y) = true := by simp [endedE, done, plus]
end Go.Proofs.Ytkfpmljlgpobjaa
