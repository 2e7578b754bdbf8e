/- File and Image of an image that may be: for LoadBack. Plain and walked lemmas, as in LoadTurned's. -/
import Derived.Test.YtmcgkdifieohlaaDoorLoadImg
namespace Go.Proofs.YtmcgkdifieohlaaDoor
open Go.RowKit
set_option linter.unusedVariables false

theorem ImOk.fine {w : World} {ps : List PgD} {en : Int} (h : ImOk w ps en) : Fine ps ps.length := by
  intro i hi _
  have ok := h.ok ps[i] (List.getElem_mem hi)
  have hm : mayB ps[i].rights = true := by simp [mayB, ok.r0, ok.r1]
  simp only [badAt, badP, decide_eq_false_iff_not]
  have h0 := ok.p0
  have h1 := ok.p1
  have h2 := ok.m16
  rintro (a | a | ⟨a, b⟩ | a | a)
  · omega
  · omega
  · have hi1 : i - 1 < ps.length := by omega
    have hr := List.pairwise_iff_getElem.1 h.rising (i - 1) i hi1 hi (by omega)
    rw [prevOf, List.getElem?_eq_getElem hi1] at b
    simp at b
    omega
  · rw [hm] at a; cases a
  · omega
theorem ImOk.starts {w : World} {ps : List PgD} {en : Int} (h : ImOk w ps en) : en % 4 = 0 ∧ startsB en ps = true ∧ 0 ≤ en ∧ en < 4294967296 := by
  obtain ⟨e, he, hen⟩ := h.entry
  have hp := h.pos
  have h1 := hen hp
  have h2 := h.exec hp
  have ok := h.ok ps[0] (List.getElem_mem hp)
  have h3 := ok.p0
  have h4 := ok.p1
  refine ⟨by omega, ?_, by omega, by omega⟩
  rw [startsB, List.any_eq_true]
  exact ⟨ps[0], List.getElem_mem hp, by simp [startP, h2]; omega⟩
theorem ImOk.chk {w : World} {ps : List PgD} {en z : Int} (h : ImOk w ps en) (hz : Chk en ps z) : z = 0 := by
  rcases hz with ⟨h0, _⟩ | ⟨_, h1⟩
  · exact h0
  · exact absurd ⟨by have := h.few; omega, h.fine, h.starts.1, h.starts.2.1⟩ h1
theorem PgD.Ok.num {w : World} {p : PgD} (h : p.Ok w) : p.Num := by
  have h0 := h.p0; have h1 := h.p1; have h2 := h.r0; have h3 := h.r1; have h4 := h.m16
  constructor <;> omega

/-- The byte at a place of a page. -/
theorem flat_le (ps : List PgD) (h : ∀ p ∈ ps, p.ds.length ≤ 16) : (ps.flatMap pgF).length ≤ 19 * ps.length := by
  induction ps with
  | nil => simp
  | cons p ps ih =>
    have h1 := ih (fun q hq => h q (by simp [hq]))
    have h2 := h p (by simp)
    have h3 := trimZ_le p.ds
    simp [pgF] at h1 ⊢
    omega
theorem ImOk.fit {w : World} {ps : List PgD} {en : Int} (h : ImOk w ps en) : ∀ p ∈ ps, Fit p := fun p hp =>
  have o := h.ok p hp
  ⟨o.p0, o.p1, o.r0, o.r1, o.m16, o.len⟩
theorem ImOk.chkok {w : World} {ps : List PgD} {en : Int} (h : ImOk w ps en) : ChkOk en ps := ⟨by have := h.few; omega, h.fine, h.starts.1, h.starts.2.1⟩
theorem ImOk.small {w : World} {ps : List PgD} {en : Nat} (h : ImOk w ps en) : (fileF en ps).length ≤ 512 := by
  have h1 := flat_le ps (fun p hp => by have o := h.ok p hp; have := o.len; have := o.m16; omega)
  have h2 := h.few
  have h3 : (fileF en ps).length = 8 + (ps.flatMap pgF).length + 4 := by simp [fileF, bodyF, head_len, fourL]; omega
  omega
def FilePost2 (w : World) (en : Nat) (ps : List PgD) (e : Ending) (w' : World) : Prop :=
  ∃ A m c, e = .returned (.tuple #[.slice A m c, .int .i64 0]) ∧ w'.ownsRow w.heap.size 5 1 (.slice A m c) m (bytesV (fileF en ps)) ∧ Ext w w'
theorem imfile (w0 w : World) (ps : List PgD) (A : Option Addr) (n c B en : Nat) (him : ImOk w0 ps en) (hx : Ext w0 w) (hr : Reads w B 3 A n (pgsV ps)) (hB : B ≤ w.heap.size) (hn : n ≤ maxLen) :
    Calls Tryd.prog 5 #[.agg #[.int .u32 (en : Int), .slice A n c]] w (FilePost2 w en ps) := by
  refine (file_any ps A n c B en w hr hB (fun p hp => ?_) hn (by have := him.starts.2.2.2; omega)).mono ?_
  · have o := him.ok p hp
    exact ⟨o.num, o.mc, o.cm, (hx.reads o.reads (Nat.le_refl _)).more hx.size, o.len⟩
  · rintro e w' ⟨A', m, c', z, he, hx', h⟩
    rcases h with ⟨rfl, h1, h2, h3⟩ | ⟨_, _, _, _, h⟩
    · exact ⟨A', m, c', he, h3, hx'⟩
    · exact absurd ⟨him.chkok, him.small⟩ h
theorem ImOk.is {w : World} {ps : List PgD} {en : Nat} (h : ImOk w ps en) : ImgIs (fileF en ps) en (ps.map trimP) :=
  file_is en ps (by have := h.starts.2.2.2; omega) h.fit h.chkok h.small
theorem img_nil (w : World) : Calls Tryd.prog 6 #[.slice none 0 0] w fun e w' => e = .returned (.tuple #[.agg #[.int .u32 0, .slice none 0 0], .int .i64 3]) ∧ Ext w w' := by
  refine (img_any none 0 0 [] w Reads.none_ (Nat.le_refl _) (Nat.zero_le _)).mono ?_
  rintro e w' ⟨hx, h | h⟩
  · obtain ⟨en, ps, _, _, _, h, _⟩ := h
    have := h.head.lo
    simp at this
  · exact ⟨h.2, hx⟩
/-- File of an image that was read. -/
theorem readfile (w0 w : World) (bs : List UInt8) (ps : List PgD) (A : Option Addr) (n c en : Nat) (hi : ImgIs bs en (ps.map era)) (ho : w.ownsRow w0.heap.size 39 3 (.slice A n c) n (pgsV ps)) (hp : ∀ q ∈ ps, PgOwn w w0.heap.size q ∧ q.Num) (hen : en ≤ 4294967295) (hn : n ≤ maxLen) :
    Calls Tryd.prog 5 #[.agg #[.int .u32 (en : Int), .slice A n c]] w fun e w' => ∃ A m c, e = .returned (.tuple #[.slice A m c, .int .i64 0]) ∧ w'.ownsRow w.heap.size 5 1 (.slice A m c) m (bytesV bs) ∧ Ext w w' := by
  have hf : fileF en ps = bs := by rw [← file_era]; exact hi.file
  refine (file_any ps A n c w.heap.size en w (Reads.of_own ho) (Nat.le_refl _) (fun p h => ⟨(hp p h).2, (own_le (hp p h).1).1, (own_le (hp p h).1).2, Reads.of_own (hp p h).1, own_len (hp p h).1⟩) hn hen).mono ?_
  rintro e w' ⟨A', m, c', z, he, hx', h⟩
  rcases h with ⟨rfl, h1, h2, h3⟩ | ⟨_, _, _, _, h⟩
  · exact ⟨A', m, c', he, by rw [← hf]; exact h3, hx'⟩
  · exact absurd ⟨(chk_era _ _).1 hi.chk, by rw [hf]; exact hi.head.hi⟩ h
theorem own_max {w : World} {base n c : Nat} {A : Option Addr} {ps : List PgD} (h : w.ownsRow base 39 3 (.slice A n c) n (pgsV ps)) : n ≤ maxLen := Nat.le_trans (own_le h).1 (own_le h).2

end Go.Proofs.YtmcgkdifieohlaaDoor
