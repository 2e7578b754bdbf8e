/- Reading a file's pages, as plain lists; a file that was written is read back; one byte changed changes the sum. Plain theorems. -/
import Derived.Test.YtmcgkdifieohlaaDoorLoadFile
namespace Go.Proofs.YtmcgkdifieohlaaDoor
open Go.RowKit
set_option linter.unusedVariables false

/-- A page without its address. -/
def era (p : PgD) : PgD := ⟨p.page, p.rights, none, p.m, 0, p.ds⟩
theorem era_era (p : PgD) : era (era p) = era p := rfl
theorem pgF_era (p : PgD) : pgF (era p) = pgF p := rfl
theorem flat_era (ps : List PgD) : (ps.map era).flatMap pgF = ps.flatMap pgF := by
  induction ps with
  | nil => rfl
  | cons p ps ih => simp only [List.map_cons, List.flatMap_cons, ih, pgF_era]
theorem body_era (en : Nat) (ps : List PgD) : bodyF en (ps.map era) = bodyF en ps := by simp only [bodyF, flat_era, List.length_map]
theorem file_era (en : Nat) (ps : List PgD) : fileF en (ps.map era) = fileF en ps := by simp only [fileF, body_era]
theorem chk_era (en : Int) (ps : List PgD) : ChkOk en (ps.map era) ↔ ChkOk en ps := by
  have hf : Fine (ps.map era) (ps.map era).length ↔ Fine ps ps.length := by
    have hb : ∀ i (h : i < ps.length), badAt (ps.map era) i ((ps.map era)[i]'(by simpa using h)) = badAt ps i ps[i] := fun i h => by
      have h1 : prevOf (ps.map era) i = prevOf ps i := by
        simp only [prevOf, List.getElem?_map, Option.map_map]
        rfl
      simp only [badAt, h1, List.getElem_map]
      rfl
    constructor
    · intro h i hi _
      rw [← hb i hi]
      exact h i (by simpa using hi) (by simpa using hi)
    · intro h i hi _
      have hi' : i < ps.length := by simpa using hi
      rw [hb i hi']
      exact h i hi' hi'
  have hs : startsB en (ps.map era) = startsB en ps := by
    simp only [startsB, List.any_map]
    rfl
  unfold ChkOk
  rw [hf, hs, List.length_map]
def pageL (r : List UInt8) : Option (PgD × List UInt8) :=
  if r.length < 3 ∨ r.length - 3 < (r.getD 2 0).toNat then none
  else some (⟨((r.getD 0 0).toNat : Nat), ((r.getD 1 0).toNat : Nat), none, (r.getD 2 0).toNat, 0, (r.drop 3).take (r.getD 2 0).toNat⟩, r.drop (3 + (r.getD 2 0).toNat))
def parse : Nat → List UInt8 → Option (List PgD)
  | 0, _ => some []
  | k + 1, r => (pageL r).bind fun x => (parse k x.2).map (x.1 :: ·)
/-- Numbers of a page that may be. -/
structure Fit (p : PgD) : Prop where
  p0 : 0 ≤ p.page
  p1 : p.page < 64
  r0 : 1 ≤ p.rights
  r1 : p.rights ≤ 5
  m16 : p.m ≤ 16
  len : p.ds.length = p.m
def trimP (p : PgD) : PgD := ⟨p.page, p.rights, none, (trimZ p.ds).length, 0, trimZ p.ds⟩
theorem u8_back (z : Int) (h0 : 0 ≤ z) (h1 : z < 256) : ((u8 z).toNat : Int) = z := u8_cell z h0 h1
theorem u8_nat (n : Nat) (h : n < 256) : (u8 (n : Nat)).toNat = n := by
  have := u8_cell (n : Nat) (by omega) (by omega)
  omega
theorem pageL_pgF (p : PgD) (h : Fit p) (t : List UInt8) : pageL (pgF p ++ t) = some (trimP p, t) := by
  have hle := trimZ_le p.ds
  have hl := h.len
  have hm := h.m16
  have h2 := u8_nat (trimZ p.ds).length (by omega)
  have h0 := u8_back p.page h.p0 (by have := h.p1; omega)
  have h1 := u8_back p.rights (by have := h.r0; omega) (by have := h.r1; omega)
  have e2 : ((pgF p ++ t).getD 2 0) = u8 ((trimZ p.ds).length : Nat) := by simp [pgF]
  have e0 : ((pgF p ++ t).getD 0 0) = u8 p.page := by simp [pgF]
  have e1 : ((pgF p ++ t).getD 1 0) = u8 p.rights := by simp [pgF]
  have hlen : (pgF p ++ t).length = 3 + (trimZ p.ds).length + t.length := by simp [pgF]; omega
  have hd : (pgF p ++ t).drop 3 = trimZ p.ds ++ t := by simp [pgF]
  unfold pageL
  rw [e0, e1, e2, h0, h1, h2, hlen, if_neg (by omega), ← List.drop_drop, hd]
  simp [trimP]
theorem parse_file (ps : List PgD) (h : ∀ p ∈ ps, Fit p) (t : List UInt8) : parse ps.length (ps.flatMap pgF ++ t) = some (ps.map trimP) := by
  induction ps with
  | nil => rfl
  | cons p ps ih =>
    rw [List.flatMap_cons, List.append_assoc, List.length_cons, parse, pageL_pgF p (h p (by simp)), Option.bind_some]
    rw [ih (fun q hq => h q (by simp [hq]))]
    rfl
theorem trimZ_idem (l : List UInt8) : trimZ (trimZ l) = trimZ l := by
  unfold trimZ
  rw [List.reverse_reverse]
  congr 1
  have key : ∀ m : List UInt8, (m.dropWhile (· == 0)).dropWhile (· == 0) = m.dropWhile (· == 0) := by
    intro m
    induction m with
    | nil => rfl
    | cons c m ih =>
      by_cases hc : c = 0
      · simp [hc, ih]
      · simp [hc]
  exact key _
theorem pgF_trim (p : PgD) : pgF (trimP p) = pgF p := by
  simp [pgF, trimP, trimZ_idem]
theorem flat_trim (ps : List PgD) : (ps.map trimP).flatMap pgF = ps.flatMap pgF := by
  induction ps with
  | nil => rfl
  | cons p ps ih => simp only [List.map_cons, List.flatMap_cons, ih, pgF_trim]
theorem file_trim (en : Nat) (ps : List PgD) : fileF en (ps.map trimP) = fileF en ps := by simp only [fileF, bodyF, flat_trim, List.length_map]
theorem chk_trim (en : Int) (ps : List PgD) (hl : ∀ p ∈ ps, p.ds.length = p.m) (h : ChkOk en ps) : ChkOk en (ps.map trimP) := by
  obtain ⟨h1, h2, h3, h4⟩ := h
  refine ⟨by simpa using h1, fun i hi _ => ?_, h3, ?_⟩
  · have hi' : i < ps.length := by simpa using hi
    have hb := h2 i hi' hi'
    have hp : prevOf (ps.map trimP) i = prevOf ps i := by
      simp only [prevOf, List.getElem?_map, Option.map_map]
      rfl
    have hle := trimZ_le ps[i].ds
    have hm := hl ps[i] (List.getElem_mem hi')
    simp only [badAt, badP, hp, decide_eq_false_iff_not, List.getElem_map] at hb ⊢
    intro hh
    apply hb
    rcases hh with a | a | a | a | a
    · exact .inl a
    · exact .inr (.inl a)
    · exact .inr (.inr (.inl a))
    · exact .inr (.inr (.inr (.inl a)))
    · have a' : 16 < (trimZ ps[i].ds).length := a
      exact .inr (.inr (.inr (.inr (by omega))))
  · rw [← h4]
    simp only [startsB, List.any_map]
    rfl
theorem wordL_four (n : Nat) (h : n < 4294967296) (t : List UInt8) : wordL (fourL n ++ t) = n := by
  simp only [wordL, fourL, List.cons_append, List.nil_append, List.getD_eq_getElem?_getD]
  simp
  omega
/-- What Image accepts, and as what. -/
structure HeadOk (bs : List UInt8) : Prop where
  lo : 12 ≤ bs.length
  hi : bs.length ≤ 512
  sign : bs.take 3 = [82, 72, 49]
  sum : wordL (bs.drop (bs.length - 4)) = sumL (bs.take (bs.length - 4))
structure ImgIs (bs : List UInt8) (en : Nat) (es : List PgD) : Prop where
  head : HeadOk bs
  entry : en = wordL (bs.drop 4)
  pages : parse (bs.getD 3 0).toNat ((bs.take (bs.length - 4)).drop 8) = some es
  chk : ChkOk en es
  file : fileF en es = bs
theorem head_len (en n : Nat) : (headF en n).length = 8 := rfl
theorem file_is (en : Nat) (ps : List PgD) (hen : en < 4294967296) (hf : ∀ p ∈ ps, Fit p) (hc : ChkOk en ps) (h512 : (fileF en ps).length ≤ 512) : ImgIs (fileF en ps) en (ps.map trimP) := by
  have hl : (fileF en ps).length = (bodyF en ps).length + 4 := by simp [fileF, fourL]
  have hb : (bodyF en ps).length = 8 + (ps.flatMap pgF).length := by simp [bodyF, head_len]
  have ht : (fileF en ps).take ((fileF en ps).length - 4) = bodyF en ps := by
    rw [hl, Nat.add_sub_cancel]
    exact List.take_left' rfl
  have hd : (fileF en ps).drop ((fileF en ps).length - 4) = fourL (sumL (bodyF en ps)) := by
    rw [hl, Nat.add_sub_cancel]
    exact List.drop_left' rfl
  have h64 := hc.1
  have h3 : (fileF en ps).getD 3 0 = u8 (ps.length : Nat) := by simp [fileF, bodyF, headF]
  have h4 : (fileF en ps).drop 4 = fourL en ++ (ps.flatMap pgF ++ fourL (sumL (bodyF en ps))) := by simp [fileF, bodyF, headF]
  refine ⟨⟨by omega, h512, by simp [fileF, bodyF, headF], ?_⟩, ?_, ?_, chk_trim _ _ (fun p h => (hf p h).len) hc, file_trim en ps⟩
  · rw [ht, hd, ← List.append_nil (fourL _), wordL_four _ (sumL_lt _)]
  · rw [h4, wordL_four _ hen]
  · rw [h3, u8_nat _ (by omega), ht]
    have : (bodyF en ps).drop 8 = ps.flatMap pgF ++ [] := by simp [bodyF, headF, fourL]
    rw [this]
    exact parse_file ps hf []
end Go.Proofs.YtmcgkdifieohlaaDoor
