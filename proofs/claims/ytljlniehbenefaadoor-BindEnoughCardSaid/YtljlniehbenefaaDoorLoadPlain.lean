/- Pages of an image as plain data. -/
import Derived.Test.YtljlniehbenefaaDoorFlat
import Derived.Test.YtljlniehbenefaaDoorIntsV
namespace Go.Proofs.YtljlniehbenefaaDoor
open Go.RowKit

/-- A page of an image. -/
structure PgD where
  page : Int
  rights : Int
  D : Option Addr
  m : Nat
  c : Nat
  ds : List UInt8
def pgC (p : PgD) : List Value := [.int .i64 p.page, .int .i64 p.rights, .slice p.D p.m p.c]
theorem pgC_len (p : PgD) : (pgC p).length = 3 := rfl
def pgsV (l : List PgD) : List Value := l.flatMap pgC
theorem pgsV_append (a b : List PgD) : pgsV (a ++ b) = pgsV a ++ pgsV b := by simp [pgsV]
theorem pgsV_one (l : List PgD) : ∀ u ∈ pgsV l, u.oneCell' = true := by
  intro u hu
  obtain ⟨r, _, h⟩ := List.mem_flatMap.1 hu
  simp only [pgC, List.mem_cons, List.not_mem_nil, or_false] at h
  rcases h with h | h | h <;> subst h <;> rfl
theorem pg_cells {w : World} {B n b off : Nat} {l : List PgD} (h : Reads w B 3 (some ⟨b, off, none⟩) n (pgsV l)) (i : Nat) (hi : i < l.length) (hn : 0 < n) :
    w.cell? ⟨b, off + i * 3, none⟩ = some (.int .i64 l[i].page) ∧ w.cell? ⟨b, off + i * 3 + 1, none⟩ = some (.int .i64 l[i].rights) ∧ w.cell? ⟨b, off + i * 3 + 2, none⟩ = some (.slice l[i].D l[i].m l[i].c) :=
  ⟨Reads.elem pgC_len h i hi hn 0 (by omega) rfl, Reads.elem pgC_len h i hi hn 1 (by omega) rfl, Reads.elem pgC_len h i hi hn 2 (by omega) rfl⟩
/-- A page that may be; its bytes were there in w. -/
structure PgD.Ok (w : World) (p : PgD) : Prop where
  p0 : 0 ≤ p.page
  p1 : p.page < 64
  r0 : 1 ≤ p.rights
  r1 : p.rights ≤ 5
  m16 : p.m ≤ 16
  mc : p.m ≤ p.c
  cm : p.c ≤ maxLen
  reads : Reads w w.heap.size 1 p.D p.m (bytesV p.ds)
  len : p.ds.length = p.m
def Rising (l : List PgD) : Prop := l.Pairwise fun a b => a.page < b.page
/-- An image that may be. -/
structure ImOk (w : World) (ps : List PgD) (en : Int) : Prop where
  pos : 0 < ps.length
  few : ps.length ≤ 14
  ok : ∀ p ∈ ps, p.Ok w
  rising : Rising ps
  exec : ∀ h : 0 < ps.length, ps[0].rights = 5
  entry : ∃ e : Nat, e < 4 ∧ ∀ h : 0 < ps.length, en = ps[0].page * 16 + 4 * e
theorem PgD.Ok.keep {w w' : World} {p : PgD} (h : p.Ok w) (hx : Ext w w') : p.Ok w' := ⟨h.p0, h.p1, h.r0, h.r1, h.m16, h.mc, h.cm, (hx.reads h.reads (Nat.le_refl _)).more hx.size, h.len⟩
/-- Raw bytes of pages, as they lie. -/
def RowsAt (w : World) (A : Option Addr) (n : Nat) : Prop := 0 < n → ∃ b off, A = some ⟨b, off, none⟩ ∧ ∀ i, i < n → ∃ D m c ds, w.cell? ⟨b, off + i, none⟩ = some (.slice D m c) ∧ m ≤ c ∧ c ≤ maxLen ∧ Reads w w.heap.size 1 D m (bytesV ds)
theorem RowsAt.keep {w w' : World} {A : Option Addr} {n : Nat} (h : RowsAt w A n) (hx : Ext w w') : RowsAt w' A n := fun hn => by
  obtain ⟨b, off, e, hi⟩ := h hn
  refine ⟨b, off, e, fun i hil => ?_⟩
  obtain ⟨D, m, c, ds, h1, h2, h3, h4⟩ := hi i hil
  exact ⟨D, m, c, ds, hx.cell h1, h2, h3, (hx.reads h4 (Nat.le_refl _)).more hx.size⟩
end Go.Proofs.YtljlniehbenefaaDoor
