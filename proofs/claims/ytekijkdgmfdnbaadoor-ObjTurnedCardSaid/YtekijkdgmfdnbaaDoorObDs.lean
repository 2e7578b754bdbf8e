/- Memory while Decode reads: the reader, the variable that holds it, the part's box. Plain theorems. -/
import Derived.Test.YtekijkdgmfdnbaaDoorObDecP
import Derived.Test.YtekijkdgmfdnbaaDoorObSt
namespace Go.Proofs.YtekijkdgmfdnbaaDoor
open Go.RowKit
set_option linter.unusedVariables false

abbrev rvT : TypeId := 59
structure DecSt (w0 : World) (g2 gr gv go : Nat) (s : Option Bs) (o : ObD) (v : ObV) (w : World) : Prop where
  res : Blk w g2 obT #[.slice none 0 0, .slice none 0 0, .slice none 0 0, .slice none 0 0]
  rv : Blk w gv rvT #[.pointer (some ⟨gr, 0, none⟩)]
  rd : RdS w0 gr s w
  box : Blk w go obT v.cells
  code : w.ownsRow w0.heap.size 47 1 (.slice v.A1 v.n1 v.c1) v.n1 (codeV o.code)
  data : w.ownsRow w0.heap.size 5 1 (.slice v.A2 v.n2 v.c2) v.n2 (bytesV o.data)
  names : w.ownsRow w0.heap.size nmT 4 (.slice v.A3 v.n3 v.c3) v.n3 (o.names.flatMap nmC)
  needs : w.ownsRow w0.heap.size neT 3 (.slice v.A4 v.n4 v.c4) v.n4 (o.needs.flatMap neC)
  ext : Ext w0 w
  l2 : w0.heap.size ≤ g2
  lr : w0.heap.size ≤ gr
  lv : w0.heap.size ≤ gv
  lo : w0.heap.size ≤ go
  ne : g2 ≠ go
theorem RdS.blk {w0 w : World} {gr : Nat} {s : Option Bs} (h : RdS w0 gr s w) : ∃ cs, Blk w gr rdT cs := by
  obtain ⟨A, n, c, r, h1, -⟩ := h
  exact ⟨_, h1⟩
section
variable {w0 w w' : World} {g2 gr gv go : Nat} {s s' : Option Bs} {o : ObD} {v : ObV}
theorem DecSt.to (h : DecSt w0 g2 gr gv go s o v w) (hx : Ext w w') : DecSt w0 g2 gr gv go s o v w' :=
  ⟨h.res.ext hx, h.rv.ext hx, h.rd.to hx h.ext.size, h.box.ext hx, hx.own h.code, hx.own h.data, hx.own h.names, hx.own h.needs, h.ext.trans hx, h.l2, h.lr, h.lv, h.lo, h.ne⟩
theorem DecSt.own (h : DecSt w0 g2 gr gv go s o v w) : ObOwn w w0.heap.size o v := ⟨h.code, h.data, h.names, h.needs⟩
/-- The reader has moved on. -/
theorem DecSt.read (h : DecSt w0 g2 gr gv go s o v w) (hg : w.grownBy w' (some gr)) (hr : RdS w0 gr s' w') : DecSt w0 g2 gr gv go s' o v w' := by
  obtain ⟨cs, hb⟩ := h.rd.blk
  have hl := h.lr
  exact ⟨h.res.grown hg (fun e => Blk.ne_ h.res hb (by decide) (by injection e)), h.rv.grown hg (fun e => Blk.ne_ h.rv hb (by decide) (by injection e)), hr, h.box.grown hg (fun e => Blk.ne_ h.box hb (by decide) (by injection e)),
    own_keptB h.code hg (fun j hj e => by rw [← hj] at e; exact own_blk_ne h.code hb (by decide) e.symm), own_keptB h.data hg (fun j hj e => by rw [← hj] at e; exact own_blk_ne h.data hb (by decide) e.symm),
    own_keptB h.names hg (fun j hj e => by rw [← hj] at e; exact own_blk_ne h.names hb (by decide) e.symm), own_keptB h.needs hg (fun j hj e => by rw [← hj] at e; exact own_blk_ne h.needs hb (by decide) e.symm),
    h.ext.grown hg (fun k hk => by injection hk with hk; omega), h.l2, h.lr, h.lv, h.lo, h.ne⟩
/-- A store into the part's box. -/
theorem RdS.far (h : RdS w0 gr s w) {p : Addr} (hp : gr ≠ p.block) (hlo : w0.heap.size ≤ p.block) (u : Value) : RdS w0 gr s (w.setCell p u) := by
  obtain ⟨A, n, c, r, h1, h2, h3⟩ := h
  exact ⟨A, n, c, r, h1.far hp u, h2.setCell hlo u, h3⟩
/-- A row of code has grown, and the box is told. -/
theorem DecSt.code_ (h : DecSt w0 g2 gr gv go s o v w) {x : Nat} {A7 : Option Addr} {c7 : Nat} (ho : w'.ownsRow w0.heap.size 47 1 (.slice A7 (v.n1 + 1) c7) (v.n1 + 1) (codeV o.code ++ [.int .u32 (x : Int)])) (hg : w.grownBy w' (Value.ownBlock (.slice v.A1 v.n1 v.c1))) :
    DecSt w0 g2 gr gv go s { o with code := o.code ++ [x] } { v with A1 := A7, n1 := v.n1 + 1, c1 := c7 } (w'.setCell ⟨go, 0, none⟩ (.slice A7 (v.n1 + 1) c7)) := by
  obtain ⟨rcs, hrb⟩ := h.rd.blk
  have h2 := h.l2
  have hlo := h.lo
  have hne := h.ne
  have b1 := h.res.grown hg (own_blk_ne h.code h.res (by decide)).symm
  have b2 := h.rv.grown hg (own_blk_ne h.code h.rv (by decide)).symm
  have b3 := h.box.grown hg (own_blk_ne h.code h.box (by decide)).symm
  have b4 := hrb.grown hg (own_blk_ne h.code hrb (by decide)).symm
  have hrd := h.rd.kept hg h.ext.size (own_blk_ne h.code hrb (by decide)).symm (fun k hk => (h.code.lt k hk).1)
  have o_data := own_keptB h.data hg (fun j hj => own_own_ne h.data h.code (by decide) j hj)
  have o_names := own_keptB h.names hg (fun j hj => own_own_ne h.names h.code (by decide) j hj)
  have o_needs := own_keptB h.needs hg (fun j hj => own_own_ne h.needs h.code (by decide) j hj)
  refine ⟨b1.far (p := ⟨go, 0, none⟩) hne _, b2.far (p := ⟨go, 0, none⟩) (Blk.ne_ b2 b3 (by decide)) _, hrd.far (p := ⟨go, 0, none⟩) (Blk.ne_ b4 b3 (by decide)) hlo _, b3.set_ 0 _,
    ?_, own_far o_data (own_blk_ne o_data b3 (by decide)) _, own_far o_names (own_blk_ne o_names b3 (by decide)) _, own_far o_needs (own_blk_ne o_needs b3 (by decide)) _, (h.ext.grown hg (fun k hk => (h.code.lt k hk).1)).setCell (p := ⟨go, 0, none⟩) hlo _, h.l2, h.lr, h.lv, h.lo, h.ne⟩
  show (w'.setCell ⟨go, 0, none⟩ (.slice A7 (v.n1 + 1) c7)).ownsRow w0.heap.size 47 1 (.slice A7 (v.n1 + 1) c7) (v.n1 + 1) (codeV (o.code ++ [x]))
  rw [show codeV (o.code ++ [x]) = codeV o.code ++ [.int .u32 (x : Int)] by simp [codeV]]
  exact own_far ho (own_blk_ne ho b3 (by decide)) _
/-- A row of names has grown, and the box is told. -/
theorem DecSt.names_ (h : DecSt w0 g2 gr gv go s o v w) {x : NmD} {A7 : Option Addr} {c7 : Nat} (ho : w'.ownsRow w0.heap.size nmT 4 (.slice A7 (v.n3 + 1) c7) (v.n3 + 1) (o.names.flatMap nmC ++ nmC x)) (hg : w.grownBy w' (Value.ownBlock (.slice v.A3 v.n3 v.c3))) :
    DecSt w0 g2 gr gv go s { o with names := o.names ++ [x] } { v with A3 := A7, n3 := v.n3 + 1, c3 := c7 } (w'.setCell ⟨go, 2, none⟩ (.slice A7 (v.n3 + 1) c7)) := by
  obtain ⟨rcs, hrb⟩ := h.rd.blk
  have h2 := h.l2
  have hlo := h.lo
  have hne := h.ne
  have b1 := h.res.grown hg (own_blk_ne h.names h.res (by decide)).symm
  have b2 := h.rv.grown hg (own_blk_ne h.names h.rv (by decide)).symm
  have b3 := h.box.grown hg (own_blk_ne h.names h.box (by decide)).symm
  have b4 := hrb.grown hg (own_blk_ne h.names hrb (by decide)).symm
  have hrd := h.rd.kept hg h.ext.size (own_blk_ne h.names hrb (by decide)).symm (fun k hk => (h.names.lt k hk).1)
  have o_code := own_keptB h.code hg (fun j hj => own_own_ne h.code h.names (by decide) j hj)
  have o_data := own_keptB h.data hg (fun j hj => own_own_ne h.data h.names (by decide) j hj)
  have o_needs := own_keptB h.needs hg (fun j hj => own_own_ne h.needs h.names (by decide) j hj)
  refine ⟨b1.far (p := ⟨go, 2, none⟩) hne _, b2.far (p := ⟨go, 2, none⟩) (Blk.ne_ b2 b3 (by decide)) _, hrd.far (p := ⟨go, 2, none⟩) (Blk.ne_ b4 b3 (by decide)) hlo _, b3.set_ 2 _,
    own_far o_code (own_blk_ne o_code b3 (by decide)) _, own_far o_data (own_blk_ne o_data b3 (by decide)) _, ?_, own_far o_needs (own_blk_ne o_needs b3 (by decide)) _, (h.ext.grown hg (fun k hk => (h.names.lt k hk).1)).setCell (p := ⟨go, 2, none⟩) hlo _, h.l2, h.lr, h.lv, h.lo, h.ne⟩
  show (w'.setCell ⟨go, 2, none⟩ (.slice A7 (v.n3 + 1) c7)).ownsRow w0.heap.size nmT 4 (.slice A7 (v.n3 + 1) c7) (v.n3 + 1) ((o.names ++ [x]).flatMap nmC)
  rw [List.flatMap_append, List.flatMap_cons, List.flatMap_nil, List.append_nil]
  exact own_far ho (own_blk_ne ho b3 (by decide)) _
/-- A row of needs has grown, and the box is told. -/
theorem DecSt.needs_ (h : DecSt w0 g2 gr gv go s o v w) {x : NeD} {A7 : Option Addr} {c7 : Nat} (ho : w'.ownsRow w0.heap.size neT 3 (.slice A7 (v.n4 + 1) c7) (v.n4 + 1) (o.needs.flatMap neC ++ neC x)) (hg : w.grownBy w' (Value.ownBlock (.slice v.A4 v.n4 v.c4))) :
    DecSt w0 g2 gr gv go s { o with needs := o.needs ++ [x] } { v with A4 := A7, n4 := v.n4 + 1, c4 := c7 } (w'.setCell ⟨go, 3, none⟩ (.slice A7 (v.n4 + 1) c7)) := by
  obtain ⟨rcs, hrb⟩ := h.rd.blk
  have h2 := h.l2
  have hlo := h.lo
  have hne := h.ne
  have b1 := h.res.grown hg (own_blk_ne h.needs h.res (by decide)).symm
  have b2 := h.rv.grown hg (own_blk_ne h.needs h.rv (by decide)).symm
  have b3 := h.box.grown hg (own_blk_ne h.needs h.box (by decide)).symm
  have b4 := hrb.grown hg (own_blk_ne h.needs hrb (by decide)).symm
  have hrd := h.rd.kept hg h.ext.size (own_blk_ne h.needs hrb (by decide)).symm (fun k hk => (h.needs.lt k hk).1)
  have o_code := own_keptB h.code hg (fun j hj => own_own_ne h.code h.needs (by decide) j hj)
  have o_data := own_keptB h.data hg (fun j hj => own_own_ne h.data h.needs (by decide) j hj)
  have o_names := own_keptB h.names hg (fun j hj => own_own_ne h.names h.needs (by decide) j hj)
  refine ⟨b1.far (p := ⟨go, 3, none⟩) hne _, b2.far (p := ⟨go, 3, none⟩) (Blk.ne_ b2 b3 (by decide)) _, hrd.far (p := ⟨go, 3, none⟩) (Blk.ne_ b4 b3 (by decide)) hlo _, b3.set_ 3 _,
    own_far o_code (own_blk_ne o_code b3 (by decide)) _, own_far o_data (own_blk_ne o_data b3 (by decide)) _, own_far o_names (own_blk_ne o_names b3 (by decide)) _, ?_, (h.ext.grown hg (fun k hk => (h.needs.lt k hk).1)).setCell (p := ⟨go, 3, none⟩) hlo _, h.l2, h.lr, h.lv, h.lo, h.ne⟩
  show (w'.setCell ⟨go, 3, none⟩ (.slice A7 (v.n4 + 1) c7)).ownsRow w0.heap.size neT 3 (.slice A7 (v.n4 + 1) c7) (v.n4 + 1) ((o.needs ++ [x]).flatMap neC)
  rw [List.flatMap_append, List.flatMap_cons, List.flatMap_nil, List.append_nil]
  exact own_far ho (own_blk_ne ho b3 (by decide)) _
/-- The data have come, and the box is told. -/
theorem DecSt.data_ (h : DecSt w0 g2 gr gv go s o v w) {d : Bs} {A7 : Option Addr} {n7 c7 : Nat} (ho : w'.ownsRow w0.heap.size 5 1 (.slice A7 n7 c7) n7 (bytesV d)) (hx : Ext w w') :
    DecSt w0 g2 gr gv go s { o with data := d } { v with A2 := A7, n2 := n7, c2 := c7 } (w'.setCell ⟨go, 1, none⟩ (.slice A7 n7 c7)) := by
  have h' := h.to hx
  obtain ⟨rcs, hrb⟩ := h'.rd.blk
  have hlo := h.lo
  have hne := h.ne
  refine ⟨h'.res.far (p := ⟨go, 1, none⟩) hne _, h'.rv.far (p := ⟨go, 1, none⟩) (Blk.ne_ h'.rv h'.box (by decide)) _, h'.rd.far (p := ⟨go, 1, none⟩) (Blk.ne_ hrb h'.box (by decide)) hlo _, h'.box.set_ 1 _,
    own_far h'.code (own_blk_ne h'.code h'.box (by decide)) _, own_far ho (own_blk_ne ho h'.box (by decide)) _, own_far h'.names (own_blk_ne h'.names h'.box (by decide)) _, own_far h'.needs (own_blk_ne h'.needs h'.box (by decide)) _, h'.ext.setCell (p := ⟨go, 1, none⟩) hlo _, h.l2, h.lr, h.lv, h.lo, h.ne⟩
end
end Go.Proofs.YtekijkdgmfdnbaaDoor
