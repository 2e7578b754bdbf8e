/- The contract of tools.picked at grep. -/
import Derived.Test.YtjmonkacijncbaaGreatDoorTlPick
import Derived.Test.YtjmonkacijncbaaGreatDoorShelfB
import Derived.Deep.LoopGhost
namespace Go.Proofs.YtjmonkacijncbaaGreatDoor
open Go.RowKit
set_option linter.unusedVariables false

/-- What the closure of grep reads. -/
structure GrepAt (gb b off c : Nat) (g : Bs) (w : World) : Prop where
  box : w.cell? ⟨gb, 0, none⟩ = some (.slice (some ⟨b, off, none⟩) 1 c)
  arg : w.cell? ⟨b, off, none⟩ = some (.string (str g))
  max : ∃ m : Int, w.cell? ⟨0, 0, none⟩ = some (.int .i64 m)
theorem GrepAt.ext {gb b off c : Nat} {g : Bs} {w w' : World} (h : GrepAt gb b off c g w) (hx : Ext w w') : GrepAt gb b off c g w' := by
  obtain ⟨m, hm⟩ := h.max
  exact ⟨hx.cell h.box, hx.cell h.arg, ⟨m, hx.cell hm⟩⟩
abbrev BsS := { l : Bs // l.length ≤ 1000000 }
instance : Inhabited BsS := ⟨⟨[], Nat.zero_le _⟩⟩
abbrev encS (x : BsS) : Value := .string (str x.1)
def notIn (g : Bs) (x : BsS) : Bool := !Lib.contains x.1 g
set_option maxHeartbeats 2000000 in
set_option maxRecDepth 100000 in
theorem grep_closure (gb b off c : Nat) (g : Bs) (x : BsS) (w : World) (h : GrepAt gb b off c g w) :
    Calls Tryz.prog 81 #[.string (str x.1), .pointer (some ⟨gb, 0, none⟩)] w fun e w' => e = .returned (.bool (notIn g x)) ∧ ∃ q, w' = w.drewN q := by
  obtain ⟨m, hm⟩ := h.max
  have hcon := Tryz.strings_Contains (str x.1) (str g) m w (by rw [str_size]; have := x.2; omega) hm
  rw [str_list, str_list] at hcon
  have HC := hide hcon
  have q0 := h.box
  have q1 := h.arg
  have HN := hide (show notIn g x = !Lib.contains x.1 g from rfl)
  generalize notIn g x = z at *
  generalize Lib.contains x.1 g = y at *
  clear hcon h hm
  go_enter Tryz.func81, Tryz.ntmps81
  go_wp2_with fail
  refine HC.out.mono ?_
  rintro e w1 ⟨rfl, hw⟩
  have HW := hide hw
  clear hw q0 q1
  go_wp2_with fail
  go_ret
  exact ⟨by rw [HN.out]; rfl, 0, by rw [HW.out]; rfl⟩
set_option maxHeartbeats 2000000 in
set_option maxRecDepth 100000 in
theorem delfunc_none (A : Option Addr) (c : Nat) (fv : Value) (w : World) :
    Calls Tryz.prog 80 #[.slice A 0 c, fv] w fun e w' => e = .returned (.slice A 0 c) ∧ Ext w w' := by
  have HI : Calls Tryz.prog 107 #[.slice A 0 c, fv] w fun e w' => e = .returned (.int .i64 (-1)) ∧ w = w' := by
    go_enter Tryz.func107, Tryz.ntmps107
    go_wp2_with fail
    refine wp_loop_rounds 1 ?_
    rw [rounds_succ]
    go_wp2_with fail
    go_ret
    exact ⟨rfl, rfl⟩
  have HI2 := hide HI
  clear HI
  go_enter Tryz.func80, Tryz.ntmps80
  go_wp2_with fail
  refine HI2.out.mono ?_
  rintro e w1 ⟨rfl, rfl⟩
  go_wp2_with fail
  go_ret
  exact ⟨rfl, Ext.refl _⟩
theorem bss_of (L : List Bs) (h : ∀ s ∈ L, s.length ≤ 1000000) : ∃ Ls : List BsS, Ls.map (·.1) = L := by
  induction L with
  | nil => exact ⟨[], rfl⟩
  | cons a l ih =>
    obtain ⟨Ls, e⟩ := ih (fun s hs => h s (by simp [hs]))
    exact ⟨⟨a, h a (by simp)⟩ :: Ls, by simp [e]⟩
theorem grep_filter (g : Bs) (Ls : List BsS) : ((Ls.filter fun x => !notIn g x).map (·.1)) = (Ls.map (·.1)).filter fun s => Lib.contains s g := by
  rw [List.filter_map]
  congr 1
  refine List.filter_congr (fun x _ => ?_)
  simp [notIn]
theorem delete_grep (gb b off cc : Nat) (g : Bs) (A : Option Addr) (n c base : Nat) (zs : List Bs) (w0 w : World) (hG : GrepAt gb b off cc g w) (h : w.ownsRow base 9 1 (.slice A n c) n (strsV zs)) (hx : Ext w0 w) (hb : w0.heap.size ≤ base) (hn : n ≤ 1000000)
    (hz : ∀ s ∈ zs, s.length ≤ 1000000) (h1 : gb < base) (h2 : b < base) (h3 : 0 < base) :
    Calls Tryz.prog 80 #[.slice A n c, .func (.func 81) #[] #[.pointer (some ⟨gb, 0, none⟩)]] w fun e w' => ∃ m, e = .returned (.slice A m c) ∧ (zs.filter fun s => Lib.contains s g).length = m ∧ w'.ownsRow base 9 1 (.slice A m c) m (strsV (zs.filter fun s => Lib.contains s g)) ∧ Ext w0 w' := by
  have hl : zs.length = n := by have := h.1; rw [strsV_length] at this; omega
  rcases Nat.eq_zero_or_pos n with rfl | hp
  · have e : zs = [] := List.length_eq_zero_iff.1 hl
    subst e
    exact (delfunc_none A c _ w).mono fun e w' ⟨h1, h2⟩ => ⟨0, h1, rfl, h2.own h, hx.trans h2⟩
  · obtain ⟨blk, rfl, hg, hg2, hc, -⟩ := own_addr h hp
    obtain ⟨Ls, hLs⟩ := bss_of zs hz
    have hsv : strsV zs = Ls.map encS := by rw [← hLs]; unfold strsV; rw [List.map_map]; rfl
    rw [hsv] at h
    obtain ⟨g', cap, e0, -, -, -, -, hlen, hH⟩ := Lib.holds_of_ownsRow (enc := encS) (zs := Ls) h (by simp)
    injection e0 with e1 _ _
    injection e1 with e1
    injection e1 with e1
    subst e1
    have eg : ∀ args w, (callFunc 81 args).run Tryz.prog w = .ok (.enter 81 args) w := enters_of Tryz.func81 (by kernel_rfl) rfl
    have hcon := Tryz.slices_DeleteFunc_one encS (fun _ => rfl) (notIn g) 81 #[.pointer (some ⟨gb, 0, none⟩)] eg ⟨[], Nat.zero_le _⟩ (fun w => by kernel_rfl) blk 0 c Ls.toArray w
      (fun W x hbl => grep_closure gb b off cc g x W (hG.ext hbl))
      (fun q os dk x _ => grep_closure gb b off cc g x _ (by
        obtain ⟨m, hm⟩ := hG.max
        have key : ∀ (p : Addr) (v : Value), p.block < base → w.cell? p = some v → (Go.Proofs.sortWorld encS w blk 0 q dk os).cell? p = some v := fun p v hp hv => by
          have hb := Lib.below_putRow (enc := encS) (q := q) (d := dk) (Below.refl base w) hg
          have hlt := World.block_lt_of_cell? w p hv
          have hc1 := (hb.cell hp).trans hv
          refine Ext.cell (w := Go.Sort.putRow encS (Go.Sort.ahead w q) blk 0 dk) ?_ hc1
          exact Ext.of ⟨rfl, rfl, rfl, by simp [Go.Proofs.sortWorld, Go.Sort.grow], fun j hj => by simp only [Go.Proofs.sortWorld, Go.Sort.grow]; exact Array.getElem?_append_left hj⟩
        exact ⟨key _ _ h1 hG.box, key _ _ h2 hG.arg, ⟨m, key _ _ h3 hm⟩⟩))
      hH (by simp; omega) (by simp; omega)
    simp only [List.size_toArray] at hcon
    rw [hlen] at hcon
    refine hcon.mono ?_
    rintro e w' ⟨rfl, q, rfl⟩
    have hle : (Ls.filter fun x => !notIn g x).length ≤ n := by rw [← hlen]; exact List.length_filter_le _ _
    have ho := Lib.ownsRow_putRow (enc := encS) (q := q) (ys := (Ls.filter fun x => !notIn g x) ++ List.replicate (n - (Ls.filter fun x => !notIn g x).length) ⟨[], Nat.zero_le _⟩) h (by simp; omega) hle
    rw [List.take_left] at ho
    have hf := grep_filter g Ls
    rw [hLs] at hf
    have hsv2 : (Ls.filter fun x => !notIn g x).map encS = strsV (zs.filter fun s => Lib.contains s g) := by rw [← hf]; unfold strsV; rw [List.map_map]; rfl
    rw [hsv2] at ho
    refine ⟨_, rfl, ?_, ho, Ext.of (Lib.below_putRow (Ext.below hx) (Nat.le_trans hb hg))⟩
    rw [← hf, List.length_map]
set_option maxHeartbeats 4000000 in
set_option maxRecDepth 100000 in
theorem pick_grep (g : Bs) : PickAt [103, 114, 101, 112] [g] (fun L => L.filter fun s => Lib.contains s g) := by
  intro L w A n c B A' m c' B' hL hra hB hrl hB' hmc hm hls
  have hml : L.length = m := (args_len hrl).symm
  have HCL := hide (fun W (hx : Ext w W) => sclone_any A' m c' B' (strsV L) W (hx.reads hrl hB') (strsV_one L) (Nat.le_trans hB' hx.size) (by omega) (some_of hrl))
  obtain rfl := args_len hra
  obtain ⟨b, off, rfl, hb, hcell⟩ := arg_cell hra (by simp)
  have q0 := hcell 0 _ rfl
  obtain ⟨mx, hmx⟩ := hL.max
  have HG0 := hide (show GrepAt w.heap.size b off c g (w.alloc (.cells #[.slice (some ⟨b, off, none⟩) 1 c] 30)) from
    ⟨(Blk.new w 30 #[.slice (some ⟨b, off, none⟩) 1 c]).cell 0, ((Ext.refl w).alloc _).cell q0, ⟨mx, ((Ext.refl w).alloc _).cell hmx⟩⟩)
  have HX1 := hide ((Ext.refl w).alloc (.cells #[.slice (some ⟨b, off, none⟩) 1 c] 30))
  have HDEL := hide (fun (W : World) (A2 : Option Addr) (c2 : Nat) (hG : GrepAt w.heap.size b off c g W) (ho : W.ownsRow (w.alloc (.cells #[.slice (some ⟨b, off, none⟩) 1 c] 30)).heap.size 9 1 (.slice A2 m c2) m (strsV L)) (hx : Ext w W) =>
    delete_grep w.heap.size b off c g A2 m c2 _ L w W hG ho hx (by simp) (by omega) (fun s hs => Nat.le_trans (hls s hs) (by decide)) (by simp) (by simp; omega) (by simp))
  clear hL hrl hml hra hcell hmx q0 hls
  show Calls _ _ #[.string ⟨#[103, 114, 101, 112]⟩, .slice (some ⟨b, off, none⟩) 1 c, .slice A' m c'] w _
  go_enter Tryz.func45, Tryz.ntmps45
  go_wp2_with fail
  refine (HCL.out _ HX1.out).mono ?_
  rintro e w2 ⟨A2, c2, rfl, ho, hx2⟩
  have HD2 := hide (HDEL.out w2 A2 c2 (HG0.out.ext hx2) ho (HX1.out.trans hx2))
  clear ho hx2
  go_wp2_with fail
  refine HD2.out.mono ?_
  rintro e w3 ⟨m3, rfl, hm3, ho3, hx3⟩
  have HM3 := hide hm3
  have HO3 := hide ho3
  have HX3 := hide hx3
  clear hm3 ho3 hx3
  go_wp2_with fail
  go_ret
  exact lsout_own HO3.out HX3.out HM3.out
end Go.Proofs.YtjmonkacijncbaaGreatDoor
