/- The contract of ringkeep4.itoa at one digit. -/
import Derived.Test.YtjmonkacijncbaaGreatDoorRows
import Derived.Test.YtjmonkacijncbaaGreatDoorMem
import Derived.Test.YtjmonkacijncbaaGreatDoorStr
import Derived.WalkKit
import Derived.WalkSpells
namespace Go.Proofs.YtjmonkacijncbaaGreatDoor
open Go.RowKit
set_option linter.unusedVariables false

def digit (k : Nat) : List UInt8 := [48 + UInt8.ofNat k]
theorem digit_toNat (k : Nat) (h : k < 10) : ((48 + UInt8.ofNat k).toNat : Int) = 48 + (k : Int) := by
  have : k = 0 ∨ k = 1 ∨ k = 2 ∨ k = 3 ∨ k = 4 ∨ k = 5 ∨ k = 6 ∨ k = 7 ∨ k = 8 ∨ k = 9 := by omega
  rcases this with rfl | rfl | rfl | rfl | rfl | rfl | rfl | rfl | rfl | rfl <;> rfl
set_option maxRecDepth 100000 in
set_option maxHeartbeats 2000000 in
set_option maxRecDepth 100000 in
theorem itoa_digit (k : Nat) (hk : k < 10) (w : World) :
    Calls Tryz.prog 27 #[.int .i64 k] w fun e w' => e = .returned (.string (str (digit k))) ∧ Ext w w' := by
  have hb : bytesV (digit k) = [.int .u8 (48 + (k : Int))] := by
    simp only [digit, bytesV, List.map_cons, List.map_nil]
    rw [digit_toNat k hk]
  have hr := (Blk.new w 5 #[.int .u8 (48 + (k : Int))]).reads
  have hr2 : Reads (w.alloc (.cells #[.int .u8 (48 + (k : Int))] 5)) (w.alloc (.cells #[.int .u8 (48 + (k : Int))] 5)).heap.size 1 (some ⟨w.heap.size, 0, none⟩) 1 (bytesV (digit k)) := by
    rw [hb]
    exact hr
  have hc := conv_str' (P := Tryz.prog) Tryz.underlying22 Tryz.underlying5 Tryz.underlying9 hr2 1
  have hx : Ext w (w.alloc (.cells #[.int .u8 (48 + (k : Int))] 5)) := (Ext.refl w).alloc _
  have hw : IntKind.u8.wrap (48 + (k : Int)) = 48 + (k : Int) := by rw [IntKind.wrap_u8]; omega
  have HX := hide hx
  clear hr hr2 hb hx
  go_enter Tryz.func27, Tryz.ntmps27
  go_wp2_with fail
  go_ret
  exact ⟨rfl, HX.out⟩
end Go.Proofs.YtjmonkacijncbaaGreatDoor
