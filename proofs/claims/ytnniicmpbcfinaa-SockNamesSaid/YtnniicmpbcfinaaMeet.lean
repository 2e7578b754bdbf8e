/- The contract of ringkeep4.meet: two sockets that are joined, and who hears. -/
import Derived.Test.YtnniicmpbcfinaaSockIO
import Derived.Test.YtnniicmpbcfinaaLies
namespace Go.Proofs.Ytnniicmpbcfinaa
open Go.RowKit
set_option linter.unusedVariables false

def hearD (port many : Int) (q : List Int) : SkD := ⟨2, port, many, q, 0, [], false⟩
def joinD (port peer : Int) (inn : List UInt8) (shut : Bool) : SkD := ⟨3, port, 0, [], peer, inn, shut⟩
def meetS (port : Int) (c a : SkD) : Nat → Option SkD := fun i => if i = 0 then some (hearD port 2 []) else if i = 1 then some c else if i = 2 then some a else none
def MeetPost (port : Int) (w : World) (e : Ending) (w' : World) : Prop :=
  ∃ M, e = .returned (.tuple #[.pointer (some ⟨w.heap.size, 0, none⟩), .int .i64 1, .int .i64 2, .int .i64 3, .bool true]) ∧ SkAt w w.heap.size (meetS port (joinD port 3 [] false) (joinD port 2 [] false)) M w' ∧ (M 1).vi = nilV ∧ (M 2).vi = nilV
theorem meet_any (port : Int) (w : World) (hp : 1 ≤ port ∧ port ≤ 99) : Calls Try.prog 7 #[.int .i64 port] w (MeetPost port w) := by
  have HP := hide hp
  clear hp
  go_enter Try.func7, Try.ntmps7
  go_wp2_with fail
  refine (new_any w).mono ?_
  rintro e w1 ⟨rfl, h1⟩
  have H1 := hide h1
  clear h1
  go_wp2_with fail
  refine (make_at 0 w1 H1.out (by omega) rfl (by omega)).mono ?_
  rintro e w2 ⟨rfl, h2, -⟩
  have H2 := hide h2
  clear h2 H1
  go_wp2_with fail
  refine (make_at 1 w2 H2.out (by omega) (by simp [updN]) (fun j hj => by obtain rfl : j = 0 := (by omega); simp [updN])).mono ?_
  rintro e w3 ⟨rfl, h3, -⟩
  have H3 := hide h3
  clear h3 H2
  go_wp2_with fail
  refine (name_ok 0 skZero port w3 H3.out (by omega) (by simp [updN]) rfl HP.out (fun j e he => by
    have : e = skZero := by
      unfold updN at he
      split at he
      · injection he with he; exact he.symm
      · split at he
        · injection he with he; exact he.symm
        · cases he
    subst this
    rintro ⟨h1, -⟩
    have := HP.out.1
    simp only [skZero] at h1
    omega)).mono ?_
  rintro e w4 ⟨rfl, h4, -⟩
  have H4 := hide h4
  clear h4 H3
  go_wp2_with fail
  refine (hear_ok 0 { skZero with kind := 1, port := port } 2 w4 H4.out (by omega) (by simp [updN]) rfl (by omega)).mono ?_
  rintro e w5 ⟨rfl, h5, -⟩
  have H5 := hide h5
  clear h5 H4
  go_wp2_with fail
  refine (reach_ok 1 0 2 skZero (hearD port 2 []) port w5 H5.out (by omega) (by simp [updN]) rfl HP.out (by omega) (by simp [updN, skZero, hearD]) rfl rfl (fun j d hj => absurd hj (by omega)) (by simp [hearD]) (by simp [hearD]) (by omega) (by simp [updN]) (fun j hj => by
    have : j = 0 ∨ j = 1 := by omega
    rcases this with rfl | rfl <;> simp [updN])).mono ?_
  rintro e w6 ⟨rfl, bk, vq, h6⟩
  have H6 := hide h6
  clear h6 H5
  go_wp2_with fail
  refine (accept_ok 0 (hearD port 2 [3]) 3 [] w6 H6.out (by omega) (by simp [updN, hearD]) rfl rfl (by simp)).mono ?_
  rintro e w7 ⟨rfl, vq7, h7, -⟩
  have H7 := hide h7
  clear h7 H6
  go_wp2_with fail
  refine bodyPost_ret (v := .tuple #[.pointer (some ⟨w.heap.size, 0, none⟩), .int .i64 1, .int .i64 2, .int .i64 3, .bool true]) (by simp [results, Try.results7]) rfl ?_
  obtain ⟨M7, h, hm1, hm2⟩ : ∃ M7, SkAt w w.heap.size _ M7 w7 ∧ (M7 1).vi = nilV ∧ (M7 2).vi = nilV := ⟨_, H7.out, rfl, rfl⟩
  refine ⟨M7, rfl, ?_, hm1, hm2⟩
  · have e : (fun i => meetS port (joinD port 3 [] false) (joinD port 2 [] false) i) = updN (updN (updN (updN (updN (updN (updN (updN (fun _ => none) 0 (some skZero)) 1 (some skZero)) 0 (some { skZero with kind := 1, port := port })) 0 (some { skZero with kind := 2, port := port, many := 2 })) 2 (some { skZero with kind := 3, port := port, peer := ((1 : Nat) : Int) + 1 })) 1 (some { skZero with kind := 3, port := port, peer := ((2 : Nat) : Int) + 1 })) 0 (some (hearD port 2 ([] ++ [((2 : Nat) : Int) + 1])))) 0 (some (hearD port 2 [])) := by
      funext x
      unfold meetS updN
      by_cases h0 : x = 0
      · simp [h0]
      · by_cases h1 : x = 1
        · simp [h1, joinD, skZero]
        · by_cases h2 : x = 2
          · simp [h2, joinD, skZero]
          · simp [h0, h1, h2]
    show SkAt w w.heap.size (fun i => meetS port (joinD port 3 [] false) (joinD port 2 [] false) i) _ w7
    rw [e]
    exact h
end Go.Proofs.Ytnniicmpbcfinaa
