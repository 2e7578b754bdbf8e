/- What single lines do to a unit (printed by gen_lines.py). Plain theorems, no program in sight. -/
import Derived.Test.YtikbfmjhmjkkgaaDoorAmInv
namespace Go.Proofs.YtikbfmjhmjkkgaaDoor
open Go.RowKit
set_option linter.unusedVariables false

theorem line_inst {u u' : UnD} {s a : Bs} {r : List Bs} (e1 : s.all okCh = true) (e2 : Lib.fields (Lib.cut s [59]).1 = a :: r) (e3 : Lib.hasSuffix a [58] = false) (h : u.code.length ≠ 128) (ew : a ≠ [119, 111, 114, 100]) (eo : orderL u a r = some u') : lineL u s = .ok u' := by
  unfold lineL
  rw [if_pos e1, e2]
  unfold fieldsL
  dsimp only
  rw [e3, if_neg (by decide)]
  unfold instL
  dsimp only
  rw [if_neg h, if_neg ew, eo]
  rfl
theorem line_word {u u' : UnD} {s : Bs} {r : List Bs} (e1 : s.all okCh = true) (e2 : Lib.fields (Lib.cut s [59]).1 = [119, 111, 114, 100] :: r) (h : u.code.length ≠ 128) (eo : wordL' u r = some u') : lineL u s = .ok u' := by
  unfold lineL
  rw [if_pos e1, e2]
  unfold fieldsL
  dsimp only
  rw [show Lib.hasSuffix [119, 111, 114, 100] [58] = false from by decide, if_neg (by decide)]
  unfold instL
  dsimp only
  rw [if_neg h, if_pos rfl, eo]
  rfl
theorem line_mark {u u' : UnD} {s a m b : Bs} {r : List Bs} (e1 : s.all okCh = true) (e2 : Lib.fields (Lib.cut s [59]).1 = a :: b :: r) (e3 : Lib.hasSuffix a [58] = true) (em : Lib.trimSuffix a [58] = m) (en : nameB m = true) (hm : (u.marks.any fun x => x.1 == m) = false) (h : u.code.length ≠ 128) (ew : b ≠ [119, 111, 114, 100])
    (eo : orderL ⟨u.code, u.marks ++ [(m, 4 * u.code.length)], u.needs⟩ b r = some u') : lineL u s = .ok u' := by
  unfold lineL
  rw [if_pos e1, e2]
  unfold fieldsL
  dsimp only
  rw [e3, if_pos rfl, em]
  unfold markL
  rw [if_pos en, hm, if_neg (by decide)]
  dsimp only
  unfold instL
  dsimp only
  rw [if_neg h, if_neg ew, eo]
  rfl
theorem line_jumpfar (u : UnD) (h : u.code.length ≠ 128) : lineL u [106, 117, 109, 112, 32, 102, 97, 114] = .ok (u.put 318767104 [102, 97, 114] 1) :=
  line_inst (a := [106, 117, 109, 112]) (r := [[102, 97, 114]]) (by decide +kernel) (by decide +kernel) (by decide +kernel) h (by decide) (by kernel_rfl)
theorem line_setfar (u : UnD) (h : u.code.length ≠ 128) : lineL u [115, 101, 116, 32, 114, 51, 32, 102, 97, 114] = .ok (u.put 36700160 [102, 97, 114] 2) :=
  line_inst (a := [115, 101, 116]) (r := [[114, 51], [102, 97, 114]]) (by decide +kernel) (by decide +kernel) (by decide +kernel) h (by decide) (by kernel_rfl)
theorem line_sysn (u : UnD) (h : u.code.length ≠ 128) : lineL u [115, 121, 115, 32, 59, 32, 110, 111, 116, 104, 105, 110, 103] = .ok (u.put 402653184 [] 2) :=
  line_inst (a := [115, 121, 115]) (r := []) (by decide +kernel) (by decide +kernel) (by decide +kernel) h (by decide) (by kernel_rfl)
theorem line_sys (u : UnD) (h : u.code.length ≠ 128) : lineL u [115, 121, 115] = .ok (u.put 402653184 [] 2) :=
  line_inst (a := [115, 121, 115]) (r := []) (by decide +kernel) (by decide +kernel) (by decide +kernel) h (by decide) (by kernel_rfl)
theorem line_add (u : UnD) (h : u.code.length ≠ 128) : lineL u [97, 100, 100, 32, 114, 49, 32, 114, 50] = .ok (u.put 85065728 [] 2) :=
  line_inst (a := [97, 100, 100]) (r := [[114, 49], [114, 50]]) (by decide +kernel) (by decide +kernel) (by decide +kernel) h (by decide) (by kernel_rfl)
theorem line_jumphere (u : UnD) (h : u.code.length ≠ 128) : lineL u [106, 117, 109, 112, 32, 104, 101, 114, 101] = .ok (u.put 318767104 [104, 101, 114, 101] 1) :=
  line_inst (a := [106, 117, 109, 112]) (r := [[104, 101, 114, 101]]) (by decide +kernel) (by decide +kernel) (by decide +kernel) h (by decide) (by kernel_rfl)
theorem line_setr1 (u : UnD) (h : u.code.length ≠ 128) : lineL u [115, 101, 116, 32, 114, 49, 32, 53] = .ok (u.put 34603013 [] 2) :=
  line_inst (a := [115, 101, 116]) (r := [[114, 49], [53]]) (by decide +kernel) (by decide +kernel) (by decide +kernel) h (by decide) (by kernel_rfl)
theorem line_wordfar (u : UnD) (h : u.code.length ≠ 128) : lineL u [119, 111, 114, 100, 32, 102, 97, 114] = .ok (u.put 0 [102, 97, 114] 3) :=
  line_word (r := [[102, 97, 114]]) (by decide +kernel) (by decide +kernel) h (by kernel_rfl)
theorem line_hereadd (u : UnD) (h : u.code.length ≠ 128) (hm : u.marks = []) : lineL u [104, 101, 114, 101, 58, 32, 97, 100, 100, 32, 114, 49, 32, 114, 50] = .ok (UnD.put ⟨u.code, [([104, 101, 114, 101], 4 * u.code.length)], u.needs⟩ 85065728 [] 2) := by
  have := line_mark (u := u) (s := [104, 101, 114, 101, 58, 32, 97, 100, 100, 32, 114, 49, 32, 114, 50]) (a := [104, 101, 114, 101, 58]) (m := [104, 101, 114, 101]) (b := [97, 100, 100]) (r := [[114, 49], [114, 50]]) (u' := UnD.put ⟨u.code, u.marks ++ [([104, 101, 114, 101], 4 * u.code.length)], u.needs⟩ 85065728 [] 2) (by decide +kernel) (by decide +kernel) (by decide +kernel) (by decide +kernel) (by decide +kernel) (by rw [hm]; rfl) h (by decide) (by kernel_rfl)
  rw [hm] at this
  exact this
theorem line_herejump (u : UnD) (h : u.code.length ≠ 128) (hm : u.marks = []) : lineL u [104, 101, 114, 101, 58, 32, 106, 117, 109, 112, 32, 104, 101, 114, 101] = .ok (UnD.put ⟨u.code, [([104, 101, 114, 101], 4 * u.code.length)], u.needs⟩ 318767104 [104, 101, 114, 101] 1) := by
  have := line_mark (u := u) (s := [104, 101, 114, 101, 58, 32, 106, 117, 109, 112, 32, 104, 101, 114, 101]) (a := [104, 101, 114, 101, 58]) (m := [104, 101, 114, 101]) (b := [106, 117, 109, 112]) (r := [[104, 101, 114, 101]]) (u' := UnD.put ⟨u.code, u.marks ++ [([104, 101, 114, 101], 4 * u.code.length)], u.needs⟩ 318767104 [104, 101, 114, 101] 1) (by decide +kernel) (by decide +kernel) (by decide +kernel) (by decide +kernel) (by decide +kernel) (by rw [hm]; rfl) h (by decide) (by kernel_rfl)
  rw [hm] at this
  exact this
theorem line_asys (u : UnD) (h : u.code.length ≠ 128) (hm : u.marks = []) : lineL u [97, 58, 32, 115, 121, 115] = .ok (UnD.put ⟨u.code, [([97], 4 * u.code.length)], u.needs⟩ 402653184 [] 2) := by
  have := line_mark (u := u) (s := [97, 58, 32, 115, 121, 115]) (a := [97, 58]) (m := [97]) (b := [115, 121, 115]) (r := []) (u' := UnD.put ⟨u.code, u.marks ++ [([97], 4 * u.code.length)], u.needs⟩ 402653184 [] 2) (by decide +kernel) (by decide +kernel) (by decide +kernel) (by decide +kernel) (by decide +kernel) (by rw [hm]; rfl) h (by decide) (by kernel_rfl)
  rw [hm] at this
  exact this
theorem settle_none (u : UnD) (h : u.marks = []) : settleL u = u := by
  have key : ∀ (ns : List (Nat × Bs × Nat)) (st : List Nat × List (Nat × Bs × Nat)), ns.foldl (settleS []) st = (st.1, st.2 ++ ns) := by
    intro ns
    induction ns with
    | nil => intro st; simp
    | cons n ns ih =>
      intro st
      rw [List.foldl_cons, ih]
      show ((settleS [] st n).1, (settleS [] st n).2 ++ ns) = _
      have : settleS [] st n = (st.1, st.2 ++ [n]) := rfl
      rw [this]
      simp
  unfold settleL
  rw [h, key]
  cases u
  simp at h
  simp [h]
theorem lines_step {k : Nat} {u u' : UnD} {s : Bs} {r : List Bs} (h : lineL u s = .ok u') : linesL k u (s :: r) = linesL (k + 1) u' r := by
  rw [linesL, h]
theorem lines_err {k e : Nat} {u : UnD} {s : Bs} {r : List Bs} (h : lineL u s = .err e) : linesL k u (s :: r) = .err (k + 1) e := by
  rw [linesL, h]
end Go.Proofs.YtikbfmjhmjkkgaaDoor

