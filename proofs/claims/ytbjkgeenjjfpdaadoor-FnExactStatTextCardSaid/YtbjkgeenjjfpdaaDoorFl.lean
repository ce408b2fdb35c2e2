/- Contracts of functions of the seat. No statement is proved in this text. -/
import Derived.Test.YtbjkgeenjjfpdaaDoorBa
import Derived.Test.YtbjkgeenjjfpdaaDoorSh
import Derived.Lib.Bytealg
set_option linter.all false
set_option autoImplicit true
namespace Go.Vi
open Go Go.Proofs
set_option maxRecDepth 100000
set_option maxHeartbeats 4000000
set_option linter.unusedVariables false
set_option linter.unusedSimpArgs false
open Go.Proofs
theorem goes_Contains : Goes Tryd.prog 86 := ⟨_, Tryd.func86, by kernel_rfl, by kernel_rfl⟩
theorem indexByte_has (l : List UInt8) (c : UInt8) : decide (0 ≤ Lib.indexByte l c) = l.contains c := by
  induction l with
  | nil => rfl
  | cons b l ih =>
    unfold Lib.indexByte
    by_cases h : b = c
    · subst h; simp
    · have h2 : (b == c) = false := by simpa using h
      have h3 : (c == b) = false := by simpa using Ne.symm h
      rw [h2, List.contains_cons, h3, Bool.false_or, ← ih]
      simp only [Bool.false_eq_true, if_false]
      have := Lib.indexByte_ge l c
      by_cases h4 : Lib.indexByte l c = -1
      · simp [h4]
      · have : (Lib.indexByte l c == -1) = false := by simpa using h4
        rw [this]
        simp only [Bool.false_eq_true, if_false]
        apply decide_eq_decide.2
        omega
theorem spec_Contains_nl (s : Str) : Spec Tryd.prog 86 [.sh (.str s), .sh (.str [10])] [] (.sh (.bool (s.contains 10))) [] := by
  refine spec_of_calls goes_Contains (vals := [.string ⟨⟨s⟩⟩, .string ⟨#[10]⟩]) rfl rfl fun w => ?_
  refine (Tryd.strings_Contains_one ⟨⟨s⟩⟩ 10 w).mono fun e w' h => ?_
  rw [h.1, indexByte_has]
  exact ⟨rfl, h.2⟩

end Go.Vi
