/- Contracts of functions of the seat. No statement is proved in this text. -/
import Derived.Test.YtbjkgeenjjfpdaaDoorBa
import Derived.Test.YtbjkgeenjjfpdaaDoorSh
import Derived.Shelf.Strings.SlTrimAscii
set_option linter.all false
set_option autoImplicit true
namespace Go.Vi
open Go Go.Proofs
set_option maxRecDepth 100000
set_option maxHeartbeats 4000000
set_option linter.unusedVariables false
set_option linter.unusedSimpArgs false
open Go.Proofs
theorem goes_Trim : Goes Tryd.prog 47 := ⟨_, Tryd.func47, by kernel_rfl, by kernel_rfl⟩
theorem dropWhile_nil {α : Type} (p : α → Bool) (l : List α) : l.dropWhile p = [] ↔ l.all p = true := by
  induction l with
  | nil => simp
  | cons x r ih =>
    by_cases h : p x = true
    · simp [List.dropWhile_cons, h, ih]
    · simp [List.dropWhile_cons, h]
theorem dropWhile_all {α : Type} (p q : α → Bool) (l : List α) (h : l.all q = true) : (l.dropWhile p).all q = true := by
  rw [List.all_eq_true] at h ⊢
  exact fun x hx => h x ((List.dropWhile_sublist p).subset hx)
theorem mem_dropWhile {α : Type} (p : α → Bool) (l : List α) {x : α} (hx : x ∈ l) (hp : p x = false) : x ∈ l.dropWhile p := by
  induction l with
  | nil => cases hx
  | cons y r ih =>
    rw [List.dropWhile_cons]
    split
    · rename_i h
      rcases List.mem_cons.1 hx with rfl | hx
      · rw [hp] at h; cases h
      · exact ih hx
    · exact hx
theorem trimS_nil (s cs : List UInt8) : (Lib.trimS s cs == []) = s.all cs.contains := by
  rw [Bool.eq_iff_iff, beq_iff_eq]
  unfold Lib.trimS Lib.trimLeftS Lib.trimRightS
  rw [dropWhile_nil, List.all_reverse]
  constructor
  · intro h
    rw [List.all_eq_true]
    intro x hx
    cases hc : cs.contains x with
    | true => rfl
    | false =>
      have := mem_dropWhile (cs.contains ·) s.reverse (List.mem_reverse.2 hx) hc
      rw [List.all_eq_true] at h
      rw [h x this] at hc; cases hc
  · intro h
    exact dropWhile_all _ _ _ (by rw [List.all_reverse]; exact h)
theorem hv_set : ∀ w, (zeroValue (Tryd.lays160_ren.t 116)).run Tryd.prog w = .ok (.agg (Array.replicate 256 (.bool false))) w := fun _ => by kernel_rfl
theorem hi_set : (Tryd.prog.info? (Tryd.lays160_ren.t 116)).map (·.size) = some 256 := by kernel_rfl
def nameSet : List UInt8 := [97, 98, 99, 100, 101, 102, 103, 104, 105, 106, 107, 108, 109, 110, 111, 112, 113, 114, 115, 116, 117, 118, 119, 120, 121, 122, 48, 49, 50, 51, 52, 53, 54, 55, 56, 57, 46, 47]
theorem nameSet_has (b : UInt8) : nameSet.contains b = nameByte b := by
  rcases b with ⟨⟨n, hn⟩⟩
  revert n
  decide
theorem nameSet_ascii : ∀ b ∈ nameSet, b.toNat < 128 := by decide
theorem spec_Trim_name (s : Str) (hs : s.length ≤ 1099511627776) : Spec Tryd.prog 47 [.sh (.str s), .sh (.str nameSet)] [] (.sh (.str (Lib.trimS s nameSet))) [] := by
  refine spec_of_below goes_Trim (vals := [.string ⟨⟨s⟩⟩, .string ⟨⟨nameSet⟩⟩]) (v := .string ⟨⟨Lib.trimS s nameSet⟩⟩) rfl rfl fun w => ?_
  exact Any.strings_Trim_ascii Tryd.lays160 hv_set hi_set ⟨⟨s⟩⟩ ⟨⟨nameSet⟩⟩ w (by show s.length ≤ _; omega) (by decide) (fun j b h => nameSet_ascii b (List.mem_of_getElem? h))

end Go.Vi
