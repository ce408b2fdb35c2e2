/- Sizes of data, as the laws count them. No statement is proved in this text. -/
import Derived.Test.YtbjkgeenjjfpdaaDoorPa
set_option linter.all false
set_option autoImplicit true
namespace Go.Vi
open Go Go.RowKit
set_option linter.unusedVariables false
/-- What is left of n behind a. -/
def lft1 (n : Int) (a : Nat) : Int := if (a : Int) ≤ n then n - a else -1
def sumBy {α : Type} (f : α → Nat) : List α → Nat
  | [] => 0
  | x :: r => f x + sumBy f r
def szRow (r : Row) : Nat := r.Line.length
def szRows (l : List Row) : Nat := l.length + sumBy szRow l
def szGroup (g : Group) : Nat := szRows g.Rows
def szGroups (l : List Group) : Nat := l.length + sumBy szGroup l
def szFD (d : FDiff) : Nat := d.Name.length + szGroups d.Part
def szFDs (l : List FDiff) : Nat := l.length + sumBy szFD l
def FDmax (d : FDiff) : Prop := d.Name.length ≤ 9223372036854775807 ∧ d.Part.length ≤ 9223372036854775807 ∧ (∀ g ∈ d.Part, g.Rows.length ≤ 9223372036854775807) ∧ ∀ g ∈ d.Part, ∀ r ∈ g.Rows, r.Line.length ≤ 9223372036854775807
theorem sumBy_drop {α : Type} {f : α → Nat} {l : List α} {i : Nat} {x : α} (hx : l[i]? = some x) : sumBy f (l.drop i) = f x + sumBy f (l.drop (i + 1)) := by
  rw [drop_cons hx]; rfl
theorem sumBy_mem {α : Type} {f : α → Nat} {l : List α} {x : α} (hx : x ∈ l) : f x ≤ sumBy f l := by
  induction l with
  | nil => cases hx
  | cons y r ih =>
    simp only [sumBy]
    rcases List.mem_cons.1 hx with rfl | h
    · omega
    · have := ih h; omega
theorem lft1_neg {n : Int} {a : Nat} (h : n < a) : lft1 n a = -1 := by unfold lft1; rw [if_neg (by omega)]
theorem lft1_pos {n : Int} {a : Nat} (h : (a : Int) ≤ n) : lft1 n a = n - a := by unfold lft1; rw [if_pos h]
theorem lft1_lt {n : Int} {a : Nat} (h : 0 ≤ n) : decide (lft1 n a < 0) = decide (n < a) := by
  unfold lft1; apply decide_eq_decide.2; split <;> omega
theorem lft1_ge {n : Int} {a : Nat} (h0 : 0 ≤ n) (h : ¬ lft1 n a < 0) : (a : Int) ≤ n := by
  unfold lft1 at h; split at h <;> omega
theorem szFDs_ok {l : List FDiff} {n : Nat} (h : szFDs l ≤ n) : l.length ≤ n ∧ ∀ d ∈ l, d.Name.length ≤ n ∧ d.Part.length ≤ n ∧ (∀ g ∈ d.Part, g.Rows.length ≤ n) ∧ ∀ g ∈ d.Part, ∀ r ∈ g.Rows, r.Line.length ≤ n := by
  unfold szFDs at h
  refine ⟨by omega, fun d hd => ?_⟩
  have h1 := sumBy_mem (f := szFD) hd
  have e1 : szFD d = d.Name.length + szGroups d.Part := rfl
  have e2 : szGroups d.Part = d.Part.length + sumBy szGroup d.Part := rfl
  refine ⟨by omega, by omega, fun g hg => ?_, fun g hg r hr => ?_⟩
  · have h2 := sumBy_mem (f := szGroup) hg
    have e3 : szGroup g = g.Rows.length + sumBy szRow g.Rows := rfl
    omega
  · have h2 := sumBy_mem (f := szGroup) hg
    have e3 : szGroup g = g.Rows.length + sumBy szRow g.Rows := rfl
    have h3 := sumBy_mem (f := szRow) hr
    have e4 : szRow r = r.Line.length := rfl
    omega
end Go.Vi
