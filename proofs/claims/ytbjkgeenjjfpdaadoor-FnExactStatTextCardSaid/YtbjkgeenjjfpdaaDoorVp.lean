/- Contracts of the library, as contracts of the pure kind. No statement is proved in this text. -/
import Derived.Test.YtbjkgeenjjfpdaaDoorVq
import Derived.Below
set_option linter.all false
set_option autoImplicit true
namespace Go.Vi
open Go Go.RowKit
set_option linter.unusedVariables false

/-- All arguments are numbers, Bools and texts. -/
def flatArg : AV → Option Value
  | .sh (.int k n) => some (.int k n)
  | .sh (.bool b) => some (.bool b)
  | .sh (.str l) => some (.string ⟨⟨l⟩⟩)
  | _ => none
theorem flatArg_eq [Bnd] {g : Gh} {w : World} {p : List Nat} {v u : Value} {x : AV} (h : ARel g w p v x) (hu : flatArg x = some u) : v = u := by
  unfold flatArg at hu
  split at hu <;> first | (injection hu with hu; subst hu) | cases hu
  · exact h.inv_sh.inv_int
  · exact h.inv_sh.inv_bool
  · exact h.inv_sh.inv_str
theorem flatArg_rel [Bnd] {g : Gh} {w : World} {p : List Nat} {u : Value} {x : AV} (hu : flatArg x = some u) : ARel g w p u x := by
  unfold flatArg at hu
  split at hu <;> first | (injection hu with hu; subst hu) | cases hu
  · exact .sh _ (.int _ _)
  · exact .sh _ (.bool _)
  · exact .sh _ (.str _)
theorem Stp.below [Bnd] {g : Gh} {w w' : World} (S : Sane g w) (h : Below w.heap.size w w') : Stp g w g w' where
  os := h.os
  tape := h.tape
  output := h.output
  size := h.size
  old b hb _ := h.block b hb
  kept b o hK := World.cell?_of_block (h.block b (S.s3 b o hK))
  K _ _ h := h
  K' _ _ h := .inl h
  own _ h := .inr h
  m _ _ := rfl
theorem Sane.below [Bnd] {g : Gh} {w w' : World} (S : Sane g w) (h : Below w.heap.size w w') : Sane g w' where
  s1 b q hq := Nat.lt_of_lt_of_le (S.s1 b q hq) h.size
  s2 := S.s2
  s3 b o hK := Nat.lt_of_lt_of_le (S.s3 b o hK) h.size
  sN := ⟨Nat.le_trans S.sN.1 h.size, S.sN.2.1, fun b hb => (h.block b (Nat.lt_of_lt_of_le hb S.sN.1)).trans (S.sN.2.2 b hb)⟩
/-- A contract of the library that makes memory alone. -/
theorem spec_of_below {P : Program} {f : FuncId} {args : List AV} {vals : List Value} {r : AV} {v : Value} (hg : Goes P f) (ha : args.map flatArg = vals.map some) (hr : flatArg r = some v)
    (h : ∀ w, Calls P f vals.toArray w fun e w' => e = .returned v ∧ Below w.heap.size w w') : Spec P f args [] r [] := by
  refine ⟨hg, fun g w vs hp => ?_⟩
  have hvs : vs = vals.toArray := by
    have hlen : args.length = vals.length := by simpa using congrArg List.length ha
    apply Array.ext
    · simp [hp.size, hlen]
    · intro i h1 h2
      have h3 : i < args.length := by rw [← hp.size]; exact h1
      have := hp.arg i vs[i] args[i] (Array.getElem?_eq_getElem h1) (List.getElem?_eq_getElem h3)
      have h4 : (args.map flatArg)[i]? = (vals.map some)[i]? := by rw [ha]
      rw [List.getElem?_map, List.getElem?_map, List.getElem?_eq_getElem h3, List.getElem?_eq_getElem (show i < vals.length by omega)] at h4
      exact flatArg_eq this (Option.some.inj h4)
  rw [hvs]
  refine (h w).mono fun e w' he => ?_
  obtain ⟨rfl, hb⟩ := he
  exact ⟨v, g, rfl, { toSane := hp.toSane.below hb, res := flatArg_rel hr, obj := fun id xs h => (by cases h), s6 := hp.s6 }, Stp.below hp.toSane hb⟩
/-- A contract of the library that leaves the world alone. -/
theorem spec_of_calls {P : Program} {f : FuncId} {args : List AV} {vals : List Value} {r : AV} {v : Value} (hg : Goes P f) (ha : args.map flatArg = vals.map some) (hr : flatArg r = some v)
    (h : ∀ w, Calls P f vals.toArray w fun e w' => e = .returned v ∧ w' = w) : Spec P f args [] r [] := by
  refine ⟨hg, fun g w vs hp => ?_⟩
  have hvs : vs = vals.toArray := by
    have hlen : args.length = vals.length := by simpa using congrArg List.length ha
    apply Array.ext
    · simp [hp.size, hlen]
    · intro i h1 h2
      have h3 : i < args.length := by rw [← hp.size]; exact h1
      have := hp.arg i vs[i] args[i] (Array.getElem?_eq_getElem h1) (List.getElem?_eq_getElem h3)
      have h4 : (args.map flatArg)[i]? = (vals.map some)[i]? := by rw [ha]
      rw [List.getElem?_map, List.getElem?_map, List.getElem?_eq_getElem h3, List.getElem?_eq_getElem (show i < vals.length by omega)] at h4
      exact flatArg_eq this (Option.some.inj h4)
  rw [hvs]
  refine (h w).mono fun e w' he => ?_
  obtain ⟨rfl, rfl⟩ := he
  exact ⟨v, g, rfl, { toSane := hp.toSane, res := flatArg_rel hr, obj := fun id xs h => (by cases h), s6 := hp.s6 }, Stp.refl _ _⟩
theorem Sane.tab [Bnd] {P : Program} [B : BndP P] {g : Gh} {w : World} (S : Sane g w) (hn : P.globalNamed "internal/strconv.uint64pow10" ≠ none) :
    w.var? P "internal/strconv.uint64pow10" = some (((List.range 20).map fun i => Value.int .u64 ((10 ^ i : Nat) : Int))).toArray := by
  have h := B.tabs hn
  unfold World.var? at h ⊢
  cases hg : P.globalNamed "internal/strconv.uint64pow10" with
  | none => exact absurd hg hn
  | some k =>
    rw [hg] at h
    simp only [Option.bind_some] at h ⊢
    have hk : k < Bnd.N := by
      rw [B.all]
      apply Classical.byContradiction
      intro hk
      rw [Array.getElem?_eq_none (by omega)] at h
      cases h
    rw [S.sN.2.2 k hk]
    exact h
/-- A contract of the library that makes memory alone and reads the table of powers of ten. -/
theorem spec_of_tab {P : Program} {f : FuncId} {args : List AV} {vals : List Value} {r : AV} {v : Value} (hg : Goes P f) (ha : args.map flatArg = vals.map some) (hr : flatArg r = some v)
    (hn : P.globalNamed "internal/strconv.uint64pow10" ≠ none)
    (h : ∀ w, w.var? P "internal/strconv.uint64pow10" = some (((List.range 20).map fun i => Value.int .u64 ((10 ^ i : Nat) : Int))).toArray → Calls P f vals.toArray w fun e w' => e = .returned v ∧ Below w.heap.size w w') : Spec P f args [] r [] := by
  refine ⟨hg, fun g w vs hp => ?_⟩
  have hvs : vs = vals.toArray := by
    have hlen : args.length = vals.length := by simpa using congrArg List.length ha
    apply Array.ext
    · simp [hp.size, hlen]
    · intro i h1 h2
      have h3 : i < args.length := by rw [← hp.size]; exact h1
      have := hp.arg i vs[i] args[i] (Array.getElem?_eq_getElem h1) (List.getElem?_eq_getElem h3)
      have h4 : (args.map flatArg)[i]? = (vals.map some)[i]? := by rw [ha]
      rw [List.getElem?_map, List.getElem?_map, List.getElem?_eq_getElem h3, List.getElem?_eq_getElem (show i < vals.length by omega)] at h4
      exact flatArg_eq this (Option.some.inj h4)
  rw [hvs]
  refine (h w (hp.toSane.tab hn)).mono fun e w' he => ?_
  obtain ⟨rfl, hb⟩ := he
  exact ⟨v, g, rfl, { toSane := hp.toSane.below hb, res := flatArg_rel hr, obj := fun id xs h => (by cases h), s6 := hp.s6 }, Stp.below hp.toSane hb⟩
end Go.Vi
