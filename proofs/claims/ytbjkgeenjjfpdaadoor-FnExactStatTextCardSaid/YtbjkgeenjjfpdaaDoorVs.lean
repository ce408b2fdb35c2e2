/- Typed data out of what an argument reads as. No statement is proved in this text. -/
import Derived.Test.YtbjkgeenjjfpdaaDoorVr
import Derived.Test.YtbjkgeenjjfpdaaDoorPb
set_option linter.all false
set_option autoImplicit true
namespace Go.Vi
open Go Go.RowKit
set_option linter.unusedVariables false
theorem map_of {α : Type} {f : α → DV} {Q : α → Prop} : ∀ {xs : List DV}, (∀ x ∈ xs, ∃ r, x = f r ∧ Q r) → ∃ rs : List α, xs = rs.map f ∧ rs.length = xs.length ∧ ∀ r ∈ rs, Q r
  | [], _ => ⟨[], rfl, rfl, by simp⟩
  | x :: xs, h => by
    obtain ⟨r, rfl, hr⟩ := h x (by simp)
    obtain ⟨rs, h1, h2, h3⟩ := map_of (xs := xs) (fun y hy => h y (by simp [hy]))
    exact ⟨r :: rs, by simp [h1], by simp [h2], fun y hy => by rcases List.mem_cons.1 hy with rfl | hy; · exact hr
                                                               · exact h3 y hy⟩
section
variable {P : Program} {w : World} {t : TypeId}
def RInt (k : IntKind) (D : DV) : Prop := ∃ n, D = .int k n ∧ (Lit.int k n).wf = true
def RStr (D : DV) : Prop := ∃ l : List UInt8, D = .str l ∧ l.length ≤ maxLen
def RSl {α : Type} (f : α → DV) (Q : α → Prop) (D : DV) : Prop := ∃ rs : List α, D = .sl 0 (rs.map f) ∧ rs.length ≤ maxLen ∧ ∀ r ∈ rs, Q r
theorem rds_rows {α : Type} {f : α → DV} {Q : α → Prop} {e : TypeId} (hu : P.underlying t = some (.slice e)) (hsz : 0 < P.cellsOf e) (he : Rds P w e fun D => ∃ r, D = f r ∧ Q r) : Rds P w t (RSl f Q) :=
  rds_mono (rds_slice hu hsz he) fun D ⟨xs, h1, h2, h3⟩ => by
    obtain ⟨rs, h4, h5, h6⟩ := map_of h3
    exact ⟨rs, by rw [h1, h4], by rw [h5]; exact h2, h6⟩
theorem cell_int {k : IntKind} {D : DV} (h : RInt k D) : D.isCell = true := by obtain ⟨n, rfl, _⟩ := h; rfl
theorem cell_str {D : DV} (h : RStr D) : D.isCell = true := by obtain ⟨n, rfl, _⟩ := h; rfl
theorem cell_sl {α : Type} {f : α → DV} {Q : α → Prop} {D : DV} (h : RSl f Q D) : D.isCell = true := by obtain ⟨n, rfl, _⟩ := h; rfl
/-- Structs of two and three fields. -/
theorem rds_two {R0 R1 : DV → Prop} {f0 f1 : Field} (hu : P.underlying t = some (.struct #[f0, f1])) (hc : P.cellsOf t = 2) (o0 : f0.offset = 0) (o1 : f1.offset = 1) (c0 : P.cellsOf f0.type = 1) (c1 : P.cellsOf f1.type = 1)
    (h0 : Rds P w f0.type R0) (h1 : Rds P w f1.type R1) (i0 : ∀ D, R0 D → D.isCell = true) (i1 : ∀ D, R1 D → D.isCell = true) : Rds P w t fun D => ∃ a b, D = .agg [a, b] ∧ R0 a ∧ R1 b := by
  refine rds_mono (rds_struct hu (fun i => if i = 0 then R0 else R1) hc fun i f hf => ?_) fun D ⟨ds, h2, h3, h4⟩ => ?_
  · match i with
    | 0 => simp at hf; subst hf; exact ⟨o0, c0, h0, i0⟩
    | 1 => simp at hf; subst hf; exact ⟨o1, c1, h1, i1⟩
    | i + 2 => simp at hf
  · match ds, h3 with
    | [a, b], _ => exact ⟨a, b, h2, h4 0 a rfl, h4 1 b rfl⟩
theorem rds_three {R0 R1 R2 : DV → Prop} {f0 f1 f2 : Field} (hu : P.underlying t = some (.struct #[f0, f1, f2])) (hc : P.cellsOf t = 3) (o0 : f0.offset = 0) (o1 : f1.offset = 1) (o2 : f2.offset = 2) (c0 : P.cellsOf f0.type = 1) (c1 : P.cellsOf f1.type = 1) (c2 : P.cellsOf f2.type = 1)
    (h0 : Rds P w f0.type R0) (h1 : Rds P w f1.type R1) (h2 : Rds P w f2.type R2) (i0 : ∀ D, R0 D → D.isCell = true) (i1 : ∀ D, R1 D → D.isCell = true) (i2 : ∀ D, R2 D → D.isCell = true) : Rds P w t fun D => ∃ a b c, D = .agg [a, b, c] ∧ R0 a ∧ R1 b ∧ R2 c := by
  refine rds_mono (rds_struct hu (fun i => if i = 0 then R0 else if i = 1 then R1 else R2) hc fun i f hf => ?_) fun D ⟨ds, h3, h4, h5⟩ => ?_
  · match i with
    | 0 => simp at hf; subst hf; exact ⟨o0, c0, h0, i0⟩
    | 1 => simp at hf; subst hf; exact ⟨o1, c1, h1, i1⟩
    | 2 => simp at hf; subst hf; exact ⟨o2, c2, h2, i2⟩
    | i + 3 => simp at hf
  · match ds, h4 with
    | [a, b, c], _ => exact ⟨a, b, c, h3, h5 0 a rfl, h5 1 b rfl, h5 2 c rfl⟩
/-- The laws' diffs. -/
def RowMax (r : Row) : Prop := r.Line.length ≤ maxLen
def GrpMax (g : Group) : Prop := g.Rows.length ≤ maxLen ∧ ∀ r ∈ g.Rows, RowMax r
def FDM (d : FDiff) : Prop := d.Name.length ≤ maxLen ∧ d.Part.length ≤ maxLen ∧ ∀ g ∈ d.Part, GrpMax g
theorem isRow_of (D : DV) (h : ∃ a b, D = .agg [a, b] ∧ RInt .i64 a ∧ RStr b) : ∃ r, D = dRow r ∧ RowMax r := by
  obtain ⟨_, _, rfl, ⟨n, rfl, _⟩, ⟨l, rfl, hl⟩⟩ := h
  exact ⟨⟨n, l⟩, rfl, hl⟩
theorem isGroup_of (D : DV) (h : ∃ a b c, D = .agg [a, b, c] ∧ RInt .i64 a ∧ RInt .i64 b ∧ RSl dRow RowMax c) : ∃ g, D = dGroup tS g ∧ GrpMax g := by
  obtain ⟨_, _, _, rfl, ⟨n, rfl, _⟩, ⟨m, rfl, _⟩, ⟨rs, rfl, h1, h2⟩⟩ := h
  exact ⟨⟨n, m, rs⟩, rfl, h1, h2⟩
theorem isFD_of (D : DV) (h : ∃ a b c, D = .agg [a, b, c] ∧ RStr a ∧ RInt .i64 b ∧ RSl (dGroup tS) GrpMax c) : ∃ d, D = dFD tS d ∧ FDM d := by
  obtain ⟨_, _, _, rfl, ⟨l, rfl, hl⟩, ⟨m, rfl, _⟩, ⟨gs, rfl, h1, h2⟩⟩ := h
  exact ⟨⟨l, m, gs⟩, rfl, hl, h1, h2⟩
theorem FDM.max {d : FDiff} (h : FDM d) : FDmax d := by
  unfold FDM GrpMax RowMax maxLen at h
  exact ⟨h.1, h.2.1, fun g hg => (h.2.2 g hg).1, fun g hg r hr => (h.2.2 g hg).2 r hr⟩
end
end Go.Vi
