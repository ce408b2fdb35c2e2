/- What a law's arguments read as, and what they are to the pure state; and a law's row out of its contract. No statement is proved in this text. -/
import Derived.Test.YtbjkgeenjjfpdaaDoorVp
import Derived.ChangeReads
import Derived.ChangeOld
import Derived.ChangeArms
set_option linter.all false
set_option autoImplicit true
namespace Go.Vi
open Go Go.RowKit
set_option linter.unusedVariables false

/-- All cells that are there. -/
def KAll (w : World) (b _ : Nat) : Prop := b < w.heap.size
structure CR (w : World) (cs : List Value) (D : DV) : Prop where
  len : cs.length = D.cells.length
  ic : ∀ e ∈ D.cells, e.isCell = true
  rel : ∀ (j : Nat) (u : Value) (e : DV), cs[j]? = some u → D.cells[j]? = some e → SRel (KAll w) w u e
/-- Whatever reads as data of a type is such a tree. -/
def Rds (P : Program) (w : World) (t : TypeId) (R : DV → Prop) : Prop :=
  ∀ {H : Type} (enc : TypeId × Value → H) (fuel : Nat) (cs : List Value) (x : DataW H × List MemPlace), DataW.trod enc P w 0 (fun _ => true) true fuel t cs = some x → ∃ D, CR w cs D ∧ R D

theorem cells_cell {d : DV} (h : d.isCell = true) : d.cells = [d] := by cases d <;> first | rfl | simp [DV.isCell] at h
theorem CR.cell {w : World} {v : Value} {D : DV} (hD : D.isCell = true) (h : SRel (KAll w) w v D) : CR w [v] D where
  len := by rw [cells_cell hD]; rfl
  ic e he := by rw [cells_cell hD] at he; simp at he; subst he; exact hD
  rel j u e hu he := by
    rw [cells_cell hD] at he
    cases j with
    | zero => simp at hu he; subst hu he; exact h
    | succ j => simp at hu

section
variable {P : Program} {w : World} {t : TypeId}
theorem rds_int {k : IntKind} (hu : P.underlying t = some (.int k)) : Rds P w t fun D => ∃ n, D = .int k n ∧ (Lit.int k n).wf = true := by
  intro H enc fuel cs x h
  obtain ⟨n, rfl, _, hw⟩ := DataW.trod_int hu h
  exact ⟨.int k n, .cell rfl (.int _ _), n, rfl, hw⟩
theorem rds_str (hu : P.underlying t = some .string) : Rds P w t fun D => ∃ l : List UInt8, D = .str l ∧ l.length ≤ maxLen := by
  intro H enc fuel cs x h
  obtain ⟨s, rfl, _, hw⟩ := DataW.trod_string hu h
  exact ⟨.str s.data.toList, .cell rfl (.str _), _, rfl, hw⟩
theorem rds_mono {R R' : DV → Prop} (h : Rds P w t R) (hR : ∀ D, R D → R' D) : Rds P w t R' := fun enc fuel cs x hx => by
  obtain ⟨D, h1, h2⟩ := h enc fuel cs x hx
  exact ⟨D, h1, hR D h2⟩
theorem rds_slice {e : TypeId} {R : DV → Prop} (hu : P.underlying t = some (.slice e)) (hsz : 0 < P.cellsOf e) (he : Rds P w e R) :
    Rds P w t fun D => ∃ xs, D = .sl 0 xs ∧ xs.length ≤ maxLen ∧ ∀ x ∈ xs, R x := by
  intro H enc fuel cs x h
  rcases DataW.trod_slice hu h with ⟨rfl, _⟩ | ⟨a, len, cap, elems, rest, n, rfl, rfl, _, _, hlc, hcm, hlen, hel, _, _⟩
  · exact ⟨.sl 0 [], .cell rfl (.sl (fun _ _ => undef) 0 0 0 rfl (Nat.le_refl _) (fun h => by omega) (by simp) (by simp) (by simp)), [], rfl, Nat.zero_le _, by simp⟩
  · -- each element
    have key : ∀ i : Nat, ∃ p : List Value × DV, i < len → (w.cells? 0 (a.add (i * P.cellsOf e)) (P.cellsOf e) = some p.1 ∧ CR w p.1 p.2 ∧ R p.2) := by
      intro i
      by_cases hi : i < len
      · have h1 := hel i hi
        rw [List.getElem?_eq_getElem (by omega)] at h1
        obtain ⟨ce, h2, h3⟩ := Option.bind_eq_some_iff.1 h1
        obtain ⟨D, h4, h5⟩ := he enc n ce _ h3
        exact ⟨(ce, D), fun _ => ⟨h2, h4, h5⟩⟩
      · exact ⟨([], .bool true), fun h => absurd h hi⟩
    obtain ⟨F, key3⟩ := Classical.axiomOfChoice key
    let xs : List DV := (List.range len).map fun i => (F i).2
    have hxs : ∀ i, i < len → xs[i]? = some ((F i).2) := fun i hi => by simp [xs, hi]
    have hxl : xs.length = len := by simp [xs]
    have hget : ∀ (i : Nat) (d : DV), xs[i]? = some d → i < len ∧ d = (F i).2 := fun i d h => by
      have hi : i < len := by rw [← hxl]; exact (List.getElem?_eq_some_iff.1 h).1
      rw [hxs i hi] at h
      exact ⟨hi, (Option.some.inj h).symm⟩
    have spot : 0 < len → a = ⟨a.block, a.off, none⟩ := by
      intro h0
      have h1 := (World.cells?_some (key3 0 h0).1).2.2 0 hsz
      simp only [Nat.zero_mul, Addr.add, if_true] at h1
      have hl := (World.cells?_some (key3 0 h0).1).2.1
      rw [List.getElem?_eq_getElem (by omega)] at h1
      obtain ⟨b, o, s⟩ := a
      cases s with
      | none => rfl
      | some s =>
        unfold World.cell? at h1
        split at h1 <;> simp at h1
    have block : ∀ i, i < len → a.block < w.heap.size := fun i hi => by
      have := World.cells?_block (key3 i hi).1 hsz
      unfold Addr.add at this
      split at this <;> exact this
    have cellAt : ∀ i j u, i < len → (F i).1[j]? = some u → w.cell? ⟨a.block, a.off + i * P.cellsOf e + j, none⟩ = some u := by
      intro i j u hi hu
      have hl := (World.cells?_some (key3 i hi).1).2.1
      have hj : j < P.cellsOf e := by rw [← hl]; exact (List.getElem?_eq_some_iff.1 hu).1
      have h1 := (World.cells?_some (key3 i hi).1).2.2 j hj
      rw [hu] at h1
      rw [← h1]
      congr 1
      have := spot (by omega)
      generalize P.cellsOf e = sz at *
      obtain ⟨b, o, s⟩ := a
      obtain rfl : s = none := by simpa using this
      simp only [Addr.add]
      by_cases h2 : i * sz = 0 <;> by_cases h3 : j = 0 <;> simp [h2, h3]
    refine ⟨.sl 0 xs, .cell rfl (.sl (fun i j => (w.cell? ⟨a.block, a.off + i * P.cellsOf e + j, none⟩).getD undef) a.block a.off (P.cellsOf e) hxl hlc (fun h => by rw [spot h]) ?_ ?_ ?_), xs, rfl, by omega, ?_⟩
    · intro i d hd
      obtain ⟨hi, rfl⟩ := hget i d hd
      obtain ⟨h1, h2, h3⟩ := key3 i hi
      exact ⟨by rw [← h2.len, (World.cells?_some h1).2.1], h2.ic⟩
    · intro i d j c hd hj
      obtain ⟨hi, rfl⟩ := hget i d hd
      obtain ⟨h1, h2, h3⟩ := key3 i hi
      have hjl : j < (F i).1.length := by rw [h2.len]; exact (List.getElem?_eq_some_iff.1 hj).1
      have := cellAt i j _ hi (List.getElem?_eq_getElem hjl)
      exact ⟨block i hi, by rw [this]; rfl⟩
    · intro i d j c hd hj
      obtain ⟨hi, rfl⟩ := hget i d hd
      obtain ⟨h1, h2, h3⟩ := key3 i hi
      have hjl : j < (F i).1.length := by rw [h2.len]; exact (List.getElem?_eq_some_iff.1 hj).1
      have := cellAt i j _ hi (List.getElem?_eq_getElem hjl)
      rw [this]
      exact h2.rel j _ c (List.getElem?_eq_getElem hjl) hj
    · intro x hx
      obtain ⟨i, hi, rfl⟩ := List.getElem_of_mem hx
      obtain ⟨h1, h2⟩ := hget i _ (List.getElem?_eq_getElem hi)
      rw [h2]
      exact (key3 i h1).2.2
/-- A struct, each field of one cell. -/
theorem rds_struct {fs : Array Field} (hu : P.underlying t = some (.struct fs)) (R : Nat → DV → Prop) (hc : P.cellsOf t = fs.size)
    (hf : ∀ (i : Nat) (f : Field), fs[i]? = some f → f.offset = i ∧ P.cellsOf f.type = 1 ∧ Rds P w f.type (R i) ∧ ∀ D, R i D → D.isCell = true) :
    Rds P w t fun D => ∃ ds, D = .agg ds ∧ ds.length = fs.size ∧ ∀ (i : Nat) (d : DV), ds[i]? = some d → R i d := by
  intro H enc fuel cs x h
  obtain ⟨xs, n, rfl, _, hl, hxl, hel⟩ := DataW.trod_struct hu h
  have key : ∀ i : Nat, ∃ D : DV, i < fs.size → ∃ v, cs[i]? = some v ∧ CR w [v] D ∧ R i D := by
    intro i
    by_cases hi : i < fs.size
    · obtain ⟨h1, h2, h3, h4⟩ := hf i fs[i] (Array.getElem?_eq_getElem hi)
      have h5 := hel i fs[i] (Array.getElem?_eq_getElem hi)
      rw [h1, h2, List.getElem?_eq_getElem (by omega)] at h5
      have hv : cs[i]? = some (cs[i]'(by omega)) := List.getElem?_eq_getElem (by omega)
      have h6 : (cs.drop i).take 1 = [cs[i]'(by omega)] := by
        rw [List.drop_eq_getElem_cons (by omega), List.take_succ_cons, List.take_zero]
      rw [h6] at h5
      obtain ⟨D, h7, h8⟩ := h3 enc n _ _ h5
      exact ⟨D, fun _ => ⟨_, hv, h7, h8⟩⟩
    · exact ⟨.bool true, fun h => absurd h hi⟩
  obtain ⟨F, hF⟩ := Classical.axiomOfChoice key
  have hg : ∀ (i : Nat) (d : DV), ((List.range fs.size).map F)[i]? = some d → i < fs.size ∧ d = F i := fun i d h => by
    have hi : i < fs.size := by have := (List.getElem?_eq_some_iff.1 h).1; simpa using this
    rw [List.getElem?_map, List.getElem?_range hi] at h
    exact ⟨hi, (Option.some.inj h).symm⟩
  refine ⟨.agg ((List.range fs.size).map F), ⟨by simp [DV.cells]; omega, fun e he => ?_, fun j u e hu' he => ?_⟩, _, rfl, by simp, fun i d hd => ?_⟩
  · obtain ⟨i, hi, rfl⟩ := List.getElem_of_mem he
    obtain ⟨h1, h2⟩ := hg i _ (List.getElem?_eq_getElem hi)
    rw [h2]
    obtain ⟨v, _, _, h3⟩ := hF i h1
    exact (hf i _ (Array.getElem?_eq_getElem h1)).2.2.2 _ h3
  · obtain ⟨h1, rfl⟩ := hg j e he
    obtain ⟨v, h2, h3, h4⟩ := hF j h1
    rw [hu'] at h2
    obtain rfl := Option.some.inj h2
    exact h3.rel 0 u _ rfl (by rw [cells_cell ((hf j _ (Array.getElem?_eq_getElem h1)).2.2.2 _ h4)]; rfl)
  · obtain ⟨h1, rfl⟩ := hg i d hd
    obtain ⟨v, _, _, h3⟩ := hF i h1
    exact h3
end

/-- A law whose contract says that it is true, called at arguments that read. -/
theorem law_calls {P : Program} {f : FuncId} {args : List AV} {vs : Array Value} {W : World} (ht : Tabs P W) (h : Spec P f args [] (.sh (.bool true)) []) (hs : vs.size = args.length)
    (ha : ∀ (i : Nat) (v : Value) (x : AV), vs[i]? = some v → args[i]? = some x → ∃ D, x = .sh D ∧ SRel (KAll W) W v D) :
    Calls P f vs W fun e W' => e = .returned (.bool true) ∧ Below W.heap.size W W' := by
  letI : Bnd := ⟨W.heap.size, W⟩
  haveI : BndP P := ⟨ht, rfl⟩
  let g : Gh := ⟨KAll W, fun _ => none, fun _ => 0, fun _ => ⟨0, 0, 0⟩, fun _ => False⟩
  have hp : Pre g W vs args [] :=
    { s1 := fun b q hq => (by cases hq), s2 := fun b q o hq => (by cases hq), s3 := fun b o hK => hK, sN := ⟨Nat.le_refl _, fun b q hq => (by cases hq), fun _ _ => rfl⟩
      size := hs, arg := fun i v x hv hx => by
        obtain ⟨D, rfl, hD⟩ := ha i v x hv hx
        exact .sh _ hD
      obj := fun id xs hx => (by cases hx), alive := fun id h => h.elim, s6 := fun b q o hq => (by cases hq) }
  refine (h.2 g W vs hp).mono fun e W' he => ?_
  obtain ⟨v, g', rfl, hpost, hst⟩ := he
  obtain rfl := hpost.res.inv_sh.inv_bool
  exact ⟨rfl, hst.os, hst.tape, hst.output, hst.size, fun b hb => hst.old b hb rfl⟩
end Go.Vi
