/- A region whose order is drawn: operations that are not ordered leave one another's places alone, so every order ends as the order of the text does. -/
import Derived.Test.YtbjkgeenjjfpdaaDoorVk
set_option linter.all false
set_option autoImplicit true
namespace Go.Vi
open Go Go.RowKit
set_option linter.unusedVariables false

/-- Two states agree at a place. -/
def At (σ s : St) (ℓ : Nat) : Prop := if ℓ % 2 = 0 then σ.fr[ℓ / 2]? = s.fr[ℓ / 2]? else getOb σ.ob (ℓ / 2) = getOb s.ob (ℓ / 2)
theorem At_slot {σ s : St} {t : Nat} : At σ s (2 * t) ↔ σ.fr[t]? = s.fr[t]? := by
  unfold At
  rw [if_pos (by omega), show 2 * t / 2 = t by omega]
theorem At_ob {σ s : St} {t : Nat} : At σ s (2 * t + 1) ↔ getOb σ.ob t = getOb s.ob t := by
  unfold At
  rw [if_neg (by omega), show (2 * t + 1) / 2 = t by omega]
theorem At.refl (s : St) (ℓ : Nat) : At s s ℓ := by unfold At; split <;> rfl
theorem At.trans {s t u : St} {ℓ : Nat} (h : At s t ℓ) (k : At t u ℓ) : At s u ℓ := by
  unfold At at *
  split
  · rename_i hl; rw [if_pos hl] at h k; exact h.trans k
  · rename_i hl; rw [if_neg hl] at h k; exact h.trans k
theorem At.wr {σ s : St} {ℓ : Nat} (h : At σ s ℓ) {x : Wr} (hx : x.isNew = false) : At (σ.wr x) (s.wr x) ℓ := by
  unfold At at *
  cases x with
  | new id xs => cases hx
  | slot d v =>
    simp only [St.wr]
    split
    · rename_i hl
      rw [if_pos hl] at h
      rw [List.getElem?_set, List.getElem?_set]
      by_cases hd : d = ℓ / 2
      · rw [if_pos hd, if_pos hd, hd]
        by_cases h1 : ℓ / 2 < σ.fr.length
        · have : ℓ / 2 < s.fr.length := by
            rw [List.getElem?_eq_getElem h1] at h
            exact (List.getElem?_eq_some_iff.1 h.symm).1
          rw [if_pos h1, if_pos this]
        · have : ¬ ℓ / 2 < s.fr.length := by
            intro h2
            rw [List.getElem?_eq_getElem h2, List.getElem?_eq_none (by omega)] at h
            cases h
          rw [if_neg h1, if_neg this]
      · rw [if_neg hd, if_neg hd]; exact h
    · rename_i hl; rw [if_neg hl] at h; exact h
  | set id xs =>
    simp only [St.wr]
    split
    · rename_i hl; rw [if_pos hl] at h; exact h
    · rename_i hl
      rw [if_neg hl] at h
      rw [getOb_setOb, getOb_setOb]
      split
      · rename_i hi; subst hi; rw [h]
      · exact h
theorem At.wrs {σ s : St} {ℓ : Nat} : ∀ {ws : List Wr}, At σ s ℓ → (∀ x ∈ ws, x.isNew = false) → At (σ.wrs ws) (s.wrs ws) ℓ := by
  intro ws
  induction ws generalizing σ s with
  | nil => exact fun h _ => h
  | cons x r ih => exact fun h hx => ih (h.wr (hx x (by simp))) fun y hy => hx y (by simp [hy])
theorem At_other {s : St} {ℓ : Nat} : ∀ {ws : List Wr}, (∀ x ∈ ws, x.isNew = false ∧ x.loc ≠ ℓ) → At (s.wrs ws) s ℓ := by
  intro ws
  induction ws generalizing s with
  | nil => exact fun _ => At.refl s ℓ
  | cons x r ih =>
    intro h
    refine At.trans (ih fun y hy => h y (by simp [hy])) ?_
    obtain ⟨h1, h2⟩ := h x (by simp)
    unfold At
    cases x with
    | new id xs => cases h1
    | slot d v =>
      simp only [Wr.loc] at h2
      simp only [St.wr]
      split
      · rw [List.getElem?_set, if_neg]; omega
      · trivial
    | set id xs =>
      simp only [Wr.loc] at h2
      simp only [St.wr]
      split
      · trivial
      · rw [getOb_setOb, if_neg]; omega

theorem Rel.congr [Bnd] {g : Gh} {σ s : St} {a : Act} {w : World} (R : Rel g σ a w) (h : ∀ ℓ, At σ s ℓ) : Rel g s a w := by
  have hfr : σ.fr = s.fr := List.ext_getElem? fun i => At_slot.1 (h (2 * i))
  have hob : ∀ id, getOb σ.ob id = getOb s.ob id := fun id => At_ob.1 (h (2 * id + 1))
  exact { s1 := R.s1, s2 := R.s2, s3 := R.s3, sN := R.sN, size := by rw [← hfr]; exact R.size, defers := R.defers, slot := fun i x hx => R.slot i x (by rw [hfr]; exact hx), obj := fun id xs hx => R.obj id xs (by rw [hob]; exact hx), alive := fun id hi => by rw [← hob]; exact R.alive id hi, s6 := R.s6 }

/-! ### what an operation looks at -/
/-- Two states agree at what an operand looks at. -/
structure Same (σ s : St) (x : Operand) : Prop where
  slot : ∀ t, x = .tmp t → σ.fr[t]? = s.fr[t]?
  ob : ∀ id ∈ (s.raw x).refsD, getOb σ.ob id = getOb s.ob id
theorem same_of {σ s : St} {x : Operand} (h : ∀ ℓ ∈ opLocs s x, At σ s ℓ) : Same σ s x where
  slot t ht := by subst ht; exact At_slot.1 (h _ (by simp [opLocs]))
  ob id hid := by
    cases x with
    | tmp t => exact At_ob.1 (h _ (by simp only [opLocs, List.mem_cons, List.mem_map]; exact .inr ⟨id, hid, rfl⟩))
    | const v =>
      simp only [St.raw] at hid
      have : (constAV 0 v).refsD = [] := by
        unfold constAV
        split
        · split <;> rfl
        · rfl
        · split <;> rfl
      rw [this] at hid; cases hid
    | func f => simp [St.raw, AV.refsD] at hid
    | global n => simp [St.raw, AV.refsD, AV.refs] at hid

section
variable {σ s : St} {x : Operand}
theorem Same.raw (h : Same σ s x) : σ.raw x = s.raw x := by
  cases x with
  | tmp t => simp only [St.raw, List.getD_eq_getElem?_getD, h.slot t rfl]
  | _ => rfl
theorem Same.rd (h : Same σ s x) : σ.rd x = s.rd x := by rw [St.rd, St.rd, h.raw]
theorem Same.left (h : Same σ s x) : σ.left x = s.left x := by
  cases x with
  | tmp t => simp only [St.left, List.getD_eq_getElem?_getD, h.slot t rfl]
  | _ => rfl
theorem Same.rawT (h : Same σ s x) (C : Cx) (t : TypeId) : σ.rawT C t x = s.rawT C t x := by
  cases x with
  | tmp t => exact h.raw
  | _ => rfl
/-- What a taken operand leaves is a slot alone. -/
theorem left_ok (s : St) (x : Operand) : ∀ y ∈ s.left x, ∃ t e, x = .tmp t ∧ y = .slot t (.sh e) := by
  cases x with
  | tmp t =>
    simp only [St.left]
    intro y hy
    split at hy
    · rename_i d _; simp at hy; exact ⟨t, d.strip, rfl, hy⟩
    · cases hy
  | _ => intro y hy; cases hy
theorem Same.wrs {y : Operand} (h : Same σ s y) {ws : List Wr} (hw : ∀ z ∈ ws, ∃ t e, z = .slot t (.sh e)) : Same (σ.wrs ws) (s.wrs ws) y := by
  induction ws generalizing σ s with
  | nil => exact h
  | cons z r ih =>
    obtain ⟨t, e, rfl⟩ := hw z (by simp)
    refine ih ⟨fun t' ht' => ?_, fun id hid => ?_⟩ fun z hz => hw z (by simp [hz])
    · exact At_slot.1 ((At_slot.2 (h.slot t' ht')).wr rfl)
    · show getOb σ.ob id = getOb s.ob id
      refine h.ob id ?_
      cases y with
      | tmp t' =>
        simp only [St.raw, St.wr, List.getD_eq_getElem?_getD, List.getElem?_set] at hid ⊢
        by_cases htt : t = t'
        · rw [if_pos htt] at hid
          split at hid
          · simp [AV.refsD, AV.refs] at hid
          · simp [AV.refsD, AV.refs] at hid
        · rw [if_neg htt] at hid; exact hid
      | _ => exact hid
theorem seq_same : ∀ (l : List Operand) {σ s : St}, (∀ y ∈ l, Same σ s y) → leftSeq σ l = leftSeq s l ∧ rawSeq σ l = rawSeq s l
  | [], _, _, _ => ⟨rfl, rfl⟩
  | x :: r, σ, s, h => by
    have hx := h x (by simp)
    have hw : ∀ z ∈ s.left x, ∃ t e, z = .slot t (.sh e) := fun z hz => by
      obtain ⟨t, e, _, h2⟩ := left_ok s x z hz
      exact ⟨t, e, h2⟩
    have ih := seq_same r (σ := σ.wrs (s.left x)) (s := s.wrs (s.left x)) fun y hy => (h y (by simp [hy])).wrs hw
    simp only [leftSeq, rawSeq, hx.left, hx.raw, ih.1, ih.2]
    exact ⟨trivial, trivial⟩
end

theorem eff_congr {C : Cx} {tk : Bool} {o : Oper} {σ s : St} {ws : List Wr} (h : ∀ x ∈ o.op.operands.toList, Same σ s x) (he : eff C tk o s = some ws) (hn : ∀ y ∈ ws, y.isNew = false) : eff C tk o σ = some ws := by
  obtain ⟨dst, op, ty, pos, after, guard⟩ := o
  simp only at h
  have get : ∀ {id : Nat} {x : Operand}, Same σ s x → id ∈ (s.raw x).refsD → getOb σ.ob id = getOb s.ob id := fun hx hid => hx.ob _ hid
  have refs_rd : ∀ {x : Operand} {id : Nat}, id ∈ (s.rd x).refs → id ∈ (s.raw x).refsD := by
    intro x id hid
    unfold St.rd at hid
    cases hr : s.raw x <;> rw [hr] at hid <;> simp [AV.plain, AV.refs, AV.refsD] at hid ⊢ <;> exact hid
  cases op
  case move x =>
    have hx := h x (by simp [Op.operands])
    simp only [eff, hx.raw, hx.rd, hx.left, hx.rawT] at he ⊢; exact he
  case assign x =>
    have hx := h x (by simp [Op.operands])
    simp only [eff, hx.raw, hx.left, hx.rawT] at he ⊢; exact he
  case pick c x y =>
    have hc := h c (by simp [Op.operands])
    have hx := h x (by simp [Op.operands])
    have hy := h y (by simp [Op.operands])
    simp only [eff, hc.rd] at he ⊢
    split at he
    · rename_i t ht
      cases t
      · simp only [Bool.false_eq_true, if_false, hy.rd] at he ⊢; exact he
      · simp only [if_true, hx.rd] at he ⊢; exact he
    · cases he
  case alloc t =>
    simp only [eff] at he
    split at he
    · split at he
      · obtain rfl := Option.some.inj he
        exfalso; simp [Wr.isNew, or_imp, forall_and] at hn
      · cases he
    · cases he
  case box t x =>
    simp only [eff] at he
    split at he
    · split at he
      · obtain rfl := Option.some.inj he
        exfalso; simp [Wr.isNew, or_imp, forall_and] at hn
      · cases he
    · cases he
  case makeSlice t l c =>
    simp only [eff] at he
    split at he
    · split at he
      · split at he
        · obtain rfl := Option.some.inj he
          exfalso; simp [Wr.isNew, or_imp, forall_and] at hn
        · cases he
      · cases he
    · cases he
  case build t parts =>
    have hs := seq_same (parts.toList.map (·.2)) fun y hy => h y (by simpa [Op.operands] using hy)
    simp only [eff, hs.1, hs.2] at he ⊢; exact he
  case buildSlice t n parts =>
    have hs := seq_same (parts.toList.map (·.2)) fun y hy => h y (by simpa [Op.operands] using hy)
    simp only [eff, hs.1, hs.2] at he ⊢; exact he
  case load t x =>
    have hx := h x (by simp [Op.operands])
    simp only [eff, hx.rd] at he ⊢
    split at he
    · rename_i htk
      rw [if_pos htk]
      split at he
      · rename_i id i j hr
        have hg : getOb σ.ob id = getOb s.ob id := get hx (refs_rd (by rw [hr]; simp [AV.refs]))
        simp only [hg]
        exact he
      · cases he
    · rename_i htk
      rw [if_neg htk]
      have : loadAV C t σ (s.rd x) = loadAV C t s (s.rd x) := by
        unfold loadAV
        split
        · rfl
        · rename_i id i j hr
          have hg : getOb σ.ob id = getOb s.ob id := get hx (refs_rd (by rw [hr]; simp [AV.refs]))
          rw [hg]
        · rfl
      rw [this]; exact he
  case store t x y =>
    have hx := h x (by simp [Op.operands])
    have hy := h y (by simp [Op.operands])
    simp only [eff, hx.rd, hy.raw, hy.left] at he ⊢
    split at he
    · rename_i id i j e ti hr _ _
      have hg : getOb σ.ob id = getOb s.ob id := get hx (refs_rd (by rw [hr]; simp [AV.refs]))
      simp only [hg]
      exact he
    · cases he
  case nilCheck x =>
    have hx := h x (by simp [Op.operands])
    simp only [eff, hx.rd] at he ⊢; exact he
  case binOp op t x y u =>
    have hx := h x (by simp [Op.operands])
    have hy := h y (by simp [Op.operands])
    simp only [eff, hx.rd, hy.rd] at he ⊢; exact he
  case unOp op t x =>
    have hx := h x (by simp [Op.operands])
    simp only [eff, hx.rd] at he ⊢; exact he
  case convert t u x =>
    have hx := h x (by simp [Op.operands])
    simp only [eff, hx.rd] at he ⊢; exact he
  case makeFunc f first captured =>
    have hm : captured.toList.map σ.rd = captured.toList.map s.rd := List.map_congr_left fun y hy => (h y (by simp only [Op.operands, Array.toList_append, List.mem_append]; exact .inr hy)).rd
    cases f <;> simp only [eff, hm] at he ⊢ <;> exact he
  case slice t x lo hi mx =>
    have hx := h x (by simp [Op.operands])
    cases mx with
    | some m => simp only [eff] at he; cases he
    | none =>
      cases lo with
      | none =>
        cases hi with
        | none => simp only [eff, hx.rd] at he ⊢; exact he
        | some b =>
          have hb := h b (by simp [Op.operands])
          simp only [eff, hx.rd, hb.rd] at he ⊢; exact he
      | some a =>
        have ha := h a (by simp [Op.operands])
        cases hi with
        | none => simp only [eff, hx.rd, ha.rd] at he ⊢; exact he
        | some b =>
          have hb := h b (by simp [Op.operands])
          simp only [eff, hx.rd, ha.rd, hb.rd] at he ⊢; exact he
  case fieldAddr t x f =>
    have hx := h x (by simp [Op.operands])
    simp only [eff, hx.rd] at he ⊢; exact he
  case indexAddr t x y =>
    have hx := h x (by simp [Op.operands])
    have hy := h y (by simp [Op.operands])
    simp only [eff, hx.rd, hy.rd] at he ⊢
    have : indexAV C t σ.ob (s.rd x) (s.rd y) = indexAV C t s.ob (s.rd x) (s.rd y) := by
      unfold indexAV
      split
      · rfl
      · rename_i id m kk k n _ hr _
        have hg : getOb σ.ob id = getOb s.ob id := get hx (refs_rd (by rw [hr]; simp [AV.refs]))
        rw [hg]
      · rfl
      · rfl
    rw [this]; exact he
  case index t x y =>
    have hx := h x (by simp [Op.operands])
    have hy := h y (by simp [Op.operands])
    simp only [eff, hx.rd, hy.rd] at he ⊢; exact he
  case extract x i =>
    have hx := h x (by simp [Op.operands])
    simp only [eff] at he ⊢
    split at he
    · rename_i t
      have := hx.raw
      simp only [St.raw] at this
      rw [this]; exact he
    · cases he
  case call c =>
    obtain ⟨callee, args, ats⟩ := c
    cases callee with
    | value f => simp only [eff] at he; cases he
    | invoke r m => simp only [eff] at he; cases he
    | builtin b =>
      have ha : ∀ x ∈ args.toList, Same σ s x := fun x hx => h x (by simpa [Op.operands, Call.operands] using hx)
      simp only [eff] at he ⊢
      unfold builtinEff at he ⊢
      split at he
      · rename_i x t hx ht
        have := ha x (by rw [hx]; simp)
        rw [this.rd]; exact he
      · rename_i x y t t' hx ht
        have h1 := ha x (by rw [hx]; simp)
        have h2 := ha y (by rw [hx]; simp)
        have hw : ∀ z ∈ s.left x, ∃ t e, z = .slot t (.sh e) := fun z hz => by
          obtain ⟨t, e, _, h2⟩ := left_ok s x z hz
          exact ⟨t, e, h2⟩
        have h3 := h2.wrs hw
        have happ : appendAV C t σ (s.raw x) ((s.wrs (s.left x)).raw y) = appendAV C t s (s.raw x) ((s.wrs (s.left x)).raw y) := by
          have : rowOf σ ((s.wrs (s.left x)).raw y) = rowOf s ((s.wrs (s.left x)).raw y) := by
            have hob := h3.ob
            rw [left_ob] at hob
            have hob2 : (σ.wrs (s.left x)).ob = σ.ob := by rw [← h1.left]; exact left_ob σ x
            rw [hob2] at hob
            unfold rowOf
            split
            · rfl
            · rfl
            · rename_i id n k hr
              rw [hob id (by rw [hr]; simp [AV.refsD, AV.refs])]
            · rfl
          unfold appendAV
          simp only [this]
        simp only [h1.left, h1.raw, h3.left, h3.raw, happ]
        exact he
      · have : args.toList.map σ.rd = args.toList.map s.rd := List.map_congr_left fun y hy => (ha y hy).rd
        rw [this]; exact he
      · have : args.toList.map σ.rd = args.toList.map s.rd := List.map_congr_left fun y hy => (ha y hy).rd
        rw [this]; exact he
      · cases he
  all_goals (simp only [eff] at he; cases he)

/-! ### one operation, wherever it stands -/
theorem arg_same : ∀ (l : List (Operand × Bool)) {σ s : St}, (∀ y ∈ l, Same σ s y.1) → argSeq σ l = argSeq s l ∧ argWr σ l = argWr s l
  | [], _, _, _ => ⟨rfl, rfl⟩
  | (x, true) :: r, σ, s, h => by
    have hx := h (x, true) (by simp)
    simp only at hx
    have hw : ∀ z ∈ s.left x, ∃ t e, z = .slot t (.sh e) := fun z hz => by
      obtain ⟨t, e, _, h2⟩ := left_ok s x z hz
      exact ⟨t, e, h2⟩
    have ih := arg_same r (σ := σ.wrs (s.left x)) (s := s.wrs (s.left x)) fun y hy => (h y (by simp [hy])).wrs hw
    simp only [argSeq, argWr, if_true, hx.left, hx.raw, ih.1, ih.2]
    exact ⟨trivial, trivial⟩
  | (x, false) :: r, σ, s, h => by
    have hx := h (x, false) (by simp)
    simp only at hx
    have ih := arg_same r (σ := σ) (s := s) fun y hy => h y (by simp [hy])
    simp only [argSeq, argWr, Bool.false_eq_true, if_false, hx.rd, ih.1, ih.2]
    exact ⟨trivial, trivial⟩
theorem obIn_same {ob ob2 : List (Nat × List DV)} : ∀ (ids : List (Nat × Nat)), (∀ p ∈ ids, getOb ob p.1 = getOb ob2 p.1) → obIn ids ob = obIn ids ob2
  | [], _ => rfl
  | (c, k) :: r, h => by
    have h1 := h (c, k) (by simp)
    simp only at h1
    simp only [obIn, h1, obIn_same r fun p hp => h p (by simp [hp])]
def obSets : List (Nat × Nat) → List (Nat × List DV) → List Wr
  | [], _ => []
  | (c, k) :: r, ob' => obSets r ob' ++ [.set c ((getOb ob' k).getD [])]
theorem back_sets {s : St} {ob' : List (Nat × List DV)} : ∀ {ids : List (Nat × Nat)}, (ids.all fun p => (getOb ob' p.2).isSome) = true → s.back ids ob' = s.wrs (obSets ids ob') := by
  intro ids h
  have key : ∀ (ids : List (Nat × Nat)), (ids.all fun p => (getOb ob' p.2).isSome) = true → s.wrs (obSets ids ob') = { s with ob := obOut ids s.ob ob' } := by
    intro ids
    induction ids with
    | nil => intro _; rfl
    | cons p r ih =>
      obtain ⟨c, k⟩ := p
      intro h
      simp only [List.all_cons, Bool.and_eq_true, Option.isSome_iff_exists] at h
      obtain ⟨⟨xs, hxs⟩, h2⟩ := h
      simp only [obSets, wrs_append, ih h2, obOut, hxs, Option.getD_some]
      rfl
  unfold St.back
  rw [if_pos h, key ids h]
theorem obSets_loc {ids : List (Nat × Nat)} {ob' : List (Nat × List DV)} : ∀ x ∈ obSets ids ob', x.isNew = false ∧ x.loc ∈ ids.map (fun p => 2 * p.1 + 1) := by
  induction ids with
  | nil => intro x hx; cases hx
  | cons p r ih =>
    obtain ⟨c, k⟩ := p
    intro x hx
    simp only [obSets, List.mem_append, List.mem_singleton] at hx
    rcases hx with hx | rfl
    · exact ⟨(ih x hx).1, List.mem_cons_of_mem _ (ih x hx).2⟩
    · exact ⟨rfl, List.mem_cons_self⟩
theorem argWr_slots : ∀ (l : List (Operand × Bool)) (s : St), ∀ x ∈ argWr s l, x.isNew = false
  | [], s, x, hx => by cases hx
  | (y, true) :: r, s, x, hx => by
    simp only [argWr, if_true, List.mem_append] at hx
    rcases hx with hx | hx
    · obtain ⟨_, _, _, rfl⟩ := left_ok s y x hx; rfl
    · exact argWr_slots r _ x hx
  | (y, false) :: r, s, x, hx => by
    simp only [argWr, Bool.false_eq_true, if_false] at hx
    exact argWr_slots r _ x hx
theorem wrDst_slots {d : Option Nat} {v : AV} : ∀ x ∈ wrDst d v, x.isNew = false := by
  intro x hx
  cases d with
  | none => cases hx
  | some d => simp only [wrDst, List.mem_singleton] at hx; subst hx; rfl

/-- From any state that agrees at its places, the operation writes the same. -/
def OpOk [Bnd] (P : Program) (ops : Array Oper) (Q : Exit → Act → World → Prop) (i : Nat) (s : St) (e : Ev) (ws : List Wr) : Prop :=
  (∀ x ∈ ws, x.isNew = false ∧ x.loc ∈ e.wr) ∧ ∀ σ, (∀ ℓ, ℓ ∈ e.rd ∨ ℓ ∈ e.wr → At σ s ℓ) → ∀ g a w, Rel g σ a w → ∀ next : Act → World → Prop,
    (∀ g' a' w', Rel g' (σ.wrs ws) a' w' → Stp g w g' w' → next a' w') → wpOp P ops Q i next a w

theorem zipF_mem {xs : List Operand} : ∀ {bs : List Bool} {p : Operand × Bool}, p ∈ zipF xs bs → p.1 ∈ xs := by
  intro bs p hp
  have := List.mem_map_of_mem (f := (·.1)) hp
  rwa [zipF_fst] at this

theorem opA_ok {P : Program} {an : An} {o : Oper} {gl : List Nat} {K : Ev → St → Prop} {s : St} (h : opA P an o gl K s) : ∃ e s1, K e s1 ∧ (∀ ℓ ∈ gl, ℓ ∈ e.rd) ∧
    (e.odd = false → ∃ ws, s1 = s.wrs ws ∧ (∀ x ∈ ws, x.isNew = false ∧ x.loc ∈ e.wr) ∧ ∀ σ, (∀ ℓ, ℓ ∈ e.rd ∨ ℓ ∈ e.wr → At σ s ℓ) → opA P an o gl (fun _ s' => s' = σ.wrs ws) σ) := by
  unfold opA at h
  split at h
  · rename_i s0 hs0
    have pre : ∀ {b : Bool}, (!an.plain || b) = false → an.pre = [] ∧ s0 = s := by
      intro b hb
      simp only [Bool.or_eq_false_iff, Bool.not_eq_false', An.plain, List.isEmpty_iff] at hb
      rw [hb.1] at hs0
      exact ⟨hb.1, (Option.some.inj hs0).symm⟩
    unfold opB at h
    split at h
    · rename_i f xs ats hop
      split at h
      · rename_i fid caps hf
        obtain ⟨h1, h2, h3, h4, r, ob', h5, h6, h7⟩ := h
        refine ⟨_, _, h7, fun ℓ hℓ => ?_, fun hodd => ?_⟩
        · simp only [evCall, List.mem_append]; exact .inl (.inl hℓ)
        · obtain ⟨hp, rfl⟩ := pre hodd
          have hall : (an.ids.all fun p => (getOb ob' p.2).isSome) = true := by
            simp only [evCall, Bool.or_eq_false_iff, Bool.not_eq_false'] at hodd; exact hodd.2
          refine ⟨argWr s0 (zipF xs.toList an.args) ++ (obSets an.ids ob' ++ wrDst o.dst r), ?_, fun x hx => ?_, fun σ hσ => ?_⟩
          · rw [back_sets hall, wrs_append, wrs_append]
          · simp only [List.mem_append] at hx
            simp only [evCall, List.mem_append, List.mem_map]
            rcases hx with hx | hx | hx
            · exact ⟨argWr_slots _ _ x hx, .inl ⟨x, .inl hx, rfl⟩⟩
            · obtain ⟨k1, k2⟩ := obSets_loc x hx
              exact ⟨k1, .inr (by simpa using k2)⟩
            · exact ⟨wrDst_slots x hx, .inl ⟨x, .inr hx, rfl⟩⟩
          · have hsame : ∀ x ∈ o.op.operands.toList, Same σ s0 x := fun x hx => same_of fun ℓ hℓ => hσ ℓ (.inl (by
              simp only [evCall, List.mem_append, List.mem_flatMap]; exact .inl (.inr ⟨x, hx, hℓ⟩)))
            have hfm : f ∈ o.op.operands.toList := by rw [hop]; simp [Op.operands, Call.operands]
            have hxm : ∀ x ∈ xs.toList, x ∈ o.op.operands.toList := fun x hx => by rw [hop]; simp only [Op.operands, Call.operands, Array.toList_append, List.mem_append]; exact .inr hx
            have hobs : ∀ p ∈ an.ids, getOb σ.ob p.1 = getOb s0.ob p.1 := fun p hp => At_ob.1 (hσ _ (.inl (by
              simp only [evCall, List.mem_append, List.mem_map]; exact .inr ⟨p, hp, rfl⟩)))
            obtain ⟨a1, a2⟩ := arg_same (σ := σ) (s := s0) (zipF xs.toList an.args) fun y hy => hsame _ (hxm _ (zipF_mem hy))
            unfold opA
            rw [hp]
            show opB P an o gl _ σ
            unfold opB
            rw [hop]
            simp only [(hsame f hfm).rd, hf]
            refine ⟨by rw [a1]; exact h1, by rw [a1]; exact h2, h3, ?_, r, ob', by rw [a1, obIn_same _ hobs]; exact h5, h6, ?_⟩
            · rw [List.all_eq_true] at h4 ⊢
              intro p hp
              rw [hobs p hp]; exact h4 p hp
            · simp only [a2]
              rw [back_sets hall, wrs_append, wrs_append]
      · exact h.elim
    · rename_i hnc
      split at h
      · rename_i ws hws
        refine ⟨_, _, h, fun ℓ hℓ => ?_, fun hodd => ?_⟩
        · simp only [evOf, List.mem_append]; exact .inl hℓ
        · obtain ⟨hp, rfl⟩ := pre hodd
          have hnew : ∀ x ∈ ws, x.isNew = false := by
            simp only [evOf, Bool.or_eq_false_iff] at hodd
            intro x hx
            have := List.any_eq_false.1 hodd.2 x hx
            simpa using this
          refine ⟨ws, rfl, fun x hx => ⟨hnew x hx, List.mem_map_of_mem hx⟩, fun σ hσ => ?_⟩
          have hsame : ∀ x ∈ o.op.operands.toList, Same σ s0 x := fun x hx => same_of fun ℓ hℓ => hσ ℓ (.inl (by
              simp only [evOf, List.mem_append, List.mem_flatMap]; exact .inr ⟨x, hx, hℓ⟩))
          have he := eff_congr hsame hws hnew
          unfold opA
          rw [hp]
          show opB P an o gl _ σ
          unfold opB
          split
          · rename_i f xs ats hop
            exact absurd hop (by intro hh; exact hnc _ _ _ hh)
          · rw [he]
      · exact h.elim
  · exact h.elim

theorem oneA_ok [Bnd] {P : Program} [BndP P] {an : An} {ops : Array Oper} {Q : Exit → Act → World → Prop} {i : Nat} {o : Oper} (hi : ops[i]? = some o) {K : Ev → St → Prop} {s : St} (h : oneA P an ops o K s) :
    ∃ e s1, K e s1 ∧ (e.odd = false → ∃ ws, s1 = s.wrs ws ∧ OpOk P ops Q i s e ws) := by
  have lift : ∀ {gl : List Nat} {e : Ev} {ws : List Wr}, (∀ x ∈ ws, x.isNew = false ∧ x.loc ∈ e.wr) → (∀ ℓ ∈ gl, ℓ ∈ e.rd) →
      (∀ σ, (∀ ℓ, ℓ ∈ e.rd ∨ ℓ ∈ e.wr → At σ s ℓ) → oneA P an ops o (fun _ s' => s' = σ.wrs ws) σ) → OpOk P ops Q i s e ws := by
    intro gl e ws h1 h2 h3
    refine ⟨h1, fun σ hσ g a w R next hn => oneA_sound R hi (h3 σ hσ) fun e' s' hs' g' a' w' R' S' => ?_⟩
    subst hs'
    exact hn _ _ _ R' S'
  unfold oneA at h
  split at h
  · rename_i hg
    obtain ⟨e, s1, h1, h2, h3⟩ := opA_ok h
    refine ⟨e, s1, h1, fun hodd => ?_⟩
    obtain ⟨ws, k1, k2, k3⟩ := h3 hodd
    exact ⟨ws, k1, lift k2 h2 fun σ hσ => by unfold oneA; rw [hg]; exact k3 σ hσ⟩
  · rename_i j want hg
    split at h
    · rename_i t ht
      have slotEq : ∀ {σ : St}, At σ s (2 * t) → σ.fr.getD t .undef = s.fr.getD t .undef := fun h => by
        simp only [List.getD_eq_getElem?_getD, At_slot.1 h]
      have skip : ∀ {hs : (∃ b, s.fr.getD t .undef = .sh (.bool b) ∧ b ≠ want) ∨ s.fr.getD t .undef = .gone}, OpOk P ops Q i s ⟨[2 * t], (wrDst o.dst .gone).map Wr.loc, false⟩ (wrDst o.dst .gone) := by
        intro hs
        refine lift (gl := []) (fun x hx => ⟨wrDst_slots x hx, List.mem_map_of_mem hx⟩) (by simp) fun σ hσ => ?_
        have := slotEq (hσ (2 * t) (.inl (by simp)))
        unfold oneA
        simp only [hg, ht, this]
        rcases hs with ⟨b, hb, hne⟩ | hb
        · simp only [hb, if_neg hne]
        · simp only [hb]
      split at h
      · rename_i b hb
        split at h
        · rename_i hbw
          obtain ⟨e, s1, h1, h2, h3⟩ := opA_ok h
          refine ⟨e, s1, h1, fun hodd => ?_⟩
          obtain ⟨ws, k1, k2, k3⟩ := h3 hodd
          refine ⟨ws, k1, lift k2 h2 fun σ hσ => ?_⟩
          have := slotEq (hσ (2 * t) (.inl (h2 _ (by simp))))
          unfold oneA
          simp only [hg, ht, this, hb, if_pos hbw]
          exact k3 σ hσ
        · rename_i hbw
          exact ⟨_, _, h, fun _ => ⟨_, rfl, skip (hs := .inl ⟨b, hb, hbw⟩)⟩⟩
      · rename_i hb
        exact ⟨_, _, h, fun _ => ⟨_, rfl, skip (hs := .inr hb)⟩⟩
      · exact h.elim
    · exact h.elim

/-! ### regions whose order is drawn: what no two operations may do to each other -/
def addAll (l : List Nat) : List Nat → List Nat
  | [] => l
  | x :: r => addAll (if l.contains x then l else x :: l) r
def ancOf (acc : List (List Nat)) : List Edge → List Nat → List Nat
  | [], l => l
  | e :: r, l => ancOf acc r (if Region.binds .any e then addAll l (e.on :: acc.getD e.on []) else l)
def ancGo : List Oper → List (List Nat) → List (List Nat)
  | [], acc => acc
  | o :: r, acc => ancGo r (acc ++ [ancOf acc o.after.toList []])
def apartE (e f : Ev) : Bool := !(e.wr.any (fun x => f.rd.contains x || f.wr.contains x) || f.wr.any (fun x => e.rd.contains x))
def noEv : Ev := ⟨[], [], true⟩
def indepGo (anc : List (List Nat)) (evs : List Ev) : Bool :=
  (List.range evs.length).all fun j => (List.range j).all fun i => (anc.getD j []).contains i || apartE (evs.getD i noEv) (evs.getD j noEv)
def lowEdges : Nat → List Oper → Bool
  | _, [] => true
  | n, o :: r => (o.after.toList.all fun e => !Region.binds .any e || decide (e.on < n)) && lowEdges (n + 1) r
def indep (ops : Array Oper) (evs : List Ev) : Bool := (evs.all fun e => !e.odd) && lowEdges 0 ops.toList && indepGo (ancGo ops.toList []) evs

theorem mem_addAll {x : Nat} : ∀ {r l : List Nat}, x ∈ addAll l r → x ∈ l ∨ x ∈ r
  | [], l, h => .inl h
  | y :: r, l, h => by
    rcases mem_addAll (r := r) h with h | h
    · split at h
      · exact .inl h
      · rcases List.mem_cons.1 h with rfl | h
        · exact .inr (by simp)
        · exact .inl h
    · exact .inr (by simp [h])
theorem mem_ancOf {acc : List (List Nat)} {i : Nat} : ∀ {es : List Edge} {l : List Nat}, i ∈ ancOf acc es l → i ∈ l ∨ ∃ e ∈ es, Region.binds .any e = true ∧ (i = e.on ∨ i ∈ acc.getD e.on [])
  | [], l, h => .inl h
  | e :: r, l, h => by
    rcases mem_ancOf (es := r) h with h | ⟨e', h1, h2⟩
    · split at h
      · rename_i hb
        rcases mem_addAll h with h | h
        · exact .inl h
        · rcases List.mem_cons.1 h with rfl | h
          · exact .inr ⟨e, by simp, hb, .inl rfl⟩
          · exact .inr ⟨e, by simp, hb, .inr h⟩
      · exact .inl h
    · exact .inr ⟨e', by simp [h1], h2⟩
/-- What stands in the closure is there by edges. -/
def AncOk (l : List Oper) (A : List (List Nat)) (k : Nat) : Prop := ∀ j, j < k → ∀ i ∈ A.getD j [], ∃ o, l[j]? = some o ∧ ∃ e ∈ o.after, Region.binds .any e = true ∧ (i = e.on ∨ (e.on < j ∧ i ∈ A.getD e.on []))
theorem ancGo_ok : ∀ (r : List Oper) (l : List Oper) (acc : List (List Nat)), l.drop acc.length = r → AncOk l acc acc.length → AncOk l (ancGo r acc) (acc.length + r.length) := by
  intro r
  induction r with
  | nil => intro l acc _ h; simpa [ancGo] using h
  | cons o r ih =>
    intro l acc hd h
    have ho : l[acc.length]? = some o := by
      have : (l.drop acc.length)[0]? = some o := by rw [hd]; rfl
      rw [List.getElem?_drop] at this
      simpa using this
    have hl : (acc ++ [ancOf acc o.after.toList []]).length = acc.length + 1 := by simp
    have := ih l (acc ++ [ancOf acc o.after.toList []]) (by rw [hl, ← List.drop_drop, hd]; rfl) (by
      rw [hl]
      have old : ∀ {j i}, i ∈ acc.getD j [] → j < acc.length ∧ i ∈ (acc ++ [ancOf acc o.after.toList []]).getD j [] := by
        intro j i hi
        by_cases hj : j < acc.length
        · refine ⟨hj, ?_⟩
          simpa [List.getD_eq_getElem?_getD, List.getElem?_append_left hj] using hi
        · simp [List.getD_eq_getElem?_getD, List.getElem?_eq_none (Nat.le_of_not_lt hj)] at hi
      intro j hj i hi
      by_cases hjl : j < acc.length
      · have hi' : i ∈ acc.getD j [] := by simpa [List.getD_eq_getElem?_getD, List.getElem?_append_left hjl] using hi
        obtain ⟨o', h1, e, h2, h3, h4⟩ := h j hjl i hi'
        refine ⟨o', h1, e, h2, h3, h4.imp id fun h5 => ⟨h5.1, (old h5.2).2⟩⟩
      · have hj' : j = acc.length := by omega
        subst hj'
        have hi' : i ∈ ancOf acc o.after.toList [] := by simpa [List.getD_eq_getElem?_getD] using hi
        rcases mem_ancOf hi' with h0 | ⟨e, h1, h2, h3⟩
        · cases h0
        · exact ⟨o, ho, e, by simpa using h1, h2, h3.imp id fun h5 => old h5⟩)
    rw [hl] at this
    simpa [ancGo, Nat.add_assoc, Nat.add_comm 1] using this
theorem lowEdges_ok : ∀ {l : List Oper} {n : Nat}, lowEdges n l = true → ∀ j o, l[j]? = some o → ∀ e ∈ o.after, Region.binds .any e = true → e.on < n + j
  | [], n, h, j, o, ho => by simp at ho
  | x :: r, n, h, 0, o, ho => by
    simp only [lowEdges, Bool.and_eq_true] at h
    obtain rfl : x = o := by simpa using ho
    intro e he hb
    have := List.all_eq_true.1 h.1 e (by simpa using he)
    simpa [hb] using this
  | x :: r, n, h, j + 1, o, ho => by
    simp only [lowEdges, Bool.and_eq_true] at h
    intro e he hb
    have := lowEdges_ok h.2 j o (by simpa using ho) e he hb
    omega

section
variable [Bnd] {P : Program} [BndP P] {ops : Array Oper} {Q : Exit → Act → World → Prop}

/-- A run in the order of the text, with what each step looked at and wrote. -/
structure Run (P : Program) (ops : Array Oper) (Q : Exit → Act → World → Prop) (k : Nat) (es : List Ev) (s s' : St) (st : Nat → St) (ws : Nat → List Wr) : Prop where
  first : st k = s
  last : st (k + es.length) = s'
  step : ∀ i, i < es.length → st (k + i + 1) = (st (k + i)).wrs (ws (k + i)) ∧ OpOk P ops Q (k + i) (st (k + i)) (es.getD i noEv) (ws (k + i))

theorem regA_run {T : Nat → An} {K : List Ev → St → Prop} : ∀ (l : List Oper) (n : Nat) (evs : List Ev) (s : St), ops.toList.drop n = l → regA P T ops K n l evs s →
    ∃ (es : List Ev) (s' : St), K (es.reverse ++ evs) s' ∧ es.length = l.length ∧ ((∀ e ∈ es, e.odd = false) → ∃ st ws, Run P ops Q n es s s' st ws)
  | [], n, evs, s, hd, h => ⟨[], s, h, rfl, fun _ => ⟨fun _ => s, fun _ => [], rfl, rfl, fun i hi => by simp at hi⟩⟩
  | o :: r, n, evs, s, hd, h => by
    rw [regA_cons] at h
    have ho : ops[n]? = some o := by
      have : (ops.toList.drop n)[0]? = some o := by rw [hd]; rfl
      rw [List.getElem?_drop] at this
      simpa using this
    have hd' : ops.toList.drop (n + 1) = r := by
      rw [← List.drop_drop, hd]; rfl
    obtain ⟨e, s1, h1, h2⟩ := oneA_ok (Q := Q) ho h
    obtain ⟨es, s', h3, h4, h5⟩ := regA_run r (n + 1) _ s1 hd' h1
    refine ⟨e :: es, s', by simpa using h3, by simp [h4], fun hodd => ?_⟩
    obtain ⟨w, hw1, hw2⟩ := h2 (hodd e (by simp))
    obtain ⟨st, ws, hr⟩ := h5 fun e' he' => hodd e' (by simp [he'])
    refine ⟨fun i => if i = n then s else st i, fun i => if i = n then w else ws i, by simp, ?_, fun i hi => ?_⟩
    · have := hr.last
      simp only [List.length_cons]
      rw [if_neg (by omega), ← this]
      congr 1; omega
    · cases i with
      | zero =>
        simp only [Nat.add_zero, if_true, List.getD_cons_zero]
        rw [if_neg (by omega), hr.first]
        exact ⟨hw1, hw2⟩
      | succ i =>
        have := hr.step i (by simpa using hi)
        simp only [List.getD_cons_succ]
        rw [if_neg (by omega), if_neg (by omega), if_neg (by omega)]
        rw [show n + (i + 1) = n + 1 + i by omega]
        exact this

theorem any_order {es : List Ev} {s s' : St} {st : Nat → St} {ws : Nat → List Wr} {g0 : Gh} {w0 : World} (hn : es.length = ops.size) (hr : Run P ops Q 0 es s s' st ws) (hi : indep ops es = true)
    (hQ : ∀ g a w, Rel g s' a w → Stp g0 w0 g w → Q .normal a w) :
    ∀ (fuel : Nat) (listed : Array Bool) (σ : St) (g : Gh) (a : Act) (w : World), listed.size = ops.size → ((List.range ops.size).filter fun i => !listed.getD i false).length ≤ fuel →
      (∀ j o, listed.getD j false = true → ops[j]? = some o → ∀ e ∈ o.after, Region.binds .any e = true → listed.getD e.on false = true) →
      (∀ ℓ m, m ≤ ops.size → (∀ i, m ≤ i → i < ops.size → listed.getD i false = true → ℓ ∉ (es.getD i noEv).wr) → (∀ i, i < m → ℓ ∈ (es.getD i noEv).wr → listed.getD i false = true) → At σ (st m) ℓ) →
      Rel g σ a w → Stp g0 w0 g w → wpAny P .any ops Q fuel listed a w := by
  simp only [indep, Bool.and_eq_true] at hi
  obtain ⟨⟨_, hlow⟩, hind⟩ := hi
  have hanc : AncOk ops.toList (ancGo ops.toList []) ops.size := by
    have := ancGo_ok ops.toList ops.toList [] rfl (fun j hj => by simp at hj)
    simpa using this
  have hpair : ∀ i j, i < j → j < ops.size → ∀ ℓ, (ℓ ∈ (es.getD i noEv).wr ∧ (ℓ ∈ (es.getD j noEv).rd ∨ ℓ ∈ (es.getD j noEv).wr)) ∨ (ℓ ∈ (es.getD j noEv).wr ∧ ℓ ∈ (es.getD i noEv).rd) → i ∈ (ancGo ops.toList []).getD j [] := by
    intro i j hij hj ℓ hℓ
    have h1 := List.all_eq_true.1 (List.all_eq_true.1 hind j (by simpa [hn] using hj)) i (by simpa using hij)
    simp only [Bool.or_eq_true, List.contains_iff_mem] at h1
    rcases h1 with h1 | h1
    · exact h1
    · exfalso
      simp only [apartE, Bool.not_eq_true', Bool.or_eq_false_iff, List.any_eq_false, Bool.or_eq_true, List.contains_iff_mem, not_or] at h1
      rcases hℓ with ⟨h2, h3⟩ | ⟨h2, h3⟩
      · rcases h3 with h3 | h3
        · exact (h1.1 ℓ h2).1 h3
        · exact (h1.1 ℓ h2).2 h3
      · exact h1.2 ℓ h2 h3
  have closed : ∀ (L : Nat → Prop), (∀ j o, L j → ops[j]? = some o → ∀ e ∈ o.after, Region.binds .any e = true → L e.on) → ∀ j, j < ops.size → (∀ o, ops[j]? = some o → ∀ e ∈ o.after, Region.binds .any e = true → L e.on) → ∀ i ∈ (ancGo ops.toList []).getD j [], L i := by
    intro L hL j
    induction j using Nat.strongRecOn with
    | _ j ih =>
      intro hj he i hi
      obtain ⟨o, ho, e, h1, h2, h3⟩ := hanc j hj i hi
      have ho' : ops[j]? = some o := by simpa using ho
      have hLe := he o ho' e h1 h2
      rcases h3 with rfl | ⟨h3, h4⟩
      · exact hLe
      · exact ih e.on h3 (by omega) (fun o' ho'' e' h5 h6 => hL e.on o' hLe ho'' e' h5 h6) i h4
  have hlow' : ∀ j o, ops[j]? = some o → ∀ e ∈ o.after, Region.binds .any e = true → e.on < j := fun j o ho e h1 h2 => by
    have := lowEdges_ok hlow j o (by simpa using ho) e h1 h2
    omega
  have st0 : ∀ i, i < ops.size → st (i + 1) = (st i).wrs (ws i) ∧ OpOk P ops Q i (st i) (es.getD i noEv) (ws i) := fun i hi => by
    have := hr.step i (by omega)
    simpa using this
  have stn : st ops.size = s' := by have := hr.last; simpa [hn] using this
  have getB : ∀ (l : Array Bool) (i : Nat), l.size = ops.size → i < ops.size → (l.getD i true = false ↔ ¬ l.getD i false = true) := by
    intro l i hl hi
    simp [hl, hi]
  have allReady : ∀ (listed : Array Bool), listed.size = ops.size → Region.ready .any ops listed = [] → ∀ i, i < ops.size → listed.getD i false = true := by
    intro listed hsz hrd i
    induction i using Nat.strongRecOn with
    | _ i ih =>
      intro hi
      by_cases h : listed.getD i false = true
      · exact h
      · exfalso
        have : i ∈ Region.ready .any ops listed := mem_ready.2 ⟨(getB _ _ hsz hi).2 h, ops[i], Array.getElem?_eq_getElem hi, fun e he hb => ih e.on (hlow' i _ (Array.getElem?_eq_getElem hi) e he hb) (by have := hlow' i _ (Array.getElem?_eq_getElem hi) e he hb; omega)⟩
        rw [hrd] at this; cases this
  intro fuel
  induction fuel with
  | zero =>
    intro listed σ g a w hsz hcnt hdc hinv R S
    have hall : ∀ i, i < ops.size → listed.getD i false = true := by
      intro i hi
      by_cases h : listed.getD i false = true
      · exact h
      · exfalso
        have : i ∈ (List.range ops.size).filter fun i => !listed.getD i false := by
          rw [List.mem_filter]; exact ⟨by simpa using hi, by simpa using h⟩
        have := List.length_pos_of_mem this
        omega
    refine ⟨?_, hQ g a w ?_ S⟩
    · cases hr' : Region.ready .any ops listed with
      | nil => rfl
      | cons i r =>
        exfalso
        have hm : i ∈ Region.ready .any ops listed := by rw [hr']; simp
        obtain ⟨h1, o, ho, _⟩ := mem_ready.1 hm
        have hi := (Array.getElem?_eq_some_iff.1 ho).1
        exact (getB _ _ hsz hi).1 h1 (hall i hi)
    · rw [← stn]
      exact R.congr fun ℓ => hinv ℓ ops.size (Nat.le_refl _) (fun i h1 h2 _ => by omega) fun i h1 _ => hall i h1
  | succ fuel ih =>
    intro listed σ g a w hsz hcnt hdc hinv R S
    refine ⟨fun hrd => ?_, fun j hj => ?_⟩
    · have hall := allReady listed hsz hrd
      refine hQ g a w ?_ S
      rw [← stn]
      exact R.congr fun ℓ => hinv ℓ ops.size (Nat.le_refl _) (fun i h1 h2 _ => by omega) fun i h1 _ => hall i h1
    · obtain ⟨h1, o, ho, hedge⟩ := mem_ready.1 hj
      have hjn := (Array.getElem?_eq_some_iff.1 ho).1
      have hnot := (getB _ _ hsz hjn).1 h1
      obtain ⟨hst, hloc, hok⟩ := st0 j hjn
      -- what is ahead of it in the order stands listed; what is behind it does not
      have ahead : ∀ i ∈ (ancGo ops.toList []).getD j [], listed.getD i false = true := closed _ hdc j hjn (fun o' ho' e he hb => by
        rw [ho] at ho'; obtain rfl := Option.some.inj ho'; exact hedge e he hb)
      have behind : ∀ i, i < ops.size → listed.getD i false = true → j ∉ (ancGo ops.toList []).getD i [] := fun i hi hL hmem =>
        hnot (closed (fun i => listed.getD i false = true) hdc i hi (fun o' ho' e he hb => hdc i o' hL ho' e he hb) j hmem)
      have agree : ∀ ℓ, ℓ ∈ (es.getD j noEv).rd ∨ ℓ ∈ (es.getD j noEv).wr → At σ (st j) ℓ := by
        intro ℓ hℓ
        refine hinv ℓ j (by omega) (fun i h2 h3 hL hw => ?_) (fun i h2 hw => ?_)
        · have hne : i ≠ j := fun e => hnot (e ▸ hL)
          refine behind i h3 hL (hpair j i (by omega) h3 ℓ ?_)
          rcases hℓ with hℓ | hℓ
          · exact .inr ⟨hw, hℓ⟩
          · exact .inl ⟨hℓ, .inr hw⟩
        · exact ahead i (hpair i j h2 hjn ℓ (.inl ⟨hw, hℓ⟩))
      refine hok σ agree g a w R _ fun g' a' w' R' S' => ?_
      have set_ne : ∀ {i : Nat} {d : Bool}, i ≠ j → (listed.setIfInBounds j true).getD i d = listed.getD i d := fun {i d} hne => getD_set_ne d (Ne.symm hne)
      have set_eq : ∀ {d : Bool}, (listed.setIfInBounds j true).getD j d = true := fun {d} => by simp [hsz, hjn]
      refine ih (listed.setIfInBounds j true) (σ.wrs (ws j)) g' a' w' (by simpa using hsz) ?_ ?_ ?_ R' (S.trans S')
      · have hlt : ((List.range ops.size).filter fun i => !(listed.setIfInBounds j true).getD i false).length < ((List.range ops.size).filter fun i => !listed.getD i false).length := by
          have hsub : ((List.range ops.size).filter fun i => !(listed.setIfInBounds j true).getD i false) = ((List.range ops.size).filter fun i => !listed.getD i false).filter fun i => !(i == j) := by
            rw [List.filter_filter]
            refine List.filter_congr fun i hi => ?_
            by_cases hij : i = j
            · subst hij; rw [set_eq]; simp
            · rw [set_ne hij]; simp [hij]
          rw [hsub]
          have hmem : j ∈ (List.range ops.size).filter fun i => !listed.getD i false := by
            rw [List.mem_filter]; exact ⟨by simpa using hjn, by simpa using hnot⟩
          exact List.length_filter_lt_length_iff_exists.2 ⟨j, hmem, by simp⟩
        omega
      · intro i o' hL ho' e he hb
        by_cases hij : i = j
        · subst hij
          rw [ho] at ho'; obtain rfl := Option.some.inj ho'
          have h2 := hedge e he hb
          have hne : e.on ≠ i := fun h => hnot (h ▸ h2)
          rw [set_ne hne]; exact h2
        · rw [set_ne hij] at hL
          have h2 := hdc i o' hL ho' e he hb
          have hne : e.on ≠ j := fun h => hnot (h ▸ h2)
          rw [set_ne hne]; exact h2
      · intro ℓ m hm hc1 hc2
        by_cases hw : ℓ ∈ (es.getD j noEv).wr
        · have hjm : j < m := by
            rcases Nat.lt_or_ge j m with h | h
            · exact h
            · exact absurd hw (hc1 j h hjn set_eq)
          have h3 : At (σ.wrs (ws j)) (st (j + 1)) ℓ := by
            rw [hst]
            exact (agree ℓ (.inr hw)).wrs fun x hx => (hloc x hx).1
          have h4 : ∀ d, j + 1 + d ≤ m → At (st (j + 1)) (st (j + 1 + d)) ℓ := by
            intro d
            induction d with
            | zero => intro _; exact At.refl _ _
            | succ d ihd =>
              intro hd
              have hk : j + 1 + d < ops.size := by omega
              obtain ⟨hst', hloc', _⟩ := st0 (j + 1 + d) hk
              refine (ihd (by omega)).trans ?_
              rw [show j + 1 + (d + 1) = j + 1 + d + 1 by omega, hst']
              have hnw : ℓ ∉ (es.getD (j + 1 + d) noEv).wr := by
                intro hw'
                have hL := hc2 (j + 1 + d) (by omega) hw'
                rw [set_ne (by omega)] at hL
                exact behind _ hk hL (hpair j _ (by omega) hk ℓ (.inl ⟨hw, .inr hw'⟩))
              have := At_other (s := st (j + 1 + d)) (ℓ := ℓ) (ws := ws (j + 1 + d)) fun x hx => ⟨(hloc' x hx).1, fun he => hnw (he ▸ (hloc' x hx).2)⟩
              unfold At at this ⊢
              split
              · rename_i hl; rw [if_pos hl] at this; exact this.symm
              · rename_i hl; rw [if_neg hl] at this; exact this.symm
          have := h4 (m - (j + 1)) (by omega)
          rw [show j + 1 + (m - (j + 1)) = m by omega] at this
          exact h3.trans this
        · have h3 : At (σ.wrs (ws j)) σ ℓ := At_other fun x hx => ⟨(hloc x hx).1, fun he => hw (he ▸ (hloc x hx).2)⟩
          refine h3.trans (hinv ℓ m hm (fun i h4 h5 hL => ?_) (fun i h4 hw' => ?_))
          · have hne : i ≠ j := fun e => hnot (e ▸ hL)
            exact hc1 i h4 h5 (by rw [set_ne hne]; exact hL)
          · have hne : i ≠ j := fun e => hw (e ▸ hw')
            have := hc2 i h4 hw'
            rwa [set_ne hne] at this

theorem region_any (hm : P.follows .mixedOrders = true) {T : Nat → An} {K : List Ev → St → Prop} {g : Gh} {s : St} {a : Act} {w : World} {id : Nat}
    (R : Rel g s a w) (h : regA P T ops K 0 ops.toList [] s) (hi : ∀ evs s', K evs s' → indep ops evs.reverse = true)
    (hQ : ∀ evs s' g' a' w', K evs s' → Rel g' s' a' w' → Stp g w g' w' → Q .normal a' w') : (Code.region id ops true).wp P Q a w := by
  obtain ⟨es, s', h1, h2, h3⟩ := regA_run (Q := Q) ops.toList 0 [] s rfl h
  rw [List.append_nil] at h1
  have hind := hi _ _ h1
  rw [List.reverse_reverse] at hind
  obtain ⟨st, ws, hr⟩ := h3 (fun e he => by
    simp only [indep, Bool.and_eq_true] at hind
    have := List.all_eq_true.1 hind.1.1 e he
    simpa using this)
  obtain ⟨RH, SH⟩ := R.hold.drew
  refine wp_region_any hm ?_
  refine any_order (g0 := g) (w0 := w) (s := s) (s' := s') (by rw [h2]; simp) hr hind (fun g' a' w' R' S' => hQ _ _ g' a' w' h1 R' S') ops.size _ s g a _ (by simp) ?_ ?_ ?_ RH.toRel SH
  · refine Nat.le_trans (List.length_filter_le _ _) (by simp)
  · intro j o hj
    by_cases hlt : j < ops.size
    · simp [hlt] at hj
    · simp [hlt] at hj
  · intro ℓ m hm _ hc2
    have : ∀ d, d ≤ m → At s (st d) ℓ := by
      intro d
      induction d with
      | zero => intro _; rw [hr.first]; exact At.refl _ _
      | succ d ih =>
        intro hd
        refine (ih (by omega)).trans ?_
        have hs := hr.step d (by rw [h2]; simp; omega)
        simp only [Nat.zero_add] at hs
        rw [hs.1]
        have hnw : ℓ ∉ (es.getD d noEv).wr := fun hw => by
          have := hc2 d (by omega) hw
          by_cases hlt : d < ops.size <;> simp [hlt] at this
        have := At_other (s := st d) (ℓ := ℓ) (ws := ws d) fun x hx => ⟨(hs.2.1 x hx).1, fun he => hnw (he ▸ (hs.2.1 x hx).2)⟩
        unfold At at this ⊢
        split
        · rename_i hl; rw [if_pos hl] at this; exact this.symm
        · rename_i hl; rw [if_neg hl] at this; exact this.symm
    exact this m (Nat.le_refl _)
end
end Go.Vi
