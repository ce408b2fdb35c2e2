/- What is known may be given up: slots forgotten, objects dropped, an object made a row that is owned. -/
import Derived.Test.YtbjkgeenjjfpdaaDoorVh
set_option linter.all false
set_option autoImplicit true
namespace Go.Vi
open Go Go.RowKit
set_option linter.unusedVariables false

def AV.ok1 (p : Nat → Bool) : AV → Bool
  | .ptr id _ _ => p id
  | .os id _ _ => p id
  | .tup _ => false
  | .fn _ _ => false
  | _ => true
def AV.okIds (p : Nat → Bool) : AV → Bool
  | .fn _ caps => caps.all (AV.ok1 p)
  | x => x.ok1 p

inductive Cv where
  | keep (ts ids : List Nat)
  | share (t : Nat)
  | freeze (t id k : Nat)

def keepAt (p : Nat → Bool) (ts : List Nat) : Nat → List AV → List AV
  | _, [] => []
  | i, x :: r => (if ts.contains i && x.okIds p then x else .undef) :: keepAt p ts (i + 1) r
def freezeAt (p : Nat → Bool) (t : Nat) (y : AV) : Nat → List AV → List AV
  | _, [] => []
  | i, x :: r => (if i = t then y else if x.okIds p then x else .undef) :: freezeAt p t y (i + 1) r
def keepOb (p : Nat → Bool) : List (Nat × List DV) → List (Nat × List DV)
  | [] => []
  | x :: r => if p x.1 then x :: keepOb p r else keepOb p r
def kept (ids : List Nat) (id : Nat) : Bool := decide (1000 ≤ id) || ids.contains id
def notId (id : Nat) (i : Nat) : Bool := !(i == id)

def St.cv (s : St) : Cv → Option St
  | .keep ts ids => some { fr := keepAt (kept ids) ts 0 s.fr, ob := keepOb (kept ids) s.ob }
  | .share t => match s.fr.getD t .undef with
    | .ow d => some { s with fr := s.fr.set t (.sh d.strip) }
    | _ => some s
  | .freeze t id k => match s.fr.getD t .undef, getOb s.ob id with
    | .os id' n k', some xs => if id' = id ∧ n = xs.length ∧ k' = k then
        some { fr := freezeAt (notId id) t (.ow (.sl k xs)) 0 s.fr, ob := keepOb (notId id) s.ob }
      else none
    | _, _ => none
def St.cvs (s : St) : List Cv → Option St
  | [] => some s
  | c :: r => (s.cv c).bind fun s' => s'.cvs r

theorem keepAt_get {p : Nat → Bool} {ts : List Nat} : ∀ {l : List AV} {n i : Nat} {y : AV}, (keepAt p ts n l)[i]? = some y → ∃ x, l[i]? = some x ∧ (y = .undef ∨ (y = x ∧ x.okIds p = true))
  | [], n, i, y, h => by simp [keepAt] at h
  | x :: r, n, 0, y, h => by
    simp only [keepAt, List.getElem?_cons_zero, Option.some.injEq] at h
    refine ⟨x, rfl, ?_⟩
    by_cases hc : (ts.contains n && x.okIds p) = true
    · rw [if_pos hc] at h; simp only [Bool.and_eq_true] at hc; exact .inr ⟨h.symm, hc.2⟩
    · rw [if_neg hc] at h; exact .inl h.symm
  | x :: r, n, i + 1, y, h => by
    simp only [keepAt, List.getElem?_cons_succ] at h ⊢
    exact keepAt_get h
theorem freezeAt_get {p : Nat → Bool} {t : Nat} {z : AV} : ∀ {l : List AV} {n i : Nat} {y : AV}, (freezeAt p t z n l)[i]? = some y → ∃ x, l[i]? = some x ∧ ((n + i = t ∧ y = z) ∨ (n + i ≠ t ∧ (y = .undef ∨ (y = x ∧ x.okIds p = true))))
  | [], n, i, y, h => by simp [freezeAt] at h
  | x :: r, n, 0, y, h => by
    simp only [freezeAt, List.getElem?_cons_zero, Option.some.injEq] at h
    refine ⟨x, rfl, ?_⟩
    by_cases hn : n = t
    · rw [if_pos hn] at h; exact .inl ⟨by simpa using hn, h.symm⟩
    · rw [if_neg hn] at h
      by_cases hc : x.okIds p = true
      · rw [if_pos hc] at h; exact .inr ⟨by simpa using hn, .inr ⟨h.symm, hc⟩⟩
      · rw [if_neg hc] at h; exact .inr ⟨by simpa using hn, .inl h.symm⟩
  | x :: r, n, i + 1, y, h => by
    simp only [freezeAt, List.getElem?_cons_succ] at h ⊢
    have := freezeAt_get h
    rwa [show n + 1 + i = n + (i + 1) by omega] at this
theorem keepAt_len {p : Nat → Bool} {ts : List Nat} : ∀ (n : Nat) (l : List AV), (keepAt p ts n l).length = l.length
  | _, [] => rfl
  | n, x :: r => by simp [keepAt, keepAt_len]
theorem freezeAt_len {p : Nat → Bool} {t : Nat} {z : AV} : ∀ (n : Nat) (l : List AV), (freezeAt p t z n l).length = l.length
  | _, [] => rfl
  | n, x :: r => by simp [freezeAt, freezeAt_len]
theorem getOb_keep {p : Nat → Bool} {id : Nat} : ∀ (l : List (Nat × List DV)), getOb (keepOb p l) id = if p id then getOb l id else none
  | [] => by simp [keepOb, getOb]
  | (k, xs) :: r => by
    have ih := getOb_keep (p := p) (id := id) r
    by_cases hk : k = id
    · subst hk
      by_cases hp : p k = true
      · simp [keepOb, getOb, hp]
      · simp only [Bool.not_eq_true] at hp; simp [keepOb, hp, ih]
    · by_cases hp : p k = true
      · simp [keepOb, getOb, hp, hk, ih]
      · simp only [Bool.not_eq_true] at hp; simp [keepOb, hp, getOb, hk, ih]

variable [Bnd]
theorem ARel.cut {g : Gh} {w : World} {q : List Nat} {v : Value} {x : AV} {al : Nat → Prop} {p : Nat → Bool} (h : ARel g w q v x) (hx : x.okIds p = true) (hal : ∀ id, g.al id → p id = true → al id) :
    ARel { g with al := al } w q v x := by
  have one : ∀ {q : List Nat} {v : Value} {x : AV}, ARel g w q v x → x.ok1 p = true → ARel { g with al := al } w q v x := by
    intro q v x h hx
    cases h with
    | undef q v => exact .undef _ _
    | gone q => exact .gone _
    | sh q h => exact .sh _ h
    | ow h => exact .ow (h.mono (g := g) (g' := { g with al := al }) (fun _ _ h => h) (fun _ _ _ => rfl) _ fun b q hq => ⟨hq, rfl, rfl⟩)
    | ptr q id i j h => exact ARel.ptr (g := { g with al := al }) _ id i j (hal id h hx)
    | rp q us hc hcell hr => exact .rp _ us hc hcell hr
    | os q id n h => exact ARel.os (g := { g with al := al }) _ id n (hal id h hx)
    | tup hs hr => simp [AV.ok1] at hx
    | fn hs hf hr => simp [AV.ok1] at hx
  cases h with
  | fn hs hf hr =>
    refine .fn hs hf fun i u x hu hx' => one (hr i u x hu hx') ?_
    exact List.all_eq_true.1 hx x (List.mem_of_getElem? hx')
  | undef q v => exact one (.undef _ _) hx
  | gone q => exact one (.gone _) hx
  | sh q h => exact one (.sh _ h) hx
  | ow h => exact one (.ow h) hx
  | ptr q id i j h => exact one (.ptr _ id i j h) hx
  | rp q us hc hcell hr => exact one (.rp _ us hc hcell hr) hx
  | os q id n h => exact one (.os _ id n h) hx
  | tup hs hr => simp [AV.okIds, AV.ok1] at hx

section
variable {g : Gh} {s s' : St} {a : Act} {w : World}

theorem Rel.keep (R : Rel g s a w) (ts ids : List Nat) : ∃ g', Rel g' { fr := keepAt (kept ids) ts 0 s.fr, ob := keepOb (kept ids) s.ob } a w ∧ Stp g w g' w := by
  refine ⟨{ g with al := fun id => g.al id ∧ kept ids id = true }, { s1 := R.s1, s2 := R.s2, s3 := R.s3, sN := R.sN, size := ?_, defers := R.defers, slot := ?_, obj := ?_, alive := ?_, s6 := R.s6 }, ?_⟩
  · simpa [keepAt_len] using R.size
  · intro i y hy
    obtain ⟨x, hx, h | ⟨rfl, hok⟩⟩ := keepAt_get hy
    · rw [h]; exact .undef _ _
    · exact (R.slot i y hx).cut hok fun id h1 h2 => ⟨h1, h2⟩
  · intro id xs h
    rw [getOb_keep] at h
    split at h
    · rename_i hk
      obtain ⟨h1, h2⟩ := R.obj id xs h
      refine ⟨⟨h1, hk⟩, ?_⟩
      obtain ⟨cur, e, c1, c2, c3, c4, c5, c6, c7⟩ := h2.ex
      exact ⟨cur, e, c1, c2, c3, c4, c5, c6, fun i d j e hi hj => ORel.mono (g := g) (g' := { g with al := fun id => g.al id ∧ kept ids id = true }) (fun _ _ h => h) (fun _ _ _ => rfl) (c7 i d j e hi hj) _ fun b q hq => ⟨hq, rfl, rfl⟩⟩
    · cases h
  · intro id h
    rw [getOb_keep, if_pos h.2]
    exact R.alive id h.1
  · exact ⟨rfl, rfl, rfl, Nat.le_refl _, fun _ _ _ => rfl, fun _ _ _ => rfl, fun _ _ h => h, fun _ _ h => .inl h, fun _ h => .inr h, fun _ _ => rfl⟩

theorem Rel.share (R : Rel g s a w) {t : Nat} {d : DV} (h : s.fr.getD t .undef = .ow d) : ∃ g', Rel g' { s with fr := s.fr.set t (.sh d.strip) } a w ∧ Stp g w g' w := by
  have hslot := R.slot t _ (getD_get h (by simp))
  let φ : List Nat → Option (List Nat) := fun q => match q with
    | 0 :: i :: r => if i = t then none else some (0 :: i :: r)
    | q => some q
  have := R.fill φ t (a.tmps.getD t undef) (.sh d.strip) (fun i q hi => by simp [φ, hi]) (fun id q => by simp [φ])
    (.sh _ (hslot.inv_ow.view fun b q o hq => R.s6 b _ o hq).strip)
  rw [put_same] at this
  exact ⟨_, this, Stp.re _ _ φ⟩

theorem Rel.freeze (R : Rel g s a w) {t id n k : Nat} {xs : List DV} (ht : s.fr.getD t .undef = .os id n k) (hob : getOb s.ob id = some xs) (hn : n = xs.length) :
    ∃ g', Rel g' { fr := freezeAt (notId id) t (.ow (.sl k xs)) 0 s.fr, ob := keepOb (notId id) s.ob } a w ∧ Stp g w g' w := by
  subst hn
  have hslot := R.slot t _ (getD_get ht (by simp))
  obtain ⟨hal, hv, hkk⟩ := hslot.inv_os
  obtain ⟨cur, e, c1, c2, c3, c4, c5, c6, c7⟩ := (R.obj id xs hob).2.ex
  generalize hB : (g.m id).1 = B at *
  let φ : List Nat → Option (List Nat) := fun q => match q with
    | 0 :: i :: r => if i = t then none else some (0 :: i :: r)
    | 1 :: j :: r => if j = id then some (0 :: t :: r) else some (1 :: j :: r)
    | q => some q
  let g' : Gh := { K := fun b o => g.K b o ∨ (b = B ∧ o < xs.length * k), ow := fun b => (g.ow b).bind φ, L := fun b => if b = B then xs.length * k else g.L b, m := g.m, al := fun i => g.al i ∧ notId id i = true }
  have hKK : ∀ b o, g.K b o → g'.K b o := fun b o h => .inl h
  have ow' : ∀ {b q}, g'.ow b = some q → ∃ r, g.ow b = some r ∧ φ r = some q := by
    intro b q h
    simp only [g'] at h
    cases h' : g.ow b with
    | none => simp [h'] at h
    | some r => exact ⟨r, rfl, by simpa [h'] using h⟩
  have owOf : ∀ {b q r}, g.ow b = some r → φ r = some q → g'.ow b = some q := by
    intro b q r h1 h2; simp [g', h1, h2]
  refine ⟨g', { s1 := ?_, s2 := ?_, s3 := ?_, sN := ⟨R.sN.1, fun b q hq => by obtain ⟨r, hr, _⟩ := ow' hq; exact R.sN.2.1 b r hr, R.sN.2.2⟩, size := ?_, defers := R.defers, slot := ?_, obj := ?_, alive := ?_, s6 := ?_ }, ?_⟩
  · intro b q hq
    obtain ⟨r, hr, _⟩ := ow' hq
    exact R.s1 b r hr
  · intro b q o hq hK
    obtain ⟨r, hr, _⟩ := ow' hq
    simp only [g'] at hK ⊢
    by_cases hb : b = B
    · subst hb
      simp only [if_true]
      rcases hK with hK | hK
      · have := R.s2 b r o hr hK
        omega
      · exact hK.2
    · simp only [if_neg hb]
      rcases hK with hK | hK
      · exact R.s2 b r o hr hK
      · exact absurd hK.1 hb
  · intro b o hK
    rcases hK with hK | hK
    · exact R.s3 b o hK
    · rw [hK.1]; exact R.s1 B _ c1
  · simpa [freezeAt_len] using R.size
  · intro i y hy
    obtain ⟨x, hx, ⟨hi, rfl⟩ | ⟨hi, h | ⟨rfl, hok⟩⟩⟩ := freezeAt_get hy
    · have hi : i = t := by omega
      subst hi
      rw [hv]
      refine .ow ?_
      refine ORel.sl (sz := k) (cur := cur) (e := e) (owOf c1 (by simp [φ])) c2 rfl c5.2.2.1 c5.2.2.2 (by rw [hkk]; exact c5.2.1) (by rw [hkk]; exact c4) (by simp [g']) (fun i d hi => ?_) (fun j d l e hj hl => ?_)
      · rw [hkk]; exact c6 i d hi
      · have h7 := c7 j d l e hj hl
        rw [← hkk] at h7
        refine h7.mono hKK (fun _ _ _ => rfl) _ fun b q hq => ⟨owOf hq (by simp [φ]), rfl, ?_⟩
        simp only [g']
        rw [if_neg]
        intro hb; rw [hb, c1] at hq; simp at hq
    · rw [h]; exact .undef _ _
    · have h1 := (R.slot i y hx).cut (al := g'.al) hok fun id h1 h2 => ⟨h1, h2⟩
      refine ARel.mono (g := { g with al := g'.al }) (g' := g') hKK (fun _ _ _ => rfl) (fun _ h => ⟨h, rfl⟩) h1 _ fun b q hq => ⟨owOf hq (by simp [φ]; omega), rfl, ?_⟩
      simp only [g']
      rw [if_neg]
      intro hb
      have hq' : g.ow b = some ([0, i] ++ q) := hq
      rw [hb, c1] at hq'; simp at hq'
  · intro i ys h
    rw [getOb_keep] at h
    split at h
    · rename_i hni
      have hne : i ≠ id := by simpa [notId] using hni
      obtain ⟨h1, h2⟩ := R.obj i ys h
      refine ⟨⟨h1, hni⟩, ?_⟩
      obtain ⟨cur, e, d1, d2, d3, d4, d5, d6, d7⟩ := h2.ex
      have hBB : (g.m i).1 ≠ B := by
        intro hb; rw [hb, c1] at d1; simp at d1; exact hne d1.symm
      refine ⟨cur, e, owOf d1 (by simp [φ, hne]), d2, by simpa [g', hBB] using d3, d4, d5, d6, fun j d l e hj hl => (d7 j d l e hj hl).mono hKK (fun _ _ _ => rfl) _ fun b q hq => ⟨owOf hq (by simp [φ, hne]), rfl, ?_⟩⟩
      simp only [g']
      rw [if_neg]
      intro hb
      rw [hb, c1] at hq; simp at hq
    · cases h
  · intro i h
    rw [getOb_keep, if_pos h.2]
    exact R.alive i h.1
  · intro b q o hq ho
    obtain ⟨r, hr, _⟩ := ow' hq
    simp only [g'] at ho ⊢
    by_cases hb : b = B
    · simp only [if_pos hb] at ho; exact .inr ⟨hb, ho⟩
    · simp only [if_neg hb] at ho; exact .inl (R.s6 b r o hr ho)
  · refine ⟨rfl, rfl, rfl, Nat.le_refl _, fun _ _ _ => rfl, fun _ _ _ => rfl, hKK, fun b o h => ?_, fun b h => .inr fun h0 => h (by simp [g', h0]), fun _ _ => rfl⟩
    · rcases h with h | ⟨rfl, _⟩
      · exact .inl h
      · exact .inr (.inr (by rw [c1]; simp))

theorem Rel.cv (R : Rel g s a w) {c : Cv} (h : s.cv c = some s') : ∃ g', Rel g' s' a w ∧ Stp g w g' w := by
  cases c with
  | keep ts ids =>
    obtain rfl := Option.some.inj h
    exact R.keep ts ids
  | share t =>
    simp only [St.cv] at h
    split at h
    · rename_i d hd
      obtain rfl := Option.some.inj h
      exact R.share hd
    · obtain rfl := Option.some.inj h
      exact ⟨g, R, Stp.refl _ _⟩
  | freeze t id k =>
    simp only [St.cv] at h
    split at h
    · rename_i id' n k' xs ht hob
      split at h
      · rename_i hc
        obtain ⟨rfl, h3, rfl⟩ := hc
        obtain rfl := Option.some.inj h
        exact R.freeze ht hob h3
      · cases h
    · cases h
theorem Rel.cvs : ∀ {l : List Cv} {g : Gh} {s s' : St}, Rel g s a w → s.cvs l = some s' → ∃ g', Rel g' s' a w ∧ Stp g w g' w
  | [], g, s, s', R, h => by obtain rfl := Option.some.inj h; exact ⟨g, R, Stp.refl _ _⟩
  | c :: r, g, s, s', R, h => by
    simp only [St.cvs] at h
    obtain ⟨s1, h1, h2⟩ := Option.bind_eq_some_iff.1 h
    obtain ⟨g1, R1, S1⟩ := R.cv h1
    obtain ⟨g2, R2, S2⟩ := R1.cvs h2
    exact ⟨g2, R2, S1.trans S2⟩

end
end Go.Vi
