/- Taking what a slot owns out of it, and putting it elsewhere: the pure state and the machine's stay together. -/
import Derived.Test.YtbjkgeenjjfpdaaDoorVb
set_option linter.all false
set_option autoImplicit true
namespace Go.Vi
open Go Go.RowKit
variable [Bnd]

def Gh.re (g : Gh) (φ : List Nat → Option (List Nat)) : Gh := { g with ow := fun b => (g.ow b).bind φ }

theorem Stp.re (g : Gh) (w : World) (φ : List Nat → Option (List Nat)) : Stp g w (g.re φ) w :=
  ⟨rfl, rfl, rfl, Nat.le_refl _, fun _ _ _ => rfl, fun _ _ _ => rfl, fun _ _ h => h, fun _ _ h => .inl h, fun b h => .inr fun h0 => h (by simp [Gh.re, h0]), fun _ _ => rfl⟩

theorem re_some (g : Gh) : g.re some = g := by
  unfold Gh.re
  congr 1
  funext b
  cases g.ow b <;> rfl
theorem re_ow {g : Gh} {φ : List Nat → Option (List Nat)} {b : Nat} {q : List Nat} (h : (g.re φ).ow b = some q) : ∃ r, g.ow b = some r ∧ φ r = some q := by
  simp only [Gh.re] at h
  cases h' : g.ow b with
  | none => simp [h'] at h
  | some r => exact ⟨r, rfl, by simpa [h'] using h⟩
theorem re_of {g : Gh} {φ : List Nat → Option (List Nat)} {b : Nat} {q r : List Nat} (h : g.ow b = some q) (hφ : φ q = some r) : (g.re φ).ow b = some r := by simp [Gh.re, h, hφ]

/-- What stands at p stands at p' behind a renaming that takes the one to the other. -/
theorem ARel.re {g : Gh} {w : World} {φ : List Nat → Option (List Nat)} {p p' : List Nat} {v : Value} {x : AV} (h : ARel g w p v x) (hφ : ∀ q, φ (p ++ q) = some (p' ++ q)) : ARel (g.re φ) w p' v x :=
  ARel.mono (g := g) (g' := g.re φ) (fun _ _ h => h) (fun _ _ _ => rfl) (fun _ h => ⟨h, rfl⟩) h p' fun _ q hq => ⟨re_of hq (hφ q), rfl, rfl⟩
theorem ORel.re {g : Gh} {w : World} {φ : List Nat → Option (List Nat)} {p p' : List Nat} {v : Value} {x : DV} (h : ORel g w p v x) (hφ : ∀ q, φ (p ++ q) = some (p' ++ q)) : ORel (g.re φ) w p' v x :=
  ORel.mono (g := g) (g' := g.re φ) (fun _ _ h => h) (fun _ _ _ => rfl) h p' fun _ q hq => ⟨re_of hq (hφ q), rfl, rfl⟩
theorem ObRel.re {g : Gh} {w : World} {φ : List Nat → Option (List Nat)} {id : Nat} {xs : List DV} (h : ObRel g w id xs) (hφ : ∀ q, φ (1 :: id :: q) = some (1 :: id :: q)) : ObRel (g.re φ) w id xs := by
  obtain ⟨cur, e, h1, h2, h3, h4, h5, h6, h7⟩ := h.ex
  exact ⟨cur, e, re_of h1 (hφ []), h2, h3, h4, h5, h6, fun i d j e hi hj => (h7 i d j e hi hj).re fun q => hφ (i :: j :: q)⟩
theorem Sane.re {g : Gh} {w : World} (h : Sane g w) (φ : List Nat → Option (List Nat)) : Sane (g.re φ) w where
  s1 b q hq := by obtain ⟨r, hr, _⟩ := re_ow hq; exact h.s1 b r hr
  s2 b q o hq := by obtain ⟨r, hr, _⟩ := re_ow hq; exact h.s2 b r o hr
  s3 := h.s3
  sN := ⟨h.sN.1, fun b q hq => by obtain ⟨r, hr, _⟩ := re_ow hq; exact h.sN.2.1 b r hr, h.sN.2.2⟩

/-- One slot is filled anew; all else stands. -/
theorem Rel.fill {g : Gh} {s : St} {a : Act} {w : World} (R : Rel g s a w) (φ : List Nat → Option (List Nat)) (t : Nat) (v : Value) (y : AV)
    (h0 : ∀ i q, i ≠ t → φ (0 :: i :: q) = some (0 :: i :: q)) (h1 : ∀ id q, φ (1 :: id :: q) = some (1 :: id :: q)) (hy : ARel (g.re φ) w [0, t] v y) :
    Rel (g.re φ) { s with fr := s.fr.set t y } (a.put (some t) v) w where
  toSane := R.toSane.re φ
  size := by simp [Act.put, R.size]
  defers := R.defers
  slot i x hx := by
    rw [List.getElem?_set] at hx
    by_cases hi : t = i
    · subst hi
      simp only [if_true] at hx
      split at hx
      · rename_i hlt
        injection hx with hx
        subst hx
        have : t < a.tmps.size := by rw [← R.size]; exact hlt
        simpa [Act.put, this] using hy
      · cases hx
    · simp only [if_neg hi] at hx
      have := (R.slot i x hx).re (φ := φ) (p' := [0, i]) fun q => h0 i q (Ne.symm hi)
      simpa [Act.put, Array.getElem?_setIfInBounds_ne hi] using this
  obj id xs h := ⟨(R.obj id xs h).1, (R.obj id xs h).2.re (h1 id)⟩
  alive := R.alive
  s6 b q o hq := by obtain ⟨r, hr, _⟩ := re_ow hq; exact R.s6 b r o hr

theorem put_same (a : Act) (t : Nat) : a.put (some t) (a.tmps.getD t undef) = a := by
  unfold Act.put
  have : a.tmps.setIfInBounds t (a.tmps.getD t undef) = a.tmps := by
    apply Array.ext
    · simp
    · intro i h1 h2
      by_cases hi : t = i
      · subst hi; simp [h2]
      · exact Array.getElem_setIfInBounds_ne h2 hi
  simp only [this]

structure RelH (g : Gh) (s : St) (a : Act) (w : World) (H : List (Nat × Value × AV)) : Prop extends Rel g s a w where
  held : ∀ k v x, (k, v, x) ∈ H → ARel g w [2, k] v x

theorem scalar_orel (g : Gh) (w : World) (p : List Nat) {k : Nat} {v : Value} {d : DV} (h : scalar k v = some d) : ORel g w p v d ∧ d.isCell = true := by
  unfold scalar at h
  split at h <;> try (injection h with h; subst h)
  · exact ⟨.int .., rfl⟩
  · exact ⟨.bool .., rfl⟩
  · exact ⟨.str .., rfl⟩
  · exact ⟨.nil _ _, rfl⟩
  · cases h
theorem scalars_get : ∀ {ks : List Nat} {l : List Value} {m : List DV}, scalars ks l = some m → l.length = m.length ∧ ∀ (i : Nat) (e : DV), m[i]? = some e → e.isCell = true ∧ ∀ (g : Gh) (w : World) (p : List Nat), ORel g w p (l.getD i undef) e
  | ks, [], m, h => by simp [scalars] at h; subst h; simp
  | ks, x :: l, m, h => by
    simp only [scalars] at h
    split at h
    case h_2 => cases h
    rename_i d ds hd hds
    obtain rfl := Option.some.inj h
    obtain ⟨h1, h2⟩ := scalars_get hds
    refine ⟨by simp [h1], fun i e he => ?_⟩
    cases i with
    | zero =>
      simp at he
      subst he
      exact ⟨(scalar_orel default default [] hd).2, fun g w p => (scalar_orel g w p hd).1⟩
    | succ i => simpa using h2 i e (by simpa using he)

theorem mapM_get {α β : Type} {f : α → Option β} : ∀ {l : List α} {m : List β}, l.mapM f = some m → l.length = m.length ∧ ∀ (i : Nat) (x : α), l[i]? = some x → ∃ y, m[i]? = some y ∧ f x = some y
  | [], m, h => by simp at h; subst h; simp
  | x :: l, m, h => by
    simp only [List.mapM_cons, Option.pure_def, Option.bind_eq_bind, Option.bind_eq_some_iff, Option.some.injEq] at h
    obtain ⟨y, hy, m', hm, rfl⟩ := h
    obtain ⟨h1, h2⟩ := mapM_get hm
    refine ⟨by simp [h1], fun i z hz => ?_⟩
    cases i with
    | zero => simp at hz; subst hz; exact ⟨y, rfl, hy⟩
    | succ i => simpa using h2 i z (by simpa using hz)

theorem const_rel (g : Gh) (w : World) (p : List Nat) (k : Nat) (v : Value) : ARel g w p v (constAV k v) := by
  unfold constAV
  split
  · rename_i cs
    split
    · rename_i ds hds
      obtain ⟨h1, h2⟩ := scalars_get hds
      refine .ow (.agg (by simpa using h1) (fun e he => ?_) (fun j u e hu he => ?_))
      · obtain ⟨i, hi, rfl⟩ := List.getElem_of_mem he
        exact (h2 i _ (List.getElem?_eq_getElem hi)).1
      · have := (h2 j e he).2 g w (p ++ [j])
        have hu' : cs.toList.getD j undef = u := by simp [List.getD_eq_getElem?_getD, hu]
        rwa [hu'] at this
    · exact .undef _ _
  · exact .ow (.nil _ k)
  · rename_i hns
    split
    · rename_i d hd
      refine .sh _ ?_
      unfold scalar at hd
      split at hd <;> first | (injection hd with hd; subst hd) | cases hd
      · exact .int _ _
      · exact .bool _
      · exact .str _
      · exact absurd rfl hns
    · exact .undef _ _

omit [Bnd] in
theorem getD_get {s : St} {t : Nat} {x : AV} (h : s.fr.getD t .undef = x) (hx : x ≠ .undef) : s.fr[t]? = some x := by
  rw [List.getD_eq_getElem?_getD] at h
  cases h' : s.fr[t]? with
  | none => simp [h'] at h; exact absurd h.symm hx
  | some y => simpa [h'] using h

/-- What an operand is. -/
theorem Rel.raw {g : Gh} {s : St} {a : Act} {w : World} (R : Rel g s a w) (x : Operand) : ∃ p, ARel g w p (a.eval x) (s.raw x) := by
  cases x with
  | tmp t =>
    simp only [Act.eval, St.raw]
    cases h : s.fr[t]? with
    | none => exact ⟨[], by simpa [List.getD_eq_getElem?_getD, h] using ARel.undef _ _⟩
    | some y => exact ⟨[0, t], by simpa [List.getD_eq_getElem?_getD, h] using R.slot t y h⟩
  | const v => exact ⟨[], const_rel g w [] 0 v⟩
  | func f => exact ⟨[], .fn rfl (by simp) (by simp)⟩
  | global n => exact ⟨[], .undef _ _⟩
theorem Rel.rd {g : Gh} {s : St} {a : Act} {w : World} (R : Rel g s a w) (x : Operand) (p : List Nat) : ARel g w p (a.eval x) (s.rd x) := by
  obtain ⟨q, h⟩ := R.raw x
  exact h.plain R.s6 p

theorem RelH.take {g : Gh} {s : St} {a : Act} {w : World} {H : List (Nat × Value × AV)} (R : RelH g s a w H) (x : Operand) (k : Nat) (hk : ∀ y ∈ H, y.1 ≠ k) (hx : (s.raw x).isTup = false) :
    ∃ φ, RelH (g.re φ) (s.wrs (s.left x)) a w ((k, a.eval x, s.raw x) :: H) := by
  have easy : (s.raw x).plain = s.raw x → s.left x = [] → ∃ φ, RelH (g.re φ) (s.wrs (s.left x)) a w ((k, a.eval x, s.raw x) :: H) := by
    intro h1 h2
    refine ⟨some, ?_⟩
    rw [re_some]
    refine ⟨by rw [h2]; exact R.toRel, fun k' v' x' hm => ?_⟩
    rcases List.mem_cons.1 hm with hm | hm
    · injection hm with e1 e2
      injection e2 with e2 e3
      subst e1 e2 e3
      have := R.toRel.rd x [2, k']
      simpa [St.rd, h1] using this
    · exact R.held k' v' x' hm
  cases x with
  | tmp t =>
    cases hr : s.fr.getD t .undef with
    | ow d =>
      have hslot := R.slot t _ (getD_get hr (by simp))
      let φ : List Nat → Option (List Nat) := fun q => match q with
        | 0 :: i :: r => if i = t then some (2 :: k :: r) else some (0 :: i :: r)
        | 2 :: j :: r => if j = k then none else some (2 :: j :: r)
        | q => some q
      have hleft : s.left (.tmp t) = [.slot t (.sh d.strip)] := by simp only [St.left, hr]
      have hraw : s.raw (.tmp t) = .ow d := by simp only [St.raw, hr]
      refine ⟨φ, ⟨?_, fun k' v' x' hm => ?_⟩⟩
      · have hsh : ARel (g.re φ) w [0, t] (a.tmps.getD t undef) (.sh d.strip) := by
          exact .sh _ (hslot.inv_ow.view fun b q o hq => R.s6 b _ o hq).strip
        have := R.toRel.fill φ t (a.tmps.getD t undef) (.sh d.strip) (fun i q hi => by simp [φ, hi]) (fun id q => by simp [φ]) hsh
        rw [put_same] at this
        rw [hleft]
        exact this
      · rcases List.mem_cons.1 hm with hm | hm
        · injection hm with e1 e2
          injection e2 with e2 e3
          subst e1 e2 e3
          rw [hraw]
          exact hslot.re fun q => by simp [φ]
        · have hne : k' ≠ k := hk _ hm
          exact (R.held k' v' x' hm).re fun q => by simp [φ, hne]
    | tup l => simp only [St.raw, hr, AV.isTup] at hx; cases hx
    | undef => exact easy (by simp only [St.raw, hr, AV.plain]) (by simp only [St.left, hr])
    | gone => exact easy (by simp only [St.raw, hr, AV.plain]) (by simp only [St.left, hr])
    | sh d => exact easy (by simp only [St.raw, hr, AV.plain]) (by simp only [St.left, hr])
    | ptr id i j => exact easy (by simp only [St.raw, hr, AV.plain]) (by simp only [St.left, hr])
    | rp d j => exact easy (by simp only [St.raw, hr, AV.plain]) (by simp only [St.left, hr])
    | os id n k => exact easy (by simp only [St.raw, hr, AV.plain]) (by simp only [St.left, hr])
    | fn f l => exact easy (by simp only [St.raw, hr, AV.plain]) (by simp only [St.left, hr])
  | const v =>
    refine ⟨some, ?_⟩
    rw [re_some]
    refine ⟨R.toRel, fun k' v' x' hm => ?_⟩
    rcases List.mem_cons.1 hm with hm | hm
    · injection hm with e1 e2
      injection e2 with e2 e3
      subst e1 e2 e3
      exact const_rel g w _ _ _
    · exact R.held k' v' x' hm
  | func f => exact easy rfl rfl
  | global n => exact easy rfl rfl

theorem RelH.takeTup {g : Gh} {s : St} {a : Act} {w : World} {H : List (Nat × Value × AV)} (R : RelH g s a w H) (t : Nat) (k : Nat) (hk : ∀ y ∈ H, y.1 ≠ k) {l : List AV} (hr : s.fr.getD t .undef = .tup l) :
    ∃ φ, RelH (g.re φ) (s.wrs [.slot t .undef]) a w ((k, a.eval (.tmp t), .tup l) :: H) := by
  have hslot := R.slot t _ (getD_get hr (by simp))
  let φ : List Nat → Option (List Nat) := fun q => match q with
    | 0 :: i :: r => if i = t then some (2 :: k :: r) else some (0 :: i :: r)
    | 2 :: j :: r => if j = k then none else some (2 :: j :: r)
    | q => some q
  refine ⟨φ, ⟨?_, fun k' v' x' hm => ?_⟩⟩
  · have := R.toRel.fill φ t (a.tmps.getD t undef) .undef (fun i q hi => by simp [φ, hi]) (fun id q => by simp [φ]) (.undef _ _)
    rw [put_same] at this
    exact this
  · rcases List.mem_cons.1 hm with hm | hm
    · injection hm with e1 e2
      injection e2 with e2 e3
      subst e1 e2 e3
      exact hslot.re fun q => by simp [φ]
    · have hne : k' ≠ k := hk _ hm
      exact (R.held k' v' x' hm).re fun q => by simp [φ, hne]
theorem RelH.put {g : Gh} {s : St} {a : Act} {w : World} {H : List (Nat × Value × AV)} {k : Nat} {v : Value} {x : AV} (R : RelH g s a w ((k, v, x) :: H)) (hk : ∀ y ∈ H, y.1 ≠ k) (d : Option Nat) :
    ∃ φ, RelH (g.re φ) (s.wrs (wrDst d x)) (a.put d v) w H := by
  cases d with
  | none => exact ⟨some, by rw [re_some]; exact ⟨R.toRel, fun k' v' x' hm => R.held k' v' x' (List.mem_cons_of_mem _ hm)⟩⟩
  | some t =>
    let φ : List Nat → Option (List Nat) := fun q => match q with
      | 2 :: j :: r => if j = k then some (0 :: t :: r) else some (2 :: j :: r)
      | 0 :: i :: r => if i = t then none else some (0 :: i :: r)
      | q => some q
    refine ⟨φ, ⟨R.toRel.fill φ t v x (fun i q hi => by simp [φ, hi]) (fun id q => by simp [φ]) ((R.held k v x List.mem_cons_self).re fun q => by simp [φ]), fun k' v' x' hm => ?_⟩⟩
    have hne : k' ≠ k := hk _ hm
    exact (R.held k' v' x' (List.mem_cons_of_mem _ hm)).re fun q => by simp [φ, hne]

omit [Bnd] in
theorem wrs_append (s : St) (l m : List Wr) : s.wrs (l ++ m) = (s.wrs l).wrs m := by simp [St.wrs]

/-- A value that owns nothing is put into a slot. -/
theorem Rel.putFlat {g : Gh} {s : St} {a : Act} {w : World} (R : Rel g s a w) (d : Option Nat) {v : Value} {x : AV} (hx : ARel g w [2, 0] v x) : ∃ φ, Rel (g.re φ) (s.wrs (wrDst d x)) (a.put d v) w := by
  have RH : RelH g s a w [(0, v, x)] := ⟨R, fun k v' x' hm => by simp at hm; obtain ⟨rfl, rfl, rfl⟩ := hm; exact hx⟩
  obtain ⟨φ, h1⟩ := RH.put (by simp) d
  exact ⟨φ, h1.toRel⟩
theorem Rel.hold {g : Gh} {s : St} {a : Act} {w : World} (R : Rel g s a w) : RelH g s a w [] := ⟨R, fun _ _ _ h => by cases h⟩

end Go.Vi
