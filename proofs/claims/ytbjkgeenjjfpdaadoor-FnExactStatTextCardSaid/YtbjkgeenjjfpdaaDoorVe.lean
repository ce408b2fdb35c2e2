/- New objects, and what is written into them. -/
import Derived.Test.YtbjkgeenjjfpdaaDoorVd
import Derived.Laws.MakeOwn
set_option linter.all false
set_option autoImplicit true
namespace Go.Vi
open Go Go.RowKit
variable [Bnd]
set_option linter.unusedVariables false

/-- A block more. -/
def Gh.new (g : Gh) (b : Nat) (pos : List Nat) (len : Nat) : Gh :=
  { g with ow := fun b' => if b' = b then some pos else g.ow b', L := fun b' => if b' = b then len else g.L b', K := fun b' o => g.K b' o ∨ (b' = b ∧ o < len) }
def Gh.ob (g : Gh) (id b sz c : Nat) : Gh :=
  { g with m := fun i => if i = id then ⟨b, sz, c⟩ else g.m i, al := fun i => i = id ∨ g.al i }

section
variable {P : Program} {g : Gh} {s : St} {a : Act} {w : World} {H : List (Nat × Value × AV)}

theorem cell_alloc (w : World) (o : Obj) {b i : Nat} (h : b < w.heap.size) : (w.alloc o).cell? ⟨b, i, none⟩ = w.cell? ⟨b, i, none⟩ :=
  World.cell?_of_block (w := w) (Below.heap_alloc w o b h)

theorem Stp.new (S : Sane g w) (o : Obj) (pos : List Nat) (len : Nat) : Stp g w (g.new w.heap.size pos len) (w.alloc o) where
  os := rfl
  tape := rfl
  output := rfl
  size := by simp
  old b hb _ := Below.heap_alloc w o b hb
  kept b o' h := cell_alloc w o (S.s3 b o' h)
  K b o' h := .inl h
  K' b o' h := by
    rcases h with h | ⟨h, _⟩
    · exact .inl h
    · exact .inr (.inl (by omega))
  own b h := by
    simp only [Gh.new] at h
    split at h
    · exact .inl (by omega)
    · exact .inr h
  m _ _ := rfl

theorem ARel.new (S : Sane g w) {p : List Nat} {v : Value} {x : AV} (h : ARel g w p v x) (o : Obj) (pos : List Nat) (len : Nat) : ARel (g.new w.heap.size pos len) (w.alloc o) p v x :=
  ARel.mono (g := g) (g' := g.new w.heap.size pos len) (fun _ _ h => .inl h) (fun b o' h => cell_alloc w o (S.s3 b o' h)) (fun _ h => ⟨h, rfl⟩) h p fun b q hq => by
    have := S.s1 b _ hq
    have hne : b ≠ w.heap.size := by omega
    exact ⟨by simp [Gh.new, hne, hq], Below.heap_alloc w o b this, by simp [Gh.new, hne]⟩
theorem ORel.new (S : Sane g w) {p : List Nat} {v : Value} {x : DV} (h : ORel g w p v x) (o : Obj) (pos : List Nat) (len : Nat) : ORel (g.new w.heap.size pos len) (w.alloc o) p v x :=
  ORel.mono (g := g) (g' := g.new w.heap.size pos len) (fun _ _ h => .inl h) (fun b o' h => cell_alloc w o (S.s3 b o' h)) h p fun b q hq => by
    have := S.s1 b _ hq
    have hne : b ≠ w.heap.size := by omega
    exact ⟨by simp [Gh.new, hne, hq], Below.heap_alloc w o b this, by simp [Gh.new, hne]⟩
theorem ObRel.new (S : Sane g w) {id : Nat} {xs : List DV} (h : ObRel g w id xs) (o : Obj) (pos : List Nat) (len : Nat) : ObRel (g.new w.heap.size pos len) (w.alloc o) id xs := by
  obtain ⟨cur, e, h1, h2, h3, h4, h5, h6, h7⟩ := h.ex
  have hlt := S.s1 _ _ h1
  have hne : (g.m id).1 ≠ w.heap.size := by omega
  exact ⟨cur, e, by simp [Gh.new, hne, h1], (Below.heap_alloc w o _ hlt).trans h2, by simp [Gh.new, hne, h3], h4, h5, h6, fun i d j e hi hj => (h7 i d j e hi hj).new S o pos len⟩
theorem Sane.new (S : Sane g w) (o : Obj) (pos : List Nat) (len : Nat) : Sane (g.new w.heap.size pos len) (w.alloc o) where
  s1 b q h := by
    simp only [Gh.new] at h
    have hs : (w.alloc o).heap.size = w.heap.size + 1 := by simp
    split at h
    · omega
    · have := S.s1 b q h; omega
  s2 b q o' h hK := by
    simp only [Gh.new] at h hK ⊢
    split
    · rename_i hb
      subst hb
      rcases hK with hK | hK
      · have := S.s3 _ _ hK; omega
      · exact hK.2
    · rename_i hb
      rw [if_neg hb] at h
      rcases hK with hK | hK
      · exact S.s2 b q o' h hK
      · exact absurd hK.1 hb
  s3 b o' h := by
    have hs : (w.alloc o).heap.size = w.heap.size + 1 := by simp
    rcases h with h | h
    · have := S.s3 b o' h; omega
    · omega
  sN := by
    refine ⟨?_, fun b q h => ?_, fun b hb => ?_⟩
    · have := S.sN.1
      have hs : (w.alloc o).heap.size = w.heap.size + 1 := by simp
      omega
    · simp only [Gh.new] at h
      split at h
      · rename_i hb; rw [hb]; exact S.sN.1
      · exact S.sN.2.1 b q h
    · rw [← S.sN.2.2 b hb]
      have hb' : b < w.heap.size := Nat.lt_of_lt_of_le hb S.sN.1
      show (w.heap.push o)[b]? = w.heap[b]?
      rw [Array.getElem?_push, if_neg (Nat.ne_of_lt hb')]

theorem Rel.new (R : Rel g s a w) (o : Obj) (pos : List Nat) (len : Nat) : Rel (g.new w.heap.size pos len) s a (w.alloc o) where
  toSane := R.toSane.new o pos len
  size := R.size
  defers := R.defers
  slot i x h := (R.slot i x h).new R.toSane o pos len
  obj id xs h := ⟨(R.obj id xs h).1, (R.obj id xs h).2.new R.toSane o pos len⟩
  alive := R.alive
  s6 b q o' h ho := by
    simp only [Gh.new] at h ho ⊢
    split at h
    · rename_i hb
      rw [if_pos hb] at ho
      exact .inr ⟨hb, ho⟩
    · rename_i hb
      rw [if_neg hb] at ho
      exact .inl (R.s6 b q o' h ho)

/-- Elements in a row of cells, each at its place. -/
structure Els (g : Gh) (w : World) (p : List Nat) (cur : Array Value) (sz : Nat) (xs : List DV) : Prop where
  size : cur.size = xs.length * sz
  len : ∀ (i : Nat) (d : DV), xs[i]? = some d → d.cells.length = sz ∧ ∀ e ∈ d.cells, e.isCell = true
  rel : ∀ (i : Nat) (d : DV) (j : Nat) (e : DV), xs[i]? = some d → d.cells[j]? = some e → ORel g w (p ++ [i, j]) (cur.getD (i * sz + j) undef) e

theorem Els.re {p p' : List Nat} {cur : Array Value} {sz : Nat} {xs : List DV} (h : Els g w p cur sz xs) {φ : List Nat → Option (List Nat)} (hφ : ∀ q, φ (p ++ q) = some (p' ++ q)) : Els (g.re φ) w p' cur sz xs :=
  ⟨h.size, h.len, fun i d j e hi hj => (h.rel i d j e hi hj).re fun q => by simpa using hφ ([i, j] ++ q)⟩
theorem Els.new (S : Sane g w) {p : List Nat} {cur : Array Value} {sz : Nat} {xs : List DV} (h : Els g w p cur sz xs) (o : Obj) (pos : List Nat) (len : Nat) : Els (g.new w.heap.size pos len) (w.alloc o) p cur sz xs :=
  ⟨h.size, h.len, fun i d j e hi hj => (h.rel i d j e hi hj).new S o pos len⟩

theorem ARel.dv {p : List Nat} {v : Value} {x : AV} {d : DV} (h : ARel g w p v x) (hd : x.dv = some d) : ORel g w p v d := by
  unfold AV.dv at hd
  split at hd
  · obtain rfl := Option.some.inj hd
    exact h.inv_sh.lock p
  · obtain rfl := Option.some.inj hd
    exact h.inv_ow
  · cases hd

def cpos (d : DV) (p : List Nat) (j : Nat) : List Nat := if d.isCell then p else p ++ [j]
theorem ORel.cellAt {p : List Nat} {v : Value} {d : DV} (h : ORel g w p v d) {j : Nat} {e : DV} (he : d.cells[j]? = some e) : ORel g w (cpos d p j) (v.cells.getD j undef) e := by
  cases d with
  | agg ds =>
    cases h with
    | @agg _ vs _ hs hc hr =>
      have hlt : j < vs.size := by rw [hs]; exact (List.getElem?_eq_some_iff.1 he).1
      have := hr j vs[j] e (Array.getElem?_eq_getElem hlt) he
      simpa [cpos, DV.isCell, Value.cells, hlt] using this
  | sl ex xs =>
    have h0 : j = 0 ∧ e = .sl ex xs := by
      cases j with
      | zero => simp [DV.cells] at he; exact ⟨rfl, he.symm⟩
      | succ j => simp [DV.cells] at he
    obtain ⟨rfl, rfl⟩ := h0
    have hv : v.cells.getD 0 undef = v := by cases h <;> first | rfl | (rename_i h; cases h; rfl)
    rw [hv]
    simpa [cpos, DV.isCell] using h
  | int k n =>
    have h0 : j = 0 ∧ e = .int k n := by
      cases j with
      | zero => simp [DV.cells] at he; exact ⟨rfl, he.symm⟩
      | succ j => simp [DV.cells] at he
    obtain ⟨rfl, rfl⟩ := h0
    cases h; exact .int _ _ _
  | bool b =>
    have h0 : j = 0 ∧ e = .bool b := by
      cases j with
      | zero => simp [DV.cells] at he; exact ⟨rfl, he.symm⟩
      | succ j => simp [DV.cells] at he
    obtain ⟨rfl, rfl⟩ := h0
    cases h; exact .bool _ _
  | str l =>
    have h0 : j = 0 ∧ e = .str l := by
      cases j with
      | zero => simp [DV.cells] at he; exact ⟨rfl, he.symm⟩
      | succ j => simp [DV.cells] at he
    obtain ⟨rfl, rfl⟩ := h0
    cases h; exact .str _ _

theorem ORel.oneCell {p : List Nat} {v : Value} {d : DV} (h : ORel g w p v d) (hc : d.isCell = true) : v.oneCell' = true := by
  cases h with
  | agg => simp [DV.isCell] at hc
  | lock p h => cases h; rfl
  | stab p h => cases h; rfl
  | _ => rfl

/-- Where the cells of what is held at k go, put as element i of what stands at P. -/
def place (c : Bool) (k : Nat) (P : List Nat) (i : Nat) : List Nat → List Nat := fun r => P ++ i :: (if c then 0 :: r else r)
theorem place_cpos (d : DV) (k : Nat) (P : List Nat) (i j : Nat) (q : List Nat) (hj : d.isCell = true → j = 0) : ∃ r, cpos d [2, k] j ++ q = 2 :: k :: r ∧ place d.isCell k P i r = P ++ [i, j] ++ q := by
  unfold cpos place
  cases hc : d.isCell with
  | true => exact ⟨q, by simp, by simp [hj hc]⟩
  | false => exact ⟨j :: q, by simp, by simp⟩

/-- An object more. -/
theorem Rel.addOb (R : Rel g s a w) (id b sz cp : Nat) (xs : List DV) (hn : getOb s.ob id = none) (h : ObRel (g.ob id b sz cp) w id xs) : Rel (g.ob id b sz cp) { s with ob := (id, xs) :: s.ob } a w := by
  have hal : ¬ g.al id := fun h => R.alive id h hn
  have hm : ∀ i, g.al i → (g.ob id b sz cp).al i ∧ (g.ob id b sz cp).m i = g.m i := by
    intro i hi
    have : i ≠ id := fun e => hal (e ▸ hi)
    exact ⟨.inr hi, by simp [Gh.ob, this]⟩
  refine ⟨⟨R.s1, R.s2, R.s3, R.sN⟩, R.size, R.defers, fun i x hx => ?_, fun i ys hi => ?_, fun i hi => ?_, R.s6⟩
  · exact ARel.mono (g := g) (g' := g.ob id b sz cp) (fun _ _ h => h) (fun _ _ _ => rfl) hm (R.slot i x hx) _ fun _ _ hq => ⟨hq, rfl, rfl⟩
  · simp only [getOb] at hi
    split at hi
    · rename_i he
      subst he
      obtain rfl := Option.some.inj hi
      exact ⟨.inl rfl, h⟩
    · rename_i he
      obtain ⟨h1, h2⟩ := R.obj i ys hi
      refine ⟨.inr h1, ?_⟩
      have hne : i ≠ id := fun e => he e.symm
      obtain ⟨cur, e, h1, h2, h3, h4, h5, h6, h7⟩ := h2.ex
      have em : (g.ob id b sz cp).m i = g.m i := by simp [Gh.ob, hne]
      refine ⟨cur, e, ?_⟩
      rw [em]
      exact ⟨h1, h2, h3, h4, h5, h6, fun i d j e hi hj => ORel.mono (g := g) (g' := g.ob id b sz cp) (fun _ _ h => h) (fun _ _ _ => rfl) (h7 i d j e hi hj) _ fun _ _ hq => ⟨hq, rfl, rfl⟩⟩
  · simp only [getOb]
    rcases hi with rfl | hi
    · simp
    · split
      · simp
      · exact R.alive i hi

theorem Stp.ob (g : Gh) (w : World) (id b sz cp : Nat) (hn : id < 1000) : Stp g w (g.ob id b sz cp) w :=
  ⟨rfl, rfl, rfl, Nat.le_refl _, fun _ _ _ => rfl, fun _ _ _ => rfl, fun _ _ h => h, fun _ _ h => .inl h, fun _ h => .inr h, fun i hi => by
    have : i ≠ id := by omega
    simp [Gh.ob, this]⟩

/-- A new block of cells becomes an object; its address goes into a slot. -/
theorem RelH.newOb (R : RelH g s a w H) (d : Nat) (hd : d < 1000) (hn : getOb s.ob d = none) (cur : Array Value) (T : TypeId) (sz : Nat) (xs : List DV) (hsz : 0 < sz) (hmax : xs.length ≤ maxLen) (r : Nat) (hr : ∀ y ∈ H, y.1 ≠ r) (hE : Els g w [2, r] cur sz xs)
    (v : Value) (x : AV) (hx : ∀ g' w', g'.al d → g'.m d = ⟨w.heap.size, sz, xs.length⟩ → ∀ p, ARel g' w' p v x) :
    ∃ g', Rel g' { fr := s.fr.set d x, ob := (d, xs) :: s.ob } (a.put (some d) v) (w.alloc (.cells cur T)) ∧ Stp g w g' (w.alloc (.cells cur T)) := by
  let g1 := g.new w.heap.size [1, d] 0
  have R1 := R.toRel.new (.cells cur T) [1, d] 0
  have E1 := hE.new R.toSane (.cells cur T) [1, d] 0
  let φ : List Nat → Option (List Nat) := fun q => match q with
    | 2 :: j :: q' => if j = r then some (1 :: d :: q') else none
    | q => some q
  have R2 := R1.fill φ s.fr.length undef .undef (fun i q hi => rfl) (fun id q => rfl) (.undef _ _)
  have E2 : Els (g1.re φ) (w.alloc (.cells cur T)) [1, d] cur sz xs := E1.re fun q => by simp [φ]
  have hfr : s.fr.set s.fr.length .undef = s.fr := List.set_eq_of_length_le (Nat.le_refl _)
  have hput : a.put (some s.fr.length) undef = a := by
    unfold Act.put
    have : a.tmps.setIfInBounds s.fr.length undef = a.tmps := by
      apply Array.ext
      · simp
      · intro i h1 h2
        exact Array.getElem_setIfInBounds_ne h2 (by have := R.size; omega)
    simp only [this]
  rw [hfr, hput] at R2
  have hO : ObRel ((g1.re φ).ob d w.heap.size sz xs.length) (w.alloc (.cells cur T)) d xs := by
    refine ⟨cur, T, ?_⟩
    have em : ((g1.re φ).ob d w.heap.size sz xs.length).m d = ⟨w.heap.size, sz, xs.length⟩ := by simp [Gh.ob]
    rw [em]
    refine ⟨by simp [Gh.ob, Gh.re, g1, Gh.new, φ], heap_alloc_new w _, by simp [Gh.ob, Gh.re, g1, Gh.new], hsz, ⟨Nat.le_of_eq hE.size.symm, hE.size, Nat.le_refl _, hmax⟩, hE.len, fun i e j f hi hj => ?_⟩
    have := E2.rel i e j f hi hj
    exact ORel.mono (g := g1.re φ) (g' := (g1.re φ).ob d w.heap.size sz xs.length) (fun _ _ h => h) (fun _ _ _ => rfl) this _ fun _ _ hq => ⟨hq, rfl, rfl⟩
  have R3 := R2.addOb d w.heap.size sz xs.length xs hn hO
  obtain ⟨ψ, h1⟩ := R3.putFlat (some d) (hx _ _ (Or.inl rfl) (by simp [Gh.ob]) _)
  exact ⟨_, h1, ((Stp.new R.toSane (.cells cur T) [1, d] 0).trans ((Stp.re _ _ φ).trans (Stp.ob _ _ d _ sz _ hd))).trans (Stp.re _ _ ψ)⟩

theorem put_far (a : Act) (n : Nat) (h : n = a.tmps.size) : a.put (some n) undef = a := by
  unfold Act.put
  have : a.tmps.setIfInBounds n undef = a.tmps := by
    apply Array.ext
    · simp
    · intro i h1 h2
      exact Array.getElem_setIfInBounds_ne h2 (by omega)
  simp only [this]
theorem Rel.re' (R : Rel g s a w) (φ : List Nat → Option (List Nat)) (h0 : ∀ i q, φ (0 :: i :: q) = some (0 :: i :: q)) (h1 : ∀ id q, φ (1 :: id :: q) = some (1 :: id :: q)) : Rel (g.re φ) s a w := by
  have R2 := R.fill φ s.fr.length undef .undef (fun i q hi => h0 i q) h1 (.undef _ _)
  have hfr : s.fr.set s.fr.length .undef = s.fr := List.set_eq_of_length_le (Nat.le_refl _)
  rw [hfr, put_far a _ R.size] at R2
  exact R2

/-- What is held at 0, as the one element of a row. -/
theorem RelH.toRow (R : RelH g s a w ((0, v, x) :: H)) (hH : ∀ y ∈ H, y.1 ≠ 0 ∧ y.1 ≠ 1) {e : DV} (he : x.dv = some e) : ∃ φ, RelH (g.re φ) s a w H ∧ Els (g.re φ) w [2, 1] v.cells e.cells.length [e] := by
  have ho := (R.held 0 v x List.mem_cons_self).dv he
  let φ : List Nat → Option (List Nat) := fun q => match q with
    | 2 :: j :: q' => if j = 0 then some (place e.isCell 0 [2, 1] 0 q') else if j = 1 then none else some (2 :: j :: q')
    | q => some q
  obtain ⟨hc1, hc2⟩ := ho.cellsOf
  refine ⟨φ, ⟨R.toRel.re' φ (fun _ _ => rfl) (fun _ _ => rfl), fun k' v' x' hm => ?_⟩, ⟨by simp [hc1], fun i d hi => ?_, fun i d j f hi hj => ?_⟩⟩
  · obtain ⟨h0, h1⟩ := hH _ hm
    exact (R.held k' v' x' (List.mem_cons_of_mem _ hm)).re fun q => by
      simp only at h0 h1
      simp [φ, h0, h1]
  · cases i with
    | zero => simp at hi; subst hi; exact ⟨rfl, hc2⟩
    | succ i => simp at hi
  · cases i with
    | succ i => simp at hi
    | zero =>
      simp at hi; subst hi
      have := ho.cellAt hj
      simp only [Nat.zero_mul, Nat.zero_add]
      refine this.re fun q => ?_
      obtain ⟨r, h1, h2⟩ := place_cpos e 0 [2, 1] 0 j q (fun hic => by
        rw [cells_of_isCell hic] at hj
        cases j with
        | zero => rfl
        | succ j => simp at hj)
      rw [h1]
      simp [φ, h2]

theorem zero_cells {ti : TI} {z : Value} (hz : ZeroOk z ti.zero) (hs : z.cells.size = ti.size) (hagg : isAggV z = ti.td.isAgg) :
    (elemOf ti ti.zero).cells.length = ti.size ∧ (∀ e ∈ (elemOf ti ti.zero).cells, e.isCell = true) ∧ ∀ (g : Gh) (w : World) (p : List Nat) (j : Nat) (e : DV), (elemOf ti ti.zero).cells[j]? = some e → ORel g w p (z.cells.getD j undef) e := by
  obtain ⟨h1, h2⟩ := hz
  have key : (elemOf ti ti.zero).cells = ti.zero := by
    unfold elemOf
    split
    · rfl
    · rename_i hna
      have : isAggV z = false := by rw [hagg]; simpa using hna
      have hzc : z.cells.size = 1 := by cases z <;> first | rfl | simp [isAggV] at this
      rw [hzc] at h1
      obtain ⟨d, hd⟩ := List.length_eq_one_iff.1 h1.symm
      rw [hd] at h2 ⊢
      exact cells_of_isCell (h2 0 d rfl).1
  rw [key]
  refine ⟨by omega, fun e he => ?_, fun g w p j e he => (h2 j e he).2 g w p⟩
  obtain ⟨k, hk, rfl⟩ := List.getElem_of_mem he
  exact (h2 k _ (List.getElem?_eq_getElem hk)).1

theorem zero_els {ti : TI} {z : Value} (hz : ZeroOk z ti.zero) (hs : z.cells.size = ti.size) (hagg : isAggV z = ti.td.isAgg) (hpos : 0 < ti.size) (g : Gh) (w : World) (p : List Nat) (n : Nat) :
    Els g w p (madeCells z.cells (n * ti.size)) ti.size (List.replicate n (elemOf ti ti.zero)) := by
  obtain ⟨h1, h2, h3⟩ := zero_cells hz hs hagg
  refine ⟨by simp [size_madeCells], fun i d hi => ?_, fun i d j e hi hj => ?_⟩
  · have := List.eq_of_mem_replicate (List.mem_of_getElem? hi)
    subst this
    exact ⟨h1, h2⟩
  · have hd := List.eq_of_mem_replicate (List.mem_of_getElem? hi)
    subst hd
    have hin : i < n := by have := (List.getElem?_eq_some_iff.1 hi).1; simpa using this
    have hjn : j < ti.size := by rw [← h1]; exact (List.getElem?_eq_some_iff.1 hj).1
    have hlt : i * ti.size + j < n * ti.size := by
      have : (i + 1) * ti.size ≤ n * ti.size := Nat.mul_le_mul_right _ hin
      rw [Nat.add_mul] at this; omega
    have hmod : (i * ti.size + j) % z.cells.size = j := by
      rw [hs, Nat.add_comm, Nat.add_mul_mod_self_right, Nat.mod_eq_of_lt hjn]
    have : (madeCells z.cells (n * ti.size)).getD (i * ti.size + j) undef = z.cells.getD j undef := by
      have hj2 : j < z.cells.size := by omega
      simp [madeCells, hlt, hmod, hj2]
    rw [this]
    exact h3 g w _ j e hj

/-! ### the operations that make an object -/
def Does (P : Program) (g : Gh) (s' : St) (a : Act) (w : World) (dst : Option Nat) (x : Sem Value) : Prop :=
  ∃ v w' g', x.run P w = .ok v w' ∧ Rel g' s' (a.put dst v) w' ∧ Stp g w g' w'

theorem ptr_new {d sz c : Nat} {b : Nat} : ∀ (g' : Gh) (w' : World), g'.al d → g'.m d = ⟨b, sz, c⟩ → ∀ p, ARel g' w' p (.pointer (some ⟨b, 0, none⟩)) (.ptr d 0 0) := by
  intro g' w' h1 h2 p
  have := ARel.ptr (g := g') (w := w') p d 0 0 h1
  rw [h2] at this
  simpa using this

theorem do_alloc (R : Rel g s a w) {t : TypeId} {ti : TI} (hti : mkC P t = some ti) (d : Nat) (hd : d < 1000) (hn : getOb s.ob d = none) (hpos : 0 < ti.size) :
    Does P g (s.wrs [.new d [elemOf ti ti.zero], .slot d (.ptr d 0 0)]) a w (some d) (Instr.alloc t true (.tuple #[])) := by
  obtain ⟨i, z, hi, hz, hzs, _, _, hsz, _, hagg, _⟩ := mkC_spec hti
  have hE := zero_els hzs hsz hagg hpos g w [2, 1] 1
  have hmade : madeCells z.cells (1 * ti.size) = z.cells := by
    rw [Nat.one_mul, ← hsz]
    apply Array.ext
    · simp [madeCells]
    · intro k h1 h2
      simp [madeCells, h2, Nat.mod_eq_of_lt h2]
  rw [hmade] at hE
  obtain ⟨g', h1, h2⟩ := R.hold.newOb d hd hn z.cells t ti.size [elemOf ti ti.zero] hpos (by simp [maxLen]) 1 (by simp) hE (.pointer (some ⟨w.heap.size, 0, none⟩)) (.ptr d 0 0) ptr_new
  exact ⟨_, _, g', by simp [Instr.alloc, zeroValue, typeInfo, hi, hz, newVar, newRow, pure], h1, h2⟩

theorem isTup_of_dv {x : AV} {e : DV} (h : x.dv = some e) : x.isTup = false := by cases x <;> first | rfl | simp [AV.dv] at h

omit [Bnd] in
theorem left_ob (s : St) (x : Operand) : (s.wrs (s.left x)).ob = s.ob := by
  unfold St.left
  split
  · split <;> rfl
  · rfl

theorem do_box (R : Rel g s a w) {t : TypeId} {ti : TI} (hti : mkC P t = some ti) (d : Nat) (hd : d < 1000) (x : Operand) {e : DV} (hn : getOb s.ob d = none) (he : (s.raw x).dv = some e) (hlen : e.cells.length = ti.size) (hpos : 0 < ti.size) :
    Does P g (s.wrs (s.left x ++ [.new d [e], .slot d (.ptr d 0 0)])) a w (some d) (Instr.box t (a.eval x)) := by
  obtain ⟨φ, R1⟩ := R.hold.take x 0 (by simp) (isTup_of_dv he)
  obtain ⟨ψ, R2, E2⟩ := R1.toRow (by simp) he
  obtain ⟨g', h1, h2⟩ := R2.newOb d hd (by rw [left_ob]; exact hn) (a.eval x).cells t e.cells.length [e] (by omega) (by simp [maxLen]) 1 (by simp) E2 (.pointer (some ⟨w.heap.size, 0, none⟩)) (.ptr d 0 0) ptr_new
  refine ⟨.pointer (some ⟨w.heap.size, 0, none⟩), w.alloc (.cells (a.eval x).cells t), g', by simp [Instr.box, newVar, newRow, pure], ?_, ((Stp.re _ _ φ).trans (Stp.re _ _ ψ)).trans h2⟩
  rw [wrs_append]
  exact h1

theorem do_make (R : Rel g s a w) {t e : TypeId} {ti te : TI} (hti : mkC P t = some ti) (htd : ti.td = .slice e) (hte : mkC P e = some te) (d : Nat) (hd : d < 1000) {n : Int} {k k' : IntKind} (hn : getOb s.ob d = none) (h0 : 0 ≤ n) (hpos : 0 < te.size)
    (hb : (te.bytes : Int) * n ≤ 281474976710656) (hm : n ≤ 9223372036854775807) :
    Does P g (s.wrs [.new d (List.replicate n.toNat (elemOf te te.zero)), .slot d (.os d n.toNat te.size)]) a w (some d) (Instr.makeSlice t (.int k n) (.int k' n)) := by
  have hu := mkC_td hti
  rw [htd] at hu
  simp only [tdOk] at hu
  obtain ⟨i, z, hi, hz, hzs, hs1, hb1, hsz, _, hagg, _⟩ := mkC_spec hte
  have hE := zero_els hzs hsz hagg hpos g w [2, 1] n.toNat
  obtain ⟨g', h1, h2⟩ := R.hold.newOb d hd hn (madeCells z.cells (n.toNat * te.size)) e te.size (List.replicate n.toNat (elemOf te te.zero)) hpos (by simp [maxLen]; omega) 1 (by simp) hE (.slice (some ⟨w.heap.size, 0, none⟩) n.toNat n.toNat) (.os d n.toNat te.size)
    (fun g' w' h1 h2 p => by
      have := ARel.os (g := g') (w := w') p d n.toNat h1
      rw [h2] at this; simpa using this)
  refine ⟨_, _, g', ?_, h1, h2⟩
  have := run_make (P := P) w t e i z hu hi hz k k' n n h0 (Int.le_refl _) (by rw [hb1]; exact hb) hm
  rw [hs1] at this
  exact this

/-- The cells of an object, some of them written. -/
theorem putPart_spec {d e d' : DV} {j : Nat} (h : putPart d j e = some d') (hd : ∀ c ∈ d.cells, c.isCell = true) (he : ∀ c ∈ e.cells, c.isCell = true) :
    d'.cells.length = d.cells.length ∧ j + e.cells.length ≤ d.cells.length ∧ (∀ c ∈ d'.cells, c.isCell = true) ∧
    (∀ k c, d'.cells[k]? = some c → (k < j ∨ j + e.cells.length ≤ k → d.cells[k]? = some c) ∧ (j ≤ k → k < j + e.cells.length → e.cells[k - j]? = some c)) := by
  have single : ∀ (cs : List DV) (c : DV), c.isCell = true → d = .agg cs → e = c → j < cs.length → d' = .agg (cs.set j c) → _ := fun cs c hc hd' he' hj hdd => show (d'.cells.length = d.cells.length ∧ j + e.cells.length ≤ d.cells.length ∧ (∀ c ∈ d'.cells, c.isCell = true) ∧
    (∀ k c, d'.cells[k]? = some c → (k < j ∨ j + e.cells.length ≤ k → d.cells[k]? = some c) ∧ (j ≤ k → k < j + e.cells.length → e.cells[k - j]? = some c))) from by
      subst hd' he' hdd
      rw [cells_of_isCell hc] at *
      refine ⟨by simp [DV.cells], by simp [DV.cells]; omega, fun x hx => ?_, fun k x hx => ⟨fun hk => ?_, fun h1 h2 => ?_⟩⟩
      · rcases List.mem_or_eq_of_mem_set hx with hx | rfl
        · exact hd x hx
        · exact hc
      · simp only [DV.cells, List.length_singleton] at hx hk ⊢
        rw [List.getElem?_set] at hx
        rw [if_neg (by omega)] at hx
        exact hx
      · simp only [DV.cells, List.length_singleton] at hx h2 ⊢
        have : k = j := by omega
        subst this
        rw [List.getElem?_set, if_pos rfl, if_pos hj] at hx
        simpa using hx
  have agg_of : ∀ x : DV, x.isCell = false → ∃ cs, x = .agg cs := by
    intro x hx
    cases x <;> first | exact ⟨_, rfl⟩ | simp [DV.isCell] at hx
  cases hec : e.isCell with
  | true =>
    cases hdc : d.isCell with
    | true =>
      have : putPart d j e = if j = 0 then some e else none := by
        cases d <;> cases e <;> first | rfl | simp [DV.isCell] at hdc hec
      rw [this] at h
      split at h
      case isFalse => cases h
      rename_i hj
      obtain rfl := Option.some.inj h
      subst hj
      rw [cells_of_isCell hdc, cells_of_isCell hec]
      refine ⟨rfl, by simp, fun c hc => by simp at hc; subst hc; exact hec, fun k c hk => ?_⟩
      cases k with
      | zero => simp at hk; subst hk; exact ⟨fun h => by simp at h, fun _ _ => by simp⟩
      | succ k => simp at hk
    | false =>
      obtain ⟨cs, rfl⟩ := agg_of d hdc
      have : putPart (.agg cs) j e = if j < cs.length then some (.agg (cs.set j e)) else none := by
        cases e <;> first | rfl | simp [DV.isCell] at hec
      rw [this] at h
      split at h
      case isFalse => cases h
      rename_i hj
      exact single cs e hec rfl rfl hj (Option.some.inj h).symm
  | false =>
    obtain ⟨es, rfl⟩ := agg_of e hec
    cases hdc : d.isCell with
    | true =>
      have : putPart d j (.agg es) = none := by cases d <;> first | rfl | simp [DV.isCell] at hdc
      rw [this] at h
      cases h
    | false =>
      obtain ⟨cs, rfl⟩ := agg_of d hdc
      simp only [putPart] at h
      split at h
      case isFalse => cases h
      rename_i hle
      obtain rfl := Option.some.inj h
      simp only [DV.cells] at *
      refine ⟨by simp; omega, hle, fun x hx => ?_, fun k x hx => ⟨fun hk => ?_, fun h1 h2 => ?_⟩⟩
      · simp only [List.mem_append] at hx
        rcases hx with (hx | hx) | hx
        · exact hd x (List.mem_of_mem_take hx)
        · exact he x hx
        · exact hd x (List.mem_of_mem_drop hx)
      · rcases hk with hk | hk
        · rw [List.append_assoc, List.getElem?_append_left (by simp; omega), List.getElem?_take, if_pos hk] at hx
          exact hx
        · rw [List.getElem?_append_right (by simp; omega), List.getElem?_drop] at hx
          simp only [List.length_append, List.length_take] at hx
          rw [show j + es.length + (k - (min j cs.length + es.length)) = k by omega] at hx
          exact hx
      · rw [List.append_assoc, List.getElem?_append_right (by simp; omega), List.getElem?_append_left (by simp; omega)] at hx
        simp only [List.length_take] at hx
        rw [show k - min j cs.length = k - j by omega] at hx
        exact hx

omit [Bnd] in
theorem getOb_setOb (ob : List (Nat × List DV)) (id : Nat) (xs : List DV) (i : Nat) : getOb (setOb ob id xs) i = if i = id then (getOb ob id).map fun _ => xs else getOb ob i := by
  induction ob with
  | nil => simp [getOb, setOb]
  | cons p r ih =>
    obtain ⟨k, ys⟩ := p
    simp only [setOb]
    by_cases hk : k = id
    · subst hk
      by_cases hi : i = k
      · subst hi; simp [getOb]
      · simp [getOb, hi, show k ≠ i from fun e => hi e.symm]
    · simp only [if_neg hk]
      by_cases hi : i = id
      · subst hi
        simp only [getOb, if_neg hk, if_true] at ih ⊢
        simpa using ih
      · simp only [getOb, ih, if_neg hi]

theorem cell_other {w w' : World} {b b' : Nat} (h : ∀ k, k ≠ b → w'.heap[k]? = w.heap[k]?) (hb : b' ≠ b) (o : Nat) : w'.cell? ⟨b', o, none⟩ = w.cell? ⟨b', o, none⟩ := World.cell?_of_block (w := w) (h b' hb)

/-- One object's block is written: all else stands. -/
theorem RelH.wrOb (R : RelH g s a w H) {H' : List (Nat × Value × AV)} (hH : ∀ y ∈ H', y ∈ H) {φ : List Nat → Option (List Nat)} {id : Nat} {xs xs' : List DV} (hxs : getOb s.ob id = some xs) (hφ0 : ∀ i q, φ (0 :: i :: q) = some (0 :: i :: q))
    (hφ1 : ∀ i q, i ≠ id → φ (1 :: i :: q) = some (1 :: i :: q)) (hφ2 : φ [1, id] = some [1, id]) (hφ3 : ∀ y ∈ H', ∀ q, φ (2 :: y.1 :: q) = some (2 :: y.1 :: q))
    {w' : World} (hos : w'.os = w.os) (htape : w'.tape = w.tape) (hout : w'.output = w.output) (hsize : w'.heap.size = w.heap.size)
    (hblk : ∀ k, k ≠ (g.m id).1 → w'.heap[k]? = w.heap[k]?) (hO : ObRel (g.re φ) w' id xs') : RelH (g.re φ) { s with ob := setOb s.ob id xs' } a w' H' ∧ Stp g w (g.re φ) w' := by
  obtain ⟨cur0, e0, ho, _, hL, _⟩ := (R.obj id xs hxs).2.ex
  have hK : ∀ b o, g.K b o → w'.cell? ⟨b, o, none⟩ = w.cell? ⟨b, o, none⟩ := by
    intro b o hk
    by_cases hb : b = (g.m id).1
    · subst hb
      have := R.s2 _ _ o ho hk
      omega
    · exact cell_other hblk hb o
  have hown : ∀ p : List Nat, (∀ r, p ++ r ≠ [1, id]) → (∀ q, φ (p ++ q) = some (p ++ q)) → ∀ b q, g.ow b = some (p ++ q) → (g.re φ).ow b = some (p ++ q) ∧ w'.heap[b]? = w.heap[b]? ∧ (g.re φ).L b = g.L b := by
    intro p hp hφ b q hq
    refine ⟨re_of hq (hφ q), hblk b fun e => ?_, rfl⟩
    subst e
    rw [ho] at hq
    injection hq with hq
    exact hp q hq.symm
  have S := R.toSane.re φ
  refine ⟨⟨⟨⟨fun b q h => by rw [hsize]; exact S.s1 b q h, S.s2, fun b o h => by rw [hsize]; exact S.s3 b o h, ⟨by rw [hsize]; exact S.sN.1, S.sN.2.1, fun b hb => (hblk b fun e => by subst e; exact absurd (R.sN.2.1 _ _ ho) (by omega)).trans (S.sN.2.2 b hb)⟩⟩, R.size, R.defers, fun i x hx => ?_, fun i ys hi => ?_, fun i hi => ?_, fun b q o hq => by obtain ⟨r, hr, _⟩ := re_ow hq; exact R.s6 b r o hr⟩, fun k v x hm => ?_⟩,
    ⟨hos, htape, hout, by omega, fun b _ hn => hblk b (fun e => by subst e; rw [ho] at hn; cases hn), hK, fun _ _ h => h, fun _ _ h => .inl h, fun b h => .inr fun h0 => h (by simp [Gh.re, h0]), fun _ _ => rfl⟩⟩
  · exact ARel.mono (g := g) (g' := g.re φ) (fun _ _ h => h) hK (fun _ h => ⟨h, rfl⟩) (R.slot i x hx) _ (hown _ (by simp) (fun q => hφ0 i q))
  · rw [getOb_setOb] at hi
    split at hi
    · rename_i he
      subst he
      rw [hxs] at hi
      obtain rfl := Option.some.inj hi
      exact ⟨(R.obj i xs hxs).1, hO⟩
    · rename_i he
      obtain ⟨h1, h2⟩ := R.obj i ys hi
      refine ⟨h1, ?_⟩
      obtain ⟨cur, e, c1, c2, c3, c4, c5, c6, c7⟩ := h2.ex
      have hne : (g.m i).1 ≠ (g.m id).1 := by
        intro hm
        rw [hm, ho] at c1
        injection c1 with c1
        injection c1 with _ c1
        injection c1 with c1
        exact he c1.symm
      exact ⟨cur, e, re_of c1 (hφ1 i [] he), (hblk _ hne).trans c2, c3, c4, c5, c6, fun i' d j e hi' hj => ORel.mono (g := g) (g' := g.re φ) (fun _ _ h => h) hK (c7 i' d j e hi' hj) _ (hown _ (by simp) (fun q => hφ1 i _ he))⟩
  · rw [getOb_setOb]
    split
    · rw [hxs]; simp
    · exact R.alive i hi
  · exact ARel.mono (g := g) (g' := g.re φ) (fun _ _ h => h) hK (fun _ h => ⟨h, rfl⟩) (R.held k v x (hH _ hm)) _ (hown _ (by simp) (fun q => hφ3 _ hm q))

theorem setRow_size (w : World) (g : Nat) (cs : Array Value) : (w.setRow g cs).heap.size = w.heap.size := by simp [World.setRow]

theorem run_storeAt {t : TypeId} {ti : TI} (hti : mkC P t = some ti) {b o : Nat} {v : Value} {cur : Array Value} {T : TypeId} (hb : w.heap[b]? = some (.cells cur T (0, 0))) (hv : v.cells.size = ti.size) (hfit : o + v.cells.size ≤ cur.size) (h1 : ∀ u ∈ v.cells.toList, u.oneCell' = true) :
    (Instr.storeAt t (.pointer (some ⟨b, o, none⟩)) v).run P w = .ok () (w.setRow b (cur.toList.take o ++ v.cells.toList ++ cur.toList.drop (o + v.cells.size)).toArray) := by
  have hs := run_storeCells_at P b o T v.cells.toList 0 cur w hb (by simpa using hfit) h1
  simp only [Nat.add_zero, Array.length_toList] at hs
  simp [Instr.storeAt, Instr.sureAddr, storeVar, run_size hti, hv, hs]

/-- What is held at 0 is written into an object. -/
theorem RelH.store (R : RelH g s a w ((0, v, x) :: H)) (hH : ∀ y ∈ H, y.1 ≠ 0) {t : TypeId} {ti : TI} (hti : mkC P t = some ti) {e d d' : DV} {xs : List DV} {id i j : Nat} (he : x.dv = some e) (hlen : e.cells.length = ti.size)
    (hxs : getOb s.ob id = some xs) (hd : xs[i]? = some d) (hp : putPart d j e = some d') :
    ∃ w' g', (Instr.storeAt t (.pointer (some ⟨(g.m id).1, i * (g.m id).2 + j, none⟩)) v).run P w = .ok () w' ∧ RelH g' { s with ob := setOb s.ob id (xs.set i d') } a w' H ∧ Stp g w g' w' := by
  have hv := (R.held 0 v x List.mem_cons_self).dv he
  obtain ⟨cur, T, c1, c2, c3, c4, c5, c6, c7⟩ := (R.obj id xs hxs).2.ex
  obtain ⟨hc1, hc2⟩ := hv.cellsOf
  obtain ⟨p1, p2, p3, p4⟩ := putPart_spec hp (c6 i d hd).2 hc2
  have hi : i < xs.length := (List.getElem?_eq_some_iff.1 hd).1
  have hdl := (c6 i d hd).1
  have hrow : (i + 1) * (g.m id).2 ≤ xs.length * (g.m id).2 := Nat.mul_le_mul_right _ (by omega)
  rw [Nat.add_mul, Nat.one_mul] at hrow
  have hfit : i * (g.m id).2 + j + v.cells.size ≤ cur.size := by omega
  have hone : ∀ u ∈ v.cells.toList, u.oneCell' = true := by
    intro u hu
    obtain ⟨k, hk, rfl⟩ := List.getElem_of_mem hu
    have hk' : k < e.cells.length := by rw [← hc1]; simpa using hk
    have := (hv.cellAt (List.getElem?_eq_getElem hk')).oneCell (hc2 _ (List.getElem_mem hk'))
    have hk2 : k < v.cells.size := by omega
    simpa [hk2] using this
  let φ : List Nat → Option (List Nat) := fun q => match q with
    | 2 :: k :: r => if k = 0 then (if e.isCell then some (1 :: id :: i :: j :: r) else match r with
        | m :: r' => some (1 :: id :: i :: (j + m) :: r')
        | [] => none) else some (2 :: k :: r)
    | 1 :: id' :: i' :: k :: r => if id' = id ∧ i' = i ∧ j ≤ k ∧ k < j + e.cells.length then none else some (1 :: id' :: i' :: k :: r)
    | q => some q
  let cur' : Array Value := (cur.toList.take (i * (g.m id).2 + j) ++ v.cells.toList ++ cur.toList.drop (i * (g.m id).2 + j + v.cells.size)).toArray
  have hcs : cur'.size = cur.size := by simp [cur']; omega
  have hblk : ∀ k, k ≠ (g.m id).1 → (w.setRow (g.m id).1 cur').heap[k]? = w.heap[k]? := fun k hk => setRow_other w _ k _ hk
  have hK : ∀ b o, g.K b o → (w.setRow (g.m id).1 cur').cell? ⟨b, o, none⟩ = w.cell? ⟨b, o, none⟩ := by
    intro b o hk
    by_cases hb : b = (g.m id).1
    · subst hb
      have := R.s2 _ _ o c1 hk
      omega
    · exact cell_other hblk hb o
  have hmove : ∀ (p p' : List Nat) (u : Value) (f : DV), ORel g w p u f → (∀ r, p ++ r ≠ [1, id]) → (∀ q, φ (p ++ q) = some (p' ++ q)) → ORel (g.re φ) (w.setRow (g.m id).1 cur') p' u f := by
    intro p p' u f hf hp hφ
    refine ORel.mono (g := g) (g' := g.re φ) (fun _ _ h => h) hK hf p' fun b q hq => ⟨re_of hq (hφ q), hblk b fun e => ?_, rfl⟩
    subst e
    rw [c1] at hq
    injection hq with hq
    exact hp q hq.symm
  have hcur : ∀ n, cur'.getD n undef = if n < i * (g.m id).2 + j then cur.getD n undef else if n < i * (g.m id).2 + j + v.cells.size then v.cells.getD (n - (i * (g.m id).2 + j)) undef else cur.getD n undef := by
    intro n
    have hg : cur'.getD n undef = (cur.toList.take (i * (g.m id).2 + j) ++ v.cells.toList ++ cur.toList.drop (i * (g.m id).2 + j + v.cells.size)).getD n undef := by
      simp [cur', List.getD_eq_getElem?_getD]
    rw [hg, List.getD_eq_getElem?_getD]
    split
    · rename_i hn
      rw [List.append_assoc, List.getElem?_append_left (by simp; omega), List.getElem?_take, if_pos hn]
      simp
    · split
      · rename_i h1 h2
        rw [List.append_assoc, List.getElem?_append_right (by simp; omega), List.getElem?_append_left (by simp; omega)]
        simp only [List.length_take, Array.length_toList]
        rw [show n - min (i * (g.m id).2 + j) cur.size = n - (i * (g.m id).2 + j) by omega]
        simp
      · rename_i h1 h2
        rw [List.getElem?_append_right (by simp; omega), List.getElem?_drop]
        simp only [List.length_append, List.length_take, Array.length_toList]
        rw [show i * (g.m id).2 + j + v.cells.size + (n - (min (i * (g.m id).2 + j) cur.size + v.cells.size)) = n by omega]
        simp
  have hO : ObRel (g.re φ) (w.setRow (g.m id).1 cur') id (xs.set i d') := by
    refine ⟨cur', T, re_of c1 rfl, setRow_heap w _ cur _ T (0, 0) c2, c3, c4, by rw [hcs]; simpa [Gh.re] using c5, fun i' x hx => ?_, fun i' x k f hx hk => ?_⟩
    · rw [List.getElem?_set] at hx
      split at hx
      · obtain rfl := Option.some.inj hx
        exact ⟨p1.trans hdl, p3⟩
      · exact c6 i' x hx
    · show ORel (g.re φ) (w.setRow (g.m id).1 cur') [1, id, i', k] (cur'.getD (i' * (g.m id).2 + k) undef) f
      rw [List.getElem?_set] at hx
      split at hx
      · rename_i hii
        subst hii
        obtain rfl := Option.some.inj hx
        obtain ⟨q1, q2⟩ := p4 k f hk
        have hkl : k < (g.m id).2 := by rw [← hdl, ← p1]; exact (List.getElem?_eq_some_iff.1 hk).1
        rw [hcur]
        by_cases hrange : j ≤ k ∧ k < j + e.cells.length
        · have hf := q2 hrange.1 hrange.2
          rw [if_neg (by omega), if_pos (by omega)]
          rw [show i * (g.m id).2 + k - (i * (g.m id).2 + j) = k - j by omega]
          have := hv.cellAt hf
          refine hmove _ _ _ _ this (by unfold cpos; split <;> simp) fun q => ?_
          unfold cpos
          cases hec : e.isCell with
          | true =>
            have : e.cells.length = 1 := by rw [cells_of_isCell hec]; rfl
            have : k = j := by omega
            subst this
            simp [φ, hec]
          | false => simp [φ, hec]; omega
        · have hf := q1 (by omega)
          have := c7 i d k f hd hf
          have heq : (if i * (g.m id).2 + k < i * (g.m id).2 + j then cur.getD (i * (g.m id).2 + k) undef else if i * (g.m id).2 + k < i * (g.m id).2 + j + v.cells.size then v.cells.getD (i * (g.m id).2 + k - (i * (g.m id).2 + j)) undef else cur.getD (i * (g.m id).2 + k) undef) = cur.getD (i * (g.m id).2 + k) undef := by
            split
            · rfl
            · rw [if_neg (by omega)]
          rw [heq]
          refine hmove _ _ _ _ this (by simp) fun q => ?_
          simp only [φ, List.cons_append, List.nil_append]
          rw [if_neg (by omega)]
      · rename_i hii
        have hkl : k < (g.m id).2 := by rw [← (c6 i' x hx).1]; exact (List.getElem?_eq_some_iff.1 hk).1
        have hil : i' < xs.length := (List.getElem?_eq_some_iff.1 hx).1
        have := c7 i' x k f hx hk
        rw [hcur]
        have hout : i' * (g.m id).2 + k < i * (g.m id).2 + j ∨ i * (g.m id).2 + j + v.cells.size ≤ i' * (g.m id).2 + k := by
          rcases Nat.lt_or_gt_of_ne hii with h | h
          · right
            have : (i + 1) * (g.m id).2 ≤ i' * (g.m id).2 := Nat.mul_le_mul_right _ h
            rw [Nat.add_mul, Nat.one_mul] at this
            omega
          · left
            have : (i' + 1) * (g.m id).2 ≤ i * (g.m id).2 := Nat.mul_le_mul_right _ h
            rw [Nat.add_mul, Nat.one_mul] at this
            omega
        have heq : (if i' * (g.m id).2 + k < i * (g.m id).2 + j then cur.getD (i' * (g.m id).2 + k) undef else if i' * (g.m id).2 + k < i * (g.m id).2 + j + v.cells.size then v.cells.getD (i' * (g.m id).2 + k - (i * (g.m id).2 + j)) undef else cur.getD (i' * (g.m id).2 + k) undef) = cur.getD (i' * (g.m id).2 + k) undef := by
          split
          · rfl
          · rw [if_neg (by omega)]
        rw [heq]
        refine hmove _ _ _ _ this (by simp) fun q => ?_
        simp only [φ, List.cons_append, List.nil_append]
        rw [if_neg (by omega)]
  have hW := R.wrOb (H' := H) (fun y hy => List.mem_cons_of_mem _ hy) (φ := φ) hxs (fun _ _ => rfl) (fun i' q hi' => by
      match q with
      | [] => rfl
      | [_] => rfl
      | a :: b :: q => simp [φ, hi']) rfl (fun y hy q => by
      have := hH y hy
      simp [φ, this]) (w' := w.setRow (g.m id).1 cur') rfl rfl rfl (setRow_size w _ _) hblk hO
  exact ⟨_, _, run_storeAt hti c2 (by omega) hfit hone, hW.1, hW.2⟩

theorem do_store (R : Rel g s a w) {t : TypeId} {ti : TI} (hti : mkC P t = some ti) (x : Operand) {p : List Nat} {ad : Value} {e d d' : DV} {xs : List DV} {id i j : Nat} (hp : ARel g w p ad (.ptr id i j)) (he : (s.raw x).dv = some e) (hlen : e.cells.length = ti.size)
    (hxs : getOb s.ob id = some xs) (hd : xs[i]? = some d) (hput : putPart d j e = some d') :
    ∃ w' g', (Instr.storeAt t ad (a.eval x)).run P w = .ok () w' ∧ Rel g' (s.wrs (s.left x ++ [.set id (xs.set i d')])) a w' ∧ Stp g w g' w' := by
  obtain ⟨φ, R1⟩ := R.hold.take x 0 (by simp) (isTup_of_dv he)
  obtain ⟨_, rfl⟩ := hp.inv_ptr
  obtain ⟨w', g', h1, h2, h3⟩ := R1.store (by simp) hti he hlen (by rw [left_ob]; exact hxs) hd hput
  refine ⟨w', g', h1, ?_, (Stp.re _ _ φ).trans h3⟩
  rw [wrs_append]
  exact h2.toRel

theorem partOf_spec {C : Cx} {t : TypeId} {d e : DV} {j : Nat} (h : partOf C t d j = some e) (hic : ∀ c ∈ d.cells, c.isCell = true) :
    j + e.cells.length ≤ d.cells.length ∧ (∀ c ∈ e.cells, c.isCell = true) ∧ ∀ m, m < e.cells.length → e.cells[m]? = d.cells[j + m]? := by
  unfold partOf at h
  split at h
  case h_2 => cases h
  rename_i ti _
  split at h
  · split at h
    case isFalse => cases h
    rename_i hle
    obtain rfl := Option.some.inj h
    have hlen : ((d.cells.drop j).take ti.size).length = ti.size := by rw [List.length_take, List.length_drop]; omega
    refine ⟨show j + ((d.cells.drop j).take ti.size).length ≤ d.cells.length by omega, fun c hc => hic c (List.mem_of_mem_drop (List.mem_of_mem_take hc)), fun m hm => ?_⟩
    have hm' : m < ((d.cells.drop j).take ti.size).length := hm
    show ((d.cells.drop j).take ti.size)[m]? = _
    rw [List.getElem?_take, if_pos (by omega), List.getElem?_drop]
  · split at h
    case isFalse => cases h
    have hc := hic e (List.mem_of_getElem? h)
    rw [cells_of_isCell hc]
    have := (List.getElem?_eq_some_iff.1 h).1
    refine ⟨by simp; omega, by simpa using hc, fun m hm => ?_⟩
    have : m = 0 := by simpa using hm
    subst this
    simpa using h.symm

theorem do_loadTake' (R : Rel g s a w) {t : TypeId} {p : List Nat} {ad : Value} {e d d' : DV} {xs : List DV} {id i j : Nat} (hp : ARel g w p ad (.ptr id i j)) (hxs : getOb s.ob id = some xs) (hd : xs[i]? = some d) (he : partOf (mkC P) t d j = some e)
    (hput : putPart d j e.lock = some d') (dst : Option Nat) : ∃ v g', (Instr.loadAt t ad).run P w = .ok v w ∧ Rel g' (s.wrs (.set id (xs.set i d') :: wrDst dst (.ow e))) (a.put dst v) w ∧ Stp g w g' w := by
  obtain ⟨_, rfl⟩ := hp.inv_ptr
  obtain ⟨cur, T, c1, c2, c3, c4, c5, c6, c7⟩ := (R.obj id xs hxs).2.ex
  have hi : i < xs.length := (List.getElem?_eq_some_iff.1 hd).1
  have hdl := (c6 i d hd).1
  obtain ⟨q1, q2, q3⟩ := partOf_spec he (c6 i d hd).2
  have hlk : e.lock.cells.length = e.cells.length := by rw [cells_lock]; simp
  obtain ⟨p1, p2, p3, p4⟩ := putPart_spec hput (c6 i d hd).2 (fun c hc => by
    rw [cells_lock] at hc
    obtain ⟨c', hc', rfl⟩ := List.mem_map.1 hc
    rw [isCell_lockC]; exact q2 c' hc')
  have hrow : (i + 1) * (g.m id).2 ≤ xs.length * (g.m id).2 := Nat.mul_le_mul_right _ (by omega)
  rw [Nat.add_mul, Nat.one_mul] at hrow
  have hview : ∀ (k : Nat) (c : DV), d.cells[k]? = some c → SRel g.K w (cur.getD (i * (g.m id).2 + k) undef) c := fun k c hk => (c7 i d k c hd hk).view fun b q o hq => R.s6 b _ o hq
  have hcellv : ∀ (k : Nat) (c : DV), d.cells[k]? = some c → w.cell? ⟨(g.m id).1, i * (g.m id).2 + k, none⟩ = some (cur.getD (i * (g.m id).2 + k) undef) := by
    intro k c hk
    have : k < (g.m id).2 := by rw [← hdl]; exact (List.getElem?_eq_some_iff.1 hk).1
    have hb : i * (g.m id).2 + k < cur.size := by omega
    simp [World.cell?, c2, hb]
  let φ : List Nat → Option (List Nat) := fun q => match q with
    | 2 :: _ => none
    | 1 :: id' :: i' :: k :: r => if id' = id ∧ i' = i ∧ j ≤ k ∧ k < j + e.cells.length then (if e.isCell then some (2 :: 0 :: r) else some (2 :: 0 :: (k - j) :: r)) else some (1 :: id' :: i' :: k :: r)
    | q => some q
  have hO : ObRel (g.re φ) w id (xs.set i d') := by
    refine ⟨cur, T, re_of c1 rfl, c2, c3, c4, by simpa [Gh.re] using c5, fun i' x hx => ?_, fun i' x k f hx hk => ?_⟩
    · rw [List.getElem?_set] at hx
      split at hx
      · obtain rfl := Option.some.inj hx
        exact ⟨p1.trans hdl, p3⟩
      · exact c6 i' x hx
    · rw [List.getElem?_set] at hx
      split at hx
      · rename_i hii
        subst hii
        obtain rfl := Option.some.inj hx
        obtain ⟨r1, r2⟩ := p4 k f hk
        by_cases hrange : j ≤ k ∧ k < j + e.cells.length
        · have hf := r2 hrange.1 (by rw [hlk]; exact hrange.2)
          rw [cells_lock, List.getElem?_map] at hf
          obtain ⟨c, hc, rfl⟩ := Option.map_eq_some_iff.1 hf
          have hm := q3 (k - j) (by omega)
          rw [hc, show j + (k - j) = k by omega] at hm
          exact (hview k c hm.symm).lockC (q2 c (List.mem_of_getElem? hc)) (g.re φ) rfl _
        · have hf := r1 (by rw [hlk]; omega)
          refine (c7 i d k f hd hf).re fun q => ?_
          simp only [φ, List.cons_append, List.nil_append]
          rw [if_neg (by omega)]
      · rename_i hii
        refine (c7 i' x k f hx hk).re fun q => ?_
        simp only [φ, List.cons_append, List.nil_append]
        rw [if_neg (by omega)]
  have hW := (R.hold).wrOb (H' := []) (fun y hy => by cases hy) (φ := φ) hxs (fun _ _ => rfl) (fun i' q hi' => by
      match q with
      | [] => rfl
      | [_] => rfl
      | a :: b :: q => simp [φ, hi']) rfl (fun y hy => by cases hy) (w' := w) rfl rfl rfl rfl (fun _ _ => rfl) hO
  -- what was loaded
  have hval : ∃ v, (Instr.loadAt t (.pointer (some ⟨(g.m id).1, i * (g.m id).2 + j, none⟩))).run P w = .ok v w ∧ ORel (g.re φ) w [2, 0] v e := by
    unfold partOf at he
    split at he
    case h_2 => cases he
    rename_i ti hti
    split at he
    · rename_i hagg
      split at he
      case isFalse => cases he
      rename_i hle
      obtain rfl := Option.some.inj he
      obtain ⟨dd, hdd, hrw⟩ := is_row hti hagg
      have hlen : ((d.cells.drop j).take ti.size).length = ti.size := by simp; omega
      refine ⟨_, run_loadAt_mid w (g.m id).1 (i * (g.m id).2 + j) t ((List.range ti.size).map fun k => cur.getD (i * (g.m id).2 + (j + k)) undef) dd (fun k v hk => ?_) hdd hrw (by rw [info_size hti]; simp), ?_⟩
      · rw [List.getElem?_map] at hk
        obtain ⟨k', hk', rfl⟩ := Option.map_eq_some_iff.1 hk
        have hlt : k < ti.size := by
          have := (List.getElem?_eq_some_iff.1 hk').1
          simpa using this
        rw [List.getElem?_range hlt] at hk'
        injection hk' with hk'
        subst hk'
        have := hcellv (j + k) _ (List.getElem?_eq_getElem (show j + k < d.cells.length by omega))
        rwa [Nat.add_assoc]
      · refine .agg (by simp [hlen]) q2 (fun k u f hu hf => ?_)
        have hlt : k < ti.size := by rw [← hlen]; exact (List.getElem?_eq_some_iff.1 hf).1
        have hu' : u = cur.getD (i * (g.m id).2 + (j + k)) undef := by
          simp only [List.getElem?_toArray, List.getElem?_map, List.getElem?_range hlt, Option.map_some] at hu
          exact (Option.some.inj hu).symm
        subst hu'
        have hm : ((d.cells.drop j).take ti.size)[k]? = d.cells[j + k]? := q3 k (by show k < ((d.cells.drop j).take ti.size).length; omega)
        rw [hf] at hm
        refine (c7 i d (j + k) f hd hm.symm).re fun q => ?_
        simp only [φ, List.cons_append, List.nil_append]
        rw [if_pos ⟨by trivial, by trivial, by omega, by show j + k < j + ((d.cells.drop j).take ti.size).length; omega⟩, if_neg (by simp [DV.isCell]), Nat.add_sub_cancel_left]
    · rename_i hagg
      split at he
      case isFalse => cases he
      rename_i hs1
      have hcl := hcellv j e he
      have hce := (c6 i d hd).2 e (List.mem_of_getElem? he)
      refine ⟨cur.getD (i * (g.m id).2 + j) undef, ?_, ?_⟩
      · have := not_row hti (by simpa using hagg) w
        simp only [Instr.loadAt, Instr.sureAddr, loadVar, Sem.run_bind, Sem.run_pure, Result.andThen_ok, this, Bool.false_eq_true, if_false, load, Sem.run, hcl]
      · refine (c7 i d j e hd he).re fun q => ?_
        simp only [φ, List.cons_append, List.nil_append]
        rw [if_pos (by rw [cells_of_isCell hce]; simp), if_pos hce]
  obtain ⟨v, hv, hr⟩ := hval
  have RH : RelH (g.re φ) { s with ob := setOb s.ob id (xs.set i d') } a w [(0, v, .ow e)] := ⟨hW.1.toRel, fun k v' x' hm => by simp at hm; obtain ⟨rfl, rfl, rfl⟩ := hm; exact .ow hr⟩
  obtain ⟨ψ, R2⟩ := RH.put (by simp) dst
  exact ⟨v, _, hv, R2.toRel, hW.2.trans (Stp.re _ _ ψ)⟩
theorem do_loadTake (R : Rel g s a w) {t : TypeId} {p : List Nat} {ad : Value} {e d d' : DV} {xs : List DV} {id i j : Nat} (hp : ARel g w p ad (.ptr id i j)) (hxs : getOb s.ob id = some xs) (hd : xs[i]? = some d) (he : partOf (mkC P) t d j = some e)
    (hput : putPart d j e.lock = some d') (dst : Option Nat) : Does P g (s.wrs (.set id (xs.set i d') :: wrDst dst (.ow e))) a w dst (Instr.loadAt t ad) := by
  obtain ⟨v, g', h1, h2, h3⟩ := do_loadTake' (P := P) R hp hxs hd he hput dst
  exact ⟨v, w, g', h1, h2, h3⟩

end
end Go.Vi
