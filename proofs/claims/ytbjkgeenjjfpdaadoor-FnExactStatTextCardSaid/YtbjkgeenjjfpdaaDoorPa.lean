/- The data of the program as Lean's own: lines, hunks, rows, groups, diffs; how they stand in memory; and what its functions tell of them. No statement is proved in this text. -/
import Derived.Test.YtbjkgeenjjfpdaaDoorVq
set_option linter.all false
set_option autoImplicit true
namespace Go.Vi
open Go Go.RowKit
set_option linter.unusedVariables false

abbrev Str := List UInt8
structure Hunk where
  At : Int
  Gone : Int
  New : List Str
  deriving DecidableEq
structure Row where
  Kind : Int
  Line : Str
  deriving DecidableEq
structure Group where
  At : Int
  To : Int
  Rows : List Row
  deriving DecidableEq
structure FDiff where
  Name : Str
  Kind : Int
  Part : List Group
  deriving DecidableEq
structure FileT where
  Name : Str
  Lines : List Str
  deriving DecidableEq
structure Order where
  Kind : Int
  From : Int
  To : Int
  New : List Str
  deriving DecidableEq
structure SeriesT where
  First : List Str
  Steps : List (List Hunk)
  deriving DecidableEq

/-! ### how they stand; t: the tag of a row by how many cells an element has -/
def tS (_ : Nat) : Nat := 0
def tO (n : Nat) : Nat := n
theorem tS_eq (n : Nat) : tS n = 0 := rfl
theorem tO_eq (n : Nat) : tO n = n := rfl
def dStr (s : Str) : DV := .str s
def dStrs (t : Nat → Nat) (l : List Str) : DV := .sl (t 1) (l.map .str)
def dInts (t : Nat → Nat) (l : List Int) : DV := .sl (t 1) (l.map (.int .i64))
def dHunk (t : Nat → Nat) (h : Hunk) : DV := .agg [.int .i64 h.At, .int .i64 h.Gone, .sl (t 1) (h.New.map .str)]
def dRow (r : Row) : DV := .agg [.int .i64 r.Kind, .str r.Line]
def dGroup (t : Nat → Nat) (g : Group) : DV := .agg [.int .i64 g.At, .int .i64 g.To, .sl (t 2) (g.Rows.map dRow)]
def dFD (t : Nat → Nat) (d : FDiff) : DV := .agg [.str d.Name, .int .i64 d.Kind, .sl (t 3) (d.Part.map (dGroup t))]
def dFile (t : Nat → Nat) (f : FileT) : DV := .agg [.str f.Name, .sl (t 1) (f.Lines.map .str)]
def dOrder (t : Nat → Nat) (o : Order) : DV := .agg [.int .i64 o.Kind, .int .i64 o.From, .int .i64 o.To, .sl (t 1) (o.New.map .str)]
def dSeries (t : Nat → Nat) (s : SeriesT) : DV := .agg [.sl (t 1) (s.First.map .str), .sl (t 1) (s.Steps.map fun h => .sl (t 3) (h.map (dHunk t)))]

theorem strip_map (l : List DV) : DV.strip.go l = l.map DV.strip := by
  induction l with
  | nil => rfl
  | cons x r ih => simp [DV.strip.go, ih]
theorem strip_dStrs (t : Nat → Nat) (l : List Str) : (DV.sl (t 1) (l.map .str)).strip = .sl 0 (l.map .str) := by simp [DV.strip, strip_map]
theorem map_strip_str (l : List Str) : (l.map DV.str).map DV.strip = l.map .str := by simp [DV.strip]
theorem map_strip_int (l : List Int) : (l.map (DV.int .i64)).map DV.strip = l.map (.int .i64) := by simp [DV.strip]
theorem map_strip_row (l : List Row) : (l.map dRow).map DV.strip = l.map dRow := by simp [DV.strip, dRow, strip_map]
theorem strip_dHunk (t : Nat → Nat) (h : Hunk) : (dHunk t h).strip = dHunk tS h := by simp [dHunk, DV.strip, strip_map, tS]
theorem strip_dGroup (t : Nat → Nat) (g : Group) : (dGroup t g).strip = dGroup tS g := by simp [dGroup, DV.strip, strip_map, tS, dRow]
theorem strip_dFD (t : Nat → Nat) (g : FDiff) : (dFD t g).strip = dFD tS g := by simp [dFD, DV.strip, strip_map, tS, strip_dGroup]
theorem map_strip_hunk (t : Nat → Nat) (l : List Hunk) : (l.map (dHunk t)).map DV.strip = l.map (dHunk tS) := by simp [strip_dHunk]
theorem map_strip_group (t : Nat → Nat) (l : List Group) : (l.map (dGroup t)).map DV.strip = l.map (dGroup tS) := by simp [strip_dGroup]
theorem map_strip_fd (t : Nat → Nat) (l : List FDiff) : (l.map (dFD t)).map DV.strip = l.map (dFD tS) := by simp [strip_dFD]
theorem snoc_str (l : List Str) (x : Str) : l.map DV.str ++ [.str x] = (l ++ [x]).map .str := by simp
theorem snoc_int (l : List Int) (x : Int) : l.map (DV.int .i64) ++ [.int .i64 x] = (l ++ [x]).map (.int .i64) := by simp
theorem snoc_row (l : List Row) (k : Int) (s : Str) : l.map dRow ++ [.agg [.int .i64 k, .str s]] = (l ++ [(⟨k, s⟩ : Row)]).map dRow := by simp [dRow]
theorem snoc_hunk (t : Nat → Nat) (l : List Hunk) (a g : Int) (n : List Str) : l.map (dHunk t) ++ [.agg [.int .i64 a, .int .i64 g, .sl (t 1) (n.map .str)]] = (l ++ [(⟨a, g, n⟩ : Hunk)]).map (dHunk t) := by simp [dHunk]
theorem snoc_group (t : Nat → Nat) (l : List Group) (a b : Int) (n : List Row) : l.map (dGroup t) ++ [.agg [.int .i64 a, .int .i64 b, .sl (t 2) (n.map dRow)]] = (l ++ [(⟨a, b, n⟩ : Group)]).map (dGroup t) := by simp [dGroup]
theorem app_map {α β : Type} (f : α → β) (a b : List α) : a.map f ++ b.map f = (a ++ b).map f := by simp
theorem drop_cons {α : Type} {l : List α} {i : Nat} {x : α} (h : l[i]? = some x) : l.drop i = x :: l.drop (i + 1) := by
  obtain ⟨h1, h2⟩ := List.getElem?_eq_some_iff.1 h
  rw [List.drop_eq_getElem_cons h1, h2]
theorem cells_all {α : Type} (f : α → DV) (k : Nat) (h : ∀ x, (f x).cells.length = k) (l : List α) : ((l.map f).all fun d => d.cells.length == k) = true := by simp [h]
theorem cells_all_str (l : List Str) : ((l.map DV.str).all fun d => d.cells.length == 1) = true := cells_all _ 1 (fun _ => rfl) l
theorem cells_all_int (l : List Int) : ((l.map (DV.int .i64)).all fun d => d.cells.length == 1) = true := cells_all _ 1 (fun _ => rfl) l
theorem cells_all_row (l : List Row) : ((l.map dRow).all fun d => d.cells.length == 2) = true := cells_all _ 2 (fun _ => rfl) l
theorem cells_all_hunk (t : Nat → Nat) (l : List Hunk) : ((l.map (dHunk t)).all fun d => d.cells.length == 3) = true := cells_all _ 3 (fun _ => rfl) l
theorem cells_all_group (t : Nat → Nat) (l : List Group) : ((l.map (dGroup t)).all fun d => d.cells.length == 3) = true := cells_all _ 3 (fun _ => rfl) l
theorem cells_all_fd (t : Nat → Nat) (l : List FDiff) : ((l.map (dFD t)).all fun d => d.cells.length == 3) = true := cells_all _ 3 (fun _ => rfl) l
theorem fill_get {α : Type} (f : α → DV) (Z : DV) {l : List α} {i : Nat} (h : i < l.length) : ((l.take i).map f ++ List.replicate (l.length - i) Z)[i]? = some Z := by
  have hl : ((l.take i).map f).length = i := by rw [List.length_map, List.length_take]; omega
  rw [List.getElem?_append_right (by omega), hl, Nat.sub_self, List.getElem?_replicate, if_pos (by omega)]
theorem fill_set {α : Type} (f : α → DV) (Z : DV) {l : List α} {i : Nat} {x : α} (hx : l[i]? = some x) {e : DV} (he : e = f x) :
    ((l.take i).map f ++ List.replicate (l.length - i) Z).set i e = (l.take (i + 1)).map f ++ List.replicate (l.length - (i + 1)) Z := by
  have h : i < l.length := (List.getElem?_eq_some_iff.1 hx).1
  have hl : ((l.take i).map f).length = i := by rw [List.length_map, List.length_take]; omega
  rw [List.set_append_right _ _ (by omega)]
  rw [hl, Nat.sub_self, show l.length - i = (l.length - (i + 1)) + 1 by omega, List.replicate_succ, List.set_cons_zero, List.take_add_one, hx, he]
  simp
attribute [go_sem] List.take_length Nat.sub_self snoc_str snoc_int snoc_row snoc_hunk snoc_group app_map ge_iff_le gt_iff_lt dStr dStrs dInts dHunk dRow dGroup dFD dFile dOrder tS_eq tO_eq strip_map map_strip_str map_strip_int map_strip_row map_strip_hunk map_strip_group map_strip_fd
  cells_all_str cells_all_int cells_all_row cells_all_hunk cells_all_group cells_all_fd decide_eq_false_iff_not Bool.not_eq_true' Bool.not_eq_false' Bool.not_true Bool.not_false

/-! ### lines -/
def inr (n lo hi : Int) : Bool := decide (lo ≤ n) && decide (n ≤ hi)
def ends (s : Str) : Bool := s.getLast? == some 10
def isLine (s : Str) : Bool := inr s.length 1 30 && !(s.dropLast.contains 10)
def areLines (l : List Str) : Bool := decide (l.length ≤ 40) && l.all isLine
def goodLines (l : List Str) : Bool := areLines l && l.dropLast.all ends
def isWhole (l : List Str) : Bool := match l.getLast? with
  | none => true
  | some s => ends s

def idxOf {α : Type} (p : α → Bool) (l : List α) : Int := match l.findIdx? p with
  | some i => i
  | none => -1

theorem idxOf_found {α : Type} {p : α → Bool} {l : List α} {i : Nat} {x : α} (h : ∀ (j : Nat) (y : α), j < i → l[j]? = some y → p y = false) (hx : l[i]? = some x) (hp : p x = true) : idxOf p l = i := by
  have hlt : i < l.length := (List.getElem?_eq_some_iff.1 hx).1
  have : l.findIdx? p = some i := by
    rw [List.findIdx?_eq_some_iff_getElem]
    refine ⟨hlt, by rw [List.getElem?_eq_getElem hlt] at hx; rw [Option.some.inj hx]; exact hp, fun j hj => ?_⟩
    have := h j _ hj (List.getElem?_eq_getElem (by omega))
    simp [this]
  simp [idxOf, this]
theorem idxOf_none {α : Type} {p : α → Bool} {l : List α} (h : ∀ (j : Nat) (y : α), l[j]? = some y → p y = false) : idxOf p l = -1 := by
  have : l.findIdx? p = none := by
    rw [List.findIdx?_eq_none_iff]
    intro x hx
    obtain ⟨j, hj, rfl⟩ := List.getElem_of_mem hx
    exact h j _ (List.getElem?_eq_getElem hj)
  simp [idxOf, this]
theorem idxOf_nonneg {α : Type} (p : α → Bool) (l : List α) : decide (0 ≤ idxOf p l) = l.any p := by
  unfold idxOf
  cases h : l.findIdx? p with
  | none => rw [List.findIdx?_eq_none_iff] at h; simp; exact fun x hx => by simpa using h x hx
  | some i =>
    rw [List.findIdx?_eq_some_iff_getElem] at h
    obtain ⟨h1, h2, _⟩ := h
    have : l.any p = true := List.any_eq_true.2 ⟨_, List.getElem_mem h1, h2⟩
    simp [this]
/-- What a closure holds is no object. -/
def capsOk (caps : List AV) : Prop := ∀ p, caps.all (AV.ok1 p) = true
theorem capsOk.okIds {caps : List AV} (h : capsOk caps) (p : Nat → Bool) : caps.all (AV.okIds p) = true := by
  rw [List.all_eq_true]
  intro x hx
  have := List.all_eq_true.1 (h p) x hx
  cases x <;> first | exact this | simp [AV.ok1] at this
theorem capsOk_nil : capsOk [] := fun _ => rfl

theorem any_not {α : Type} (p : α → Bool) (l : List α) : (l.any fun x => !p x) = !l.all p := by
  induction l with
  | nil => rfl
  | cons x r ih => simp [List.any_cons, ih]

theorem dropLast_all {α : Type} (p : α → Bool) (l : List α) : l.dropLast.all p = true ↔ ∀ (j : Nat) (x : α), j + 1 < l.length → l[j]? = some x → p x = true := by
  rw [List.all_eq_true]
  constructor
  · intro h j x hj hx
    refine h x (List.mem_iff_getElem?.2 ⟨j, ?_⟩)
    rw [List.getElem?_dropLast, if_pos (by omega)]; exact hx
  · intro h x hx
    obtain ⟨j, hj⟩ := List.mem_iff_getElem?.1 hx
    rw [List.getElem?_dropLast] at hj
    split at hj
    · exact h j x (by omega) hj
    · cases hj
theorem goodLines_true {l : List Str} (ha : areLines l = true) (h : ∀ (j : Nat) (x : Str), j + 1 < l.length → l[j]? = some x → ends x = true) : goodLines l = true := by
  unfold goodLines; rw [ha, (dropLast_all ends l).2 h]; rfl
theorem goodLines_false {l : List Str} {j : Nat} {x : Str} (hj : j + 1 < l.length) (hx : l[j]? = some x) (he : ends x = false) : goodLines l = false := by
  unfold goodLines
  have : l.dropLast.all ends = false := by
    rw [Bool.eq_false_iff]; intro h
    rw [(dropLast_all ends l).1 h j x hj hx] at he; cases he
  rw [this, Bool.and_false]
theorem isLine_true {s : Str} (h1 : inr s.length 1 30 = true) (h : ∀ j, j + 1 < s.length → s[j]? ≠ some 10) : isLine s = true := by
  unfold isLine
  rw [h1, Bool.true_and, Bool.not_eq_true', Bool.eq_false_iff]
  intro hc
  rw [List.contains_iff_mem] at hc
  obtain ⟨j, hj⟩ := List.mem_iff_getElem?.1 hc
  rw [List.getElem?_dropLast] at hj
  split at hj
  · exact h j (by omega) hj
  · cases hj
theorem isLine_false {s : Str} {j : Nat} (hj : j + 1 < s.length) (hx : s[j]? = some 10) : isLine s = false := by
  unfold isLine
  have : s.dropLast.contains 10 = true := by
    rw [List.contains_iff_mem]
    refine List.mem_iff_getElem?.2 ⟨j, ?_⟩
    rw [List.getElem?_dropLast, if_pos (by omega)]; exact hx
  rw [this]; simp
theorem isLine_len {s : Str} (h1 : inr s.length 1 30 = false) : isLine s = false := by unfold isLine; rw [h1]; rfl
theorem isLine_pos {s : Str} (h : isLine s = true) : 0 < s.length := by
  simp only [isLine, inr, Bool.and_eq_true, decide_eq_true_eq] at h; omega
theorem goodLines_bad {l : List Str} {i : Nat} {x : Str} (hx : l[i]? = some x) (h : isLine x = false ∨ (i + 1 < l.length ∧ ends x = false)) : goodLines l = false := by
  rcases h with h | ⟨h1, h2⟩
  · have : l.all isLine = false := by
      rw [Bool.eq_false_iff]; intro ha
      rw [List.all_eq_true.1 ha x (List.mem_of_getElem? hx)] at h; cases h
    simp [goodLines, areLines, this]
  · exact goodLines_false h1 hx h2
theorem goodLines_all {l : List Str} (h1 : ∀ (j : Nat) (x : Str), l[j]? = some x → isLine x = true) (h2 : ∀ (j : Nat) (x : Str), j + 1 < l.length → l[j]? = some x → ends x = true) : goodLines l = decide ((l.length : Int) ≤ 40) := by
  have a : l.all isLine = true := List.all_eq_true.2 fun x hx => by obtain ⟨j, hj⟩ := List.mem_iff_getElem?.1 hx; exact h1 j x hj
  have b := (dropLast_all ends l).2 h2
  have : decide ((l.length : Int) ≤ 40) = decide (l.length ≤ 40) := by apply decide_eq_decide.2; omega
  simp [goodLines, areLines, a, b, this]
theorem byte_eq {x c : UInt8} (h : (x.toNat : Int) = c.toNat) : x = c := by
  apply UInt8.toNat_inj.1; omega
theorem ends_at {s : Str} {x : UInt8} (hx : s[s.length - 1]? = some x) : ends s = ((x.toNat : Int) == 10) := by
  unfold ends
  rw [List.getLast?_eq_getElem?, hx, Bool.eq_iff_iff]
  simp only [beq_iff_eq, Option.some.injEq]
  constructor
  · rintro rfl; rfl
  · intro h; exact byte_eq h

/-! ### groups -/
def oldOf (g : Group) : List Str := (g.Rows.filter fun r => r.Kind != 3).map (·.Line)
def newOf (g : Group) : List Str := (g.Rows.filter fun r => r.Kind != 2).map (·.Line)
def rowsFrom : Option Int → List Row → Bool
  | _, [] => true
  | p, r :: t => inr r.Kind 1 3 && isLine r.Line && !(p == some 3 && r.Kind == 2) && rowsFrom (some r.Kind) t
def prevKind (l : List Row) (i : Nat) : Option Int := if i = 0 then none else (l[i - 1]?).map (·.Kind)
def goodGroup (g : Group) : Bool :=
  inr g.At 0 999 && inr g.To 0 999 && inr g.Rows.length 1 80 && rowsFrom none g.Rows && g.Rows.any (fun r => r.Kind != 1) &&
  goodLines (oldOf g) && goodLines (newOf g) && decide (g.At + (oldOf g).length ≤ 1000) && decide (g.To + (newOf g).length ≤ 1000)
theorem rowsFrom_step {l : List Row} {i : Nat} {x : Row} (hx : l[i]? = some x) (h : inr x.Kind 1 3 = true) (h2 : isLine x.Line = true) (h3 : (prevKind l i == some 3 && x.Kind == 2) = false) :
    rowsFrom (prevKind l i) (l.drop i) = rowsFrom (prevKind l (i + 1)) (l.drop (i + 1)) := by
  have e : prevKind l (i + 1) = some x.Kind := by simp [prevKind, hx]
  rw [drop_cons hx, e]
  simp only [rowsFrom, h, h2, h3, Bool.not_false, Bool.and_self, Bool.true_and]
theorem rowsFrom_bad {l : List Row} {i : Nat} {x : Row} (hx : l[i]? = some x) (h : (inr x.Kind 1 3 && isLine x.Line && !(prevKind l i == some 3 && x.Kind == 2)) = false) :
    rowsFrom (prevKind l i) (l.drop i) = false := by
  rw [drop_cons hx]
  simp only [rowsFrom, h, Bool.false_and]
theorem any_step {α : Type} {p : α → Bool} {l : List α} {i : Nat} {x : α} (hx : l[i]? = some x) : (l.drop i).any p = (p x || (l.drop (i + 1)).any p) := by
  rw [drop_cons hx, List.any_cons]
theorem prevKind_pos {l : List Row} {i : Nat} {y : Row} (h : 0 < i) (hy : l[i - 1]? = some y) : prevKind l i = some y.Kind := by
  simp [prevKind, show i ≠ 0 by omega, hy]
theorem prevKind_zero {l : List Row} : prevKind l 0 = none := rfl
theorem oldOf_len (g : Group) : (oldOf g).length ≤ g.Rows.length := by
  unfold oldOf; rw [List.length_map]; exact List.length_filter_le _ _
theorem newOf_len (g : Group) : (newOf g).length ≤ g.Rows.length := by
  unfold newOf; rw [List.length_map]; exact List.length_filter_le _ _
theorem oldOf_mem (g : Group) {n : Nat} (h : ∀ r ∈ g.Rows, r.Line.length ≤ n) : ∀ s ∈ oldOf g, s.length ≤ n := by
  intro s hs
  obtain ⟨r, hr, rfl⟩ := List.mem_map.1 hs
  exact h r (List.mem_filter.1 hr).1
theorem newOf_mem (g : Group) {n : Nat} (h : ∀ r ∈ g.Rows, r.Line.length ≤ n) : ∀ s ∈ newOf g, s.length ≤ n := by
  intro s hs
  obtain ⟨r, hr, rfl⟩ := List.mem_map.1 hs
  exact h r (List.mem_filter.1 hr).1
theorem goodGroup_head {g : Group} (h : (inr g.At 0 999 = false ∨ inr g.To 0 999 = false) ∨ inr g.Rows.length 1 80 = false) : goodGroup g = false := by
  unfold goodGroup; rcases h with (h | h) | h <;> simp [h]
theorem goodGroup_rows {g : Group} (h : rowsFrom none g.Rows = false) : goodGroup g = false := by
  unfold goodGroup; simp [h]
theorem prevKind_if {l : List Row} {i : Nat} {y : Row} (hy : l[i - 1]? = some y) : prevKind l i = if (0 : Int) < i then some y.Kind else none := by
  by_cases h : 0 < i
  · rw [if_pos (by omega), prevKind_pos h hy]
  · have : i = 0 := by omega
    subst this; rfl
/-! ### lists of which each member fits the one ahead -/
def chain {α : Type} (ok : Option α → α → Bool) : Option α → List α → Bool
  | _, [] => true
  | p, x :: t => ok p x && chain ok (some x) t
def prevOf {α : Type} (l : List α) (i : Nat) : Option α := if i = 0 then none else l[i - 1]?
theorem prevOf_zero {α : Type} {l : List α} : prevOf l 0 = none := rfl
theorem prevOf_succ {α : Type} {l : List α} {i : Nat} {x : α} (hx : l[i]? = some x) : prevOf l (i + 1) = some x := by simp [prevOf, hx]
theorem prevOf_if {α : Type} {l : List α} {i : Nat} {y : α} (hy : l[i - 1]? = some y) : prevOf l i = if (0 : Int) < i then some y else none := by
  by_cases h : 0 < i
  · rw [if_pos (by omega)]; simp [prevOf, show i ≠ 0 by omega, hy]
  · have : i = 0 := by omega
    subst this; rfl
theorem chain_step {α : Type} {ok : Option α → α → Bool} {l : List α} {i : Nat} {x : α} (hx : l[i]? = some x) (h : ok (prevOf l i) x = true) :
    chain ok (prevOf l i) (l.drop i) = chain ok (prevOf l (i + 1)) (l.drop (i + 1)) := by
  rw [drop_cons hx, prevOf_succ hx]
  simp only [chain, h, Bool.true_and]
theorem chain_bad {α : Type} {ok : Option α → α → Bool} {l : List α} {i : Nat} {x : α} (hx : l[i]? = some x) (h : ok (prevOf l i) x = false) : chain ok (prevOf l i) (l.drop i) = false := by
  rw [drop_cons hx]
  simp only [chain, h, Bool.false_and]

def okG (p : Option Group) (g : Group) : Bool := goodGroup g && match p with
  | none => true
  | some y => !(decide (g.At < y.At + (oldOf y).length) || decide (g.To < y.To + (newOf y).length))
def goodGroups (l : List Group) : Bool := decide (l.length ≤ 20) && chain okG none l
theorem goodGroup_bd {g : Group} (h : goodGroup g = true) : 0 ≤ g.At ∧ g.At ≤ 1000 ∧ 0 ≤ g.To ∧ g.To ≤ 1000 ∧ 1 ≤ g.Rows.length ∧ g.Rows.length ≤ 80 := by
  simp only [goodGroup, inr, Bool.and_eq_true, decide_eq_true_eq] at h; omega
theorem goodGroups_bad {l : List Group} (h : chain okG none l = false) : goodGroups l = false := by simp [goodGroups, h]

theorem u8_lt (x : UInt8) (n : Nat) (hn : n < 256) : decide ((x.toNat : Int) < n) = decide (x.toNat < n) := by apply decide_eq_decide.2; omega
/-! ### many texts -/
def nameByte (b : UInt8) : Bool := (97 ≤ b && b ≤ 122) || (48 ≤ b && b ≤ 57) || b == 46 || b == 47
def isName (s : Str) : Bool := inr s.length 1 12 && s.all nameByte
set_option maxRecDepth 100000 in
theorem nameByte_eq (b : UInt8) : nameByte b = !((decide ((b.toNat : Int) < 97) || decide ((122 : Int) < b.toNat)) && (decide ((b.toNat : Int) < 48) || decide ((57 : Int) < b.toNat)) && ((b.toNat : Int) != 46) && ((b.toNat : Int) != 47)) := by
  rcases b with ⟨⟨n, hn⟩⟩
  revert n
  decide
def isAll (g : List Group) (kind : Int) : Bool := decide (g.length ≤ 1) && g.all fun x => x.At == 0 && x.To == 0 && x.Rows.all (fun r => r.Kind == kind)
def goodPart (d : FDiff) : Bool :=
  isName d.Name && goodGroups d.Part && (if d.Kind == 1 then isAll d.Part 3 else if d.Kind == 2 then isAll d.Part 2 else d.Kind == 3 && decide (0 < d.Part.length))
def FDok (d : FDiff) : Prop := d.Name.length ≤ 1099511627776 ∧ d.Part.length ≤ 1099511627776 ∧ (∀ g ∈ d.Part, g.Rows.length ≤ 1099511627776) ∧ ∀ g ∈ d.Part, ∀ r ∈ g.Rows, r.Line.length ≤ 1099511627776
def okD (p : Option FDiff) (d : FDiff) : Bool := goodPart d && match p with
  | none => true
  | some y => bytesLess y.Name d.Name
def goodDiffs (l : List FDiff) : Bool := decide (l.length ≤ 16) && chain okD none l
theorem goodDiffs_bad {l : List FDiff} (h : chain okD none l = false) : goodDiffs l = false := by simp [goodDiffs, h]
end Go.Vi
