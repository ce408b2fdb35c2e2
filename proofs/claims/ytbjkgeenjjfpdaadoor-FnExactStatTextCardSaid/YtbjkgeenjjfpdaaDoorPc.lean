/- Plain laws of what is counted and told of many texts: numerals, counts of rows, the short text of diffs. No statement is proved in this text. -/
import Derived.Test.YtbjkgeenjjfpdaaDoorPb
import Derived.Lib.ItoaNum
set_option linter.all false
set_option autoImplicit true
namespace Go.Vi
open Go
set_option linter.unusedVariables false

theorem dec_small {n : Nat} (h : n < 10) : Lib.decDigits n = [UInt8.ofNat (48 + n)] := Lib.decDigits_one h
theorem dec_big {n : Nat} (h : ¬ n < 10) : Lib.decDigits n = Lib.decDigits (n / 10) ++ [UInt8.ofNat (48 + n % 10)] := by rw [Lib.decDigits, dif_neg h]
theorem dec_len : ∀ n : Nat, (Lib.decDigits n).length ≤ n + 1 := by
  intro n
  induction n using Nat.strongRecOn with
  | _ n ih =>
    by_cases h : n < 10
    · rw [dec_small h]; simp
    · rw [dec_big h, List.length_append]
      have := ih (n / 10) (by omega)
      simp only [List.length_singleton]
      omega
theorem chain_mem {α : Type} {ok : Option α → α → Bool} : ∀ {l : List α} {p : Option α}, chain ok p l = true → ∀ x ∈ l, ∃ q, ok q x = true
  | y :: t, p, h, x, hx => by
    simp only [chain, Bool.and_eq_true] at h
    rcases List.mem_cons.1 hx with rfl | hx
    · exact ⟨p, h.1⟩
    · exact chain_mem h.2 x hx
theorem goodDiffs_mem {l : List FDiff} (h : goodDiffs l = true) {d : FDiff} (hd : d ∈ l) : goodPart d = true := by
  simp only [goodDiffs, Bool.and_eq_true] at h
  obtain ⟨q, hq⟩ := chain_mem h.2 d hd
  simp only [okD, Bool.and_eq_true] at hq
  exact hq.1
theorem goodGroups_mem {l : List Group} (h : goodGroups l = true) {g : Group} (hg : g ∈ l) : goodGroup g = true := by
  simp only [goodGroups, Bool.and_eq_true] at h
  obtain ⟨q, hq⟩ := chain_mem h.2 g hg
  simp only [okG, Bool.and_eq_true] at hq
  exact hq.1
theorem goodPart_parts {d : FDiff} (h : goodPart d = true) : isName d.Name = true ∧ goodGroups d.Part = true := by
  simp only [goodPart, Bool.and_eq_true] at h
  exact h.1
theorem isName_len {s : Str} (h : isName s = true) : 1 ≤ s.length ∧ s.length ≤ 12 := by
  simp only [isName, inr, Bool.and_eq_true, decide_eq_true_eq] at h; omega
theorem rowsFrom_mem : ∀ {l : List Row} {p : Option Int}, rowsFrom p l = true → ∀ r ∈ l, 1 ≤ r.Kind ∧ r.Kind ≤ 3 ∧ isLine r.Line = true
  | y :: t, p, h, x, hx => by
    simp only [rowsFrom, inr, Bool.and_eq_true, decide_eq_true_eq] at h
    rcases List.mem_cons.1 hx with rfl | hx
    · exact ⟨h.1.1.1.1, h.1.1.1.2, h.1.1.2⟩
    · exact rowsFrom_mem h.2 x hx
theorem goodGroup_rowsOk {g : Group} (h : goodGroup g = true) : ∀ r ∈ g.Rows, 1 ≤ r.Kind ∧ r.Kind ≤ 3 ∧ isLine r.Line = true := by
  simp only [goodGroup, Bool.and_eq_true] at h
  exact rowsFrom_mem h.1.1.1.1.1.2

/-! ### counts -/
def isK (k : Int) (r : Row) : Nat := if r.Kind = k then 1 else 0
def cntR (k : Int) (l : List Row) : Nat := sumBy (isK k) l
def cntG (k : Int) (l : List Group) : Nat := sumBy (fun g => cntR k g.Rows) l
theorem sumBy_le {α : Type} {f : α → Nat} {c : Nat} : ∀ {l : List α}, (∀ x ∈ l, f x ≤ c) → sumBy f l ≤ l.length * c
  | [], _ => by simp [sumBy]
  | x :: r, h => by
    have h1 := h x (by simp)
    have h2 := sumBy_le (f := f) (c := c) (l := r) fun y hy => h y (by simp [hy])
    simp only [sumBy, List.length_cons, Nat.add_mul]
    omega
theorem sumBy_split {α : Type} {f : α → Nat} : ∀ (l : List α) (i : Nat), sumBy f (l.take i) + sumBy f (l.drop i) = sumBy f l
  | [], i => by simp [sumBy]
  | x :: r, 0 => by simp [sumBy]
  | x :: r, i + 1 => by
    have := sumBy_split (f := f) r i
    simp only [List.take_succ_cons, List.drop_succ_cons, sumBy]
    omega
theorem cntR_le (k : Int) (l : List Row) : cntR k l ≤ l.length := by
  have := sumBy_le (f := isK k) (c := 1) (l := l) fun r _ => by unfold isK; split <;> omega
  unfold cntR; omega
theorem cntG_le {k : Int} {l : List Group} (h : goodGroups l = true) : cntG k l ≤ 1600 := by
  have h1 : ∀ g ∈ l, cntR k g.Rows ≤ 80 := fun g hg => by
    have := goodGroup_bd (goodGroups_mem h hg)
    have := cntR_le k g.Rows
    omega
  have h2 := sumBy_le (f := fun g : Group => cntR k g.Rows) (c := 80) h1
  have h3 : l.length ≤ 20 := by simp only [goodGroups, Bool.and_eq_true, decide_eq_true_eq] at h; omega
  unfold cntG; omega

theorem cntR_drop {k : Int} {l : List Row} {i : Nat} {x : Row} (hx : l[i]? = some x) : cntR k (l.drop i) = isK k x + cntR k (l.drop (i + 1)) := sumBy_drop hx
theorem cntG_drop {k : Int} {l : List Group} {i : Nat} {x : Group} (hx : l[i]? = some x) : cntG k (l.drop i) = cntR k x.Rows + cntG k (l.drop (i + 1)) := sumBy_drop (f := fun g : Group => cntR k g.Rows) hx
theorem cntR_end {k : Int} {l : List Row} {i : Nat} (h : l.length ≤ i) : cntR k (l.drop i) = 0 := by rw [List.drop_eq_nil_iff.2 h]; rfl
theorem cntG_end {k : Int} {l : List Group} {i : Nat} (h : l.length ≤ i) : cntG k (l.drop i) = 0 := by rw [List.drop_eq_nil_iff.2 h]; rfl
/-- Four counters, by a row's kind. -/
def sel4 (k : Int) (a b c : Nat) : Nat := if k = 1 then a else if k = 2 then b else c
theorem sel4_le {k : Int} {a b c n : Nat} (h1 : a ≤ n) (h2 : b ≤ n) (h3 : c ≤ n) : sel4 k a b c ≤ n := by unfold sel4; split <;> (try split) <;> omega
theorem sel4_get {k : Int} (h : 1 ≤ k ∧ k ≤ 3) (a b c : Nat) : [DV.int .i64 0, .int .i64 a, .int .i64 b, .int .i64 c][k.toNat]? = some (.int .i64 (sel4 k a b c)) := by
  obtain rfl | rfl | rfl : k = 1 ∨ k = 2 ∨ k = 3 := by omega
  all_goals rfl
theorem sel4_set {r : Row} (h : 1 ≤ r.Kind ∧ r.Kind ≤ 3) (a b c : Nat) : [DV.int .i64 0, .int .i64 a, .int .i64 b, .int .i64 c].set r.Kind.toNat (.int .i64 ((sel4 r.Kind a b c : Nat) + 1)) =
    [DV.int .i64 0, .int .i64 (a + isK 1 r : Nat), .int .i64 (b + isK 2 r : Nat), .int .i64 (c + isK 3 r : Nat)] := by
  obtain h | h | h : r.Kind = 1 ∨ r.Kind = 2 ∨ r.Kind = 3 := by omega
  all_goals simp [h, isK, sel4]
def statLine (d : FDiff) : Str := d.Name ++ [32, 43] ++ Lib.decDigits (cntG 3 d.Part) ++ [32, 45] ++ Lib.decDigits (cntG 2 d.Part) ++ [10]
def statText (l : List FDiff) : Str := l.flatMap statLine
theorem statLine_len {d : FDiff} (h : goodPart d = true) : (statLine d).length ≤ 4000 := by
  obtain ⟨h1, h2⟩ := goodPart_parts h
  have := isName_len h1
  have a := cntG_le (k := 3) h2
  have b := cntG_le (k := 2) h2
  have c := dec_len (cntG 3 d.Part)
  have e := dec_len (cntG 2 d.Part)
  simp only [statLine, List.length_append, List.length_cons, List.length_nil]
  omega
theorem statText_len : ∀ {l : List FDiff}, (∀ d ∈ l, goodPart d = true) → (statText l).length ≤ l.length * 4000
  | [], _ => by simp [statText]
  | x :: r, h => by
    have h1 := statLine_len (h x (by simp))
    have h2 := statText_len (l := r) fun y hy => h y (by simp [hy])
    simp only [statText, List.flatMap_cons, List.length_append, List.length_cons, Nat.add_mul] at h2 ⊢
    omega
theorem flatMap_take {α β : Type} (f : α → List β) {l : List α} {i : Nat} {x : α} (hx : l[i]? = some x) : (l.take (i + 1)).flatMap f = (l.take i).flatMap f ++ f x := by
  rw [List.take_add_one, hx]; simp
theorem statText_take {l : List FDiff} {i : Nat} (h : goodDiffs l = true) : ((l.take i).flatMap statLine).length ≤ 64000 := by
  have h1 := statText_len (l := l.take i) fun d hd => goodDiffs_mem h (List.mem_of_mem_take hd)
  have h2 : l.length ≤ 16 := by simp only [goodDiffs, Bool.and_eq_true, decide_eq_true_eq] at h; omega
  have h3 : (l.take i).length ≤ l.length := by rw [List.length_take]; omega
  unfold statText at h1
  omega
end Go.Vi
