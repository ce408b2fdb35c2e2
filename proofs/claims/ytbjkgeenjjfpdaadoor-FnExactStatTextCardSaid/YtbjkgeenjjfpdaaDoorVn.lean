/- Running code on pure states by rewriting: frames told by the slots that are known, and one rule for each piece of code. -/
import Derived.Test.YtbjkgeenjjfpdaaDoorVm
set_option linter.all false
set_option autoImplicit true
namespace Go.Vi
open Go Go.RowKit
set_option linter.unusedVariables false

def lk : List (Nat × AV) → Nat → AV
  | [], _ => .undef
  | (k, x) :: r, t => if k = t then x else lk r t
def up : List (Nat × AV) → Nat → AV → List (Nat × AV)
  | [], d, x => [(d, x)]
  | (k, y) :: r, d, x => if k = d then (d, x) :: r else (k, y) :: up r d x
/-- A frame of n slots, of which some are known. -/
def Sp (n : Nat) (l : List (Nat × AV)) : List AV := (List.range n).map (lk l)

theorem lk_up (l : List (Nat × AV)) (d t : Nat) (x : AV) : lk (up l d x) t = if d = t then x else lk l t := by
  induction l with
  | nil => simp [up, lk]
  | cons p r ih =>
    obtain ⟨k, y⟩ := p
    by_cases hk : k = d
    · subst hk; simp only [up, if_true, lk]; split <;> rfl
    · simp only [up, if_neg hk, lk, ih]
      split
      · rename_i h; rw [if_neg]; omega
      · rfl
theorem Sp_getD {n t : Nat} {l : List (Nat × AV)} (h : t < n) : (Sp n l).getD t .undef = lk l t := by
  simp [Sp, List.getD_eq_getElem?_getD, h]
theorem Sp_set {n d : Nat} {l : List (Nat × AV)} {x : AV} : (Sp n l).set d x = Sp n (up l d x) := by
  apply List.ext_getElem?
  intro i
  rw [List.getElem?_set]
  simp only [Sp, List.length_map, List.length_range, List.getElem?_map]
  by_cases hi : i < n
  · simp only [List.getElem?_range hi, Option.map_some, lk_up]
    split
    · rename_i h; subst h; simp [hi]
    · rfl
  · rw [List.getElem?_eq_none (by simpa using hi)]
    split
    · rename_i h; subst h; simp [hi]
    · rfl
theorem Sp_init : ∀ (args : List AV) (k : Nat), args ++ List.replicate (k - args.length) .undef = Sp (max k args.length) (args.zipIdx.map fun p => (p.2, p.1)) := by
  intro args k
  have key : ∀ (l : List AV) (m t : Nat), lk ((l.zipIdx m).map fun p => (p.2, p.1)) (m + t) = (l[t]?).getD .undef := by
    intro l
    induction l with
    | nil => intro m t; simp [lk]
    | cons x l ih =>
      intro m t
      simp only [List.zipIdx_cons, List.map_cons, lk]
      cases t with
      | zero => simp
      | succ t =>
        rw [if_neg (by omega), show m + (t + 1) = m + 1 + t by omega, ih]
        simp
  apply List.ext_getElem?
  intro i
  simp only [Sp, List.getElem?_map]
  have hl := key args 0 i
  simp only [Nat.zero_add] at hl
  by_cases hi : i < args.length
  · rw [List.getElem?_append_left hi, List.getElem?_range (by omega), Option.map_some, hl, List.getElem?_eq_getElem hi]
    rfl
  · rw [List.getElem?_append_right (by omega), List.getElem?_replicate]
    by_cases hk : i < k
    · rw [if_pos (by omega), List.getElem?_range (by omega), Option.map_some, hl, List.getElem?_eq_none (by omega)]
      rfl
    · rw [if_neg (by omega), List.getElem?_eq_none (by simp; omega)]
      rfl

theorem Sp_start {args : List AV} {k : Nat} {ob : List (Nat × List DV)} (h : args.length ≤ k) : (⟨args ++ List.replicate (k - args.length) .undef, ob⟩ : St) = ⟨Sp k (args.zipIdx.map fun p => (p.2, p.1)), ob⟩ := by
  rw [Sp_init, Nat.max_eq_left h]

section
variable {n : Nat} {l : List (Nat × AV)} {ob : List (Nat × List DV)}
theorem raw_tmp {t : Nat} (h : t < n) : St.raw ⟨Sp n l, ob⟩ (.tmp t) = lk l t := Sp_getD h
theorem raw_const {s : St} {v : Value} : s.raw (.const v) = constAV 0 v := rfl
theorem raw_func {s : St} {f : FuncId} : s.raw (.func f) = .fn f [] := rfl
theorem rd_tmp {t : Nat} (h : t < n) : St.rd ⟨Sp n l, ob⟩ (.tmp t) = (lk l t).plain := by rw [St.rd, raw_tmp h]
theorem rd_const {s : St} {v : Value} : s.rd (.const v) = (constAV 0 v).plain := rfl
theorem rd_func {s : St} {f : FuncId} : s.rd (.func f) = .fn f [] := rfl
def lft (t : Nat) : AV → List Wr
  | .ow d => [.slot t (.sh d.strip)]
  | _ => []
theorem left_tmp {t : Nat} (h : t < n) : St.left ⟨Sp n l, ob⟩ (.tmp t) = lft t (lk l t) := by
  simp only [St.left, Sp_getD h]
  cases lk l t <;> rfl
theorem left_const {s : St} {v : Value} : s.left (.const v) = [] := rfl
theorem left_func {s : St} {f : FuncId} : s.left (.func f) = [] := rfl
theorem wr_slot {d : Nat} {x : AV} : St.wr ⟨Sp n l, ob⟩ (.slot d x) = ⟨Sp n (up l d x), ob⟩ := by simp only [St.wr, Sp_set]
theorem wr_set {id : Nat} {xs : List DV} : St.wr ⟨Sp n l, ob⟩ (.set id xs) = ⟨Sp n l, setOb ob id xs⟩ := rfl
theorem wr_new {id : Nat} {xs : List DV} : St.wr ⟨Sp n l, ob⟩ (.new id xs) = ⟨Sp n l, (id, xs) :: ob⟩ := rfl
theorem wrs_nil {s : St} : s.wrs [] = s := rfl
theorem wrs_cons {s : St} {x : Wr} {r : List Wr} : s.wrs (x :: r) = (s.wr x).wrs r := rfl
theorem rawT_tmp {C : Cx} {ty : TypeId} {t : Nat} (h : t < n) : St.rawT C ty ⟨Sp n l, ob⟩ (.tmp t) = lk l t := Sp_getD h

def cut (p : Nat → Bool) (x : AV) : AV := if x.okIds p then x else .undef
def keepL (p : Nat → Bool) (ts : List Nat) (l : List (Nat × AV)) : List (Nat × AV) := ts.map fun t => (t, cut p (lk l t))
theorem lk_keepL {p : Nat → Bool} (ts : List Nat) (i : Nat) : lk (keepL p ts l) i = if ts.contains i then cut p (lk l i) else .undef := by
  induction ts with
  | nil => simp [keepL, lk]
  | cons t r ih =>
    simp only [keepL, List.map_cons, lk, List.contains_cons] at ih ⊢
    by_cases h : t = i
    · subst h; simp
    · rw [if_neg h, ih]
      have : (i == t) = false := by simpa using Ne.symm h
      simp [this]
theorem keepAt_at {p : Nat → Bool} {ts : List Nat} : ∀ (m : List AV) (k i : Nat), (keepAt p ts k m)[i]? = (m[i]?).map fun x => if ts.contains (k + i) && x.okIds p then x else .undef
  | [], k, i => by simp [keepAt]
  | x :: r, k, 0 => by simp [keepAt]
  | x :: r, k, i + 1 => by simp only [keepAt, List.getElem?_cons_succ, keepAt_at r]; rw [show k + 1 + i = k + (i + 1) by omega]
theorem keep_Sp {p : Nat → Bool} {ts : List Nat} : keepAt p ts 0 (Sp n l) = Sp n (keepL p ts l) := by
  apply List.ext_getElem?
  intro i
  rw [keepAt_at]
  simp only [Sp, List.getElem?_map, Nat.zero_add]
  by_cases hi : i < n
  · simp only [List.getElem?_range hi, Option.map_some, lk_keepL]
    congr 1
    cases ts.contains i <;> simp [cut]
  · simp [hi]
theorem freezeAt_at {p : Nat → Bool} {t : Nat} {y : AV} : ∀ (m : List AV) (k i : Nat), (freezeAt p t y k m)[i]? = (m[i]?).map fun x => if k + i = t then y else if x.okIds p then x else .undef
  | [], k, i => by simp [freezeAt]
  | x :: r, k, 0 => by simp [freezeAt]
  | x :: r, k, i + 1 => by simp only [freezeAt, List.getElem?_cons_succ, freezeAt_at r]; rw [show k + 1 + i = k + (i + 1) by omega]
def cutL (p : Nat → Bool) : List (Nat × AV) → List (Nat × AV)
  | [] => []
  | (k, x) :: r => (k, cut p x) :: cutL p r
theorem lk_cutL {p : Nat → Bool} (l : List (Nat × AV)) (i : Nat) : lk (cutL p l) i = cut p (lk l i) := by
  induction l with
  | nil => rfl
  | cons q r ih =>
    obtain ⟨k, x⟩ := q
    simp only [cutL, lk]
    split
    · rfl
    · exact ih
theorem freeze_Sp {p : Nat → Bool} {t : Nat} {y : AV} : freezeAt p t y 0 (Sp n l) = Sp n ((t, y) :: cutL p l) := by
  apply List.ext_getElem?
  intro i
  rw [freezeAt_at]
  simp only [Sp, List.getElem?_map, Nat.zero_add]
  by_cases hi : i < n
  · simp only [List.getElem?_range hi, Option.map_some, lk, lk_cutL]
    congr 1
    by_cases h : t = i
    · subst h; simp
    · rw [if_neg h, if_neg (Ne.symm h)]; rfl
  · simp [hi]
end

/-! ### a choice of which rewriting sees the test alone: what hangs on it stands where rewriting does not go -/
class Bx (α : Type) where
  v : α
def gite {α : Type} (b : Bool) [x : Bx α] [y : Bx α] : α := cond b x.v y.v
theorem gite_true {α : Type} {x y : α} : @gite α true ⟨x⟩ ⟨y⟩ = x := rfl
theorem gite_false {α : Type} {x y : α} : @gite α false ⟨x⟩ ⟨y⟩ = y := rfl
theorem gite_if {α : Type} {k t : Nat} {x y : α} : (if k = t then x else y) = @gite α (k == t) ⟨x⟩ ⟨y⟩ := by
  by_cases h : k = t
  · rw [if_pos h, h]; simp [gite]
  · rw [if_neg h, beq_eq_false_iff_ne.2 h]; rfl
theorem lk_nil {t : Nat} : lk [] t = .undef := rfl
theorem lk_cons {k t : Nat} {x : AV} {r : List (Nat × AV)} : lk ((k, x) :: r) t = @gite _ (k == t) ⟨x⟩ ⟨lk r t⟩ := gite_if
theorem up_nil {d : Nat} {x : AV} : up [] d x = [(d, x)] := rfl
theorem up_cons {k d : Nat} {x y : AV} {r : List (Nat × AV)} : up ((k, y) :: r) d x = @gite _ (k == d) ⟨(d, x) :: r⟩ ⟨(k, y) :: up r d x⟩ := gite_if
theorem getOb_nil {id : Nat} : getOb [] id = none := rfl
theorem getOb_cons {k id : Nat} {xs : List DV} {r : List (Nat × List DV)} : getOb ((k, xs) :: r) id = @gite _ (k == id) ⟨some xs⟩ ⟨getOb r id⟩ := gite_if
theorem setOb_nil {id : Nat} {xs : List DV} : setOb [] id xs = [] := rfl
theorem setOb_cons {k id : Nat} {xs ys : List DV} {r : List (Nat × List DV)} : setOb ((k, ys) :: r) id xs = @gite _ (k == id) ⟨(k, xs) :: r⟩ ⟨(k, ys) :: setOb r id xs⟩ := gite_if

/-! ### what is given up -/
section
variable {n : Nat} {l : List (Nat × AV)} {ob : List (Nat × List DV)}
theorem cvs_nil {s : St} : s.cvs [] = some s := rfl
theorem cvs_keep {ts ids : List Nat} {r : List Cv} : St.cvs ⟨Sp n l, ob⟩ (.keep ts ids :: r) = St.cvs ⟨Sp n (keepL (kept ids) ts l), keepOb (kept ids) ob⟩ r := by
  simp only [St.cvs, St.cv, keep_Sp, Option.bind_some]
def shareL (l : List (Nat × AV)) (t : Nat) : AV → List (Nat × AV)
  | .ow d => up l t (.sh d.strip)
  | _ => l
theorem cvs_share {t : Nat} {r : List Cv} (h : t < n) : St.cvs ⟨Sp n l, ob⟩ (.share t :: r) = St.cvs ⟨Sp n (shareL l t (lk l t)), ob⟩ r := by
  simp only [St.cvs, St.cv, Sp_getD h]
  cases lk l t <;> simp [shareL, Sp_set]
def frzL (n : Nat) (l : List (Nat × AV)) (ob : List (Nat × List DV)) (t id k : Nat) : AV → Option (List DV) → Option St
  | .os id' m k', some xs => if id' = id ∧ m = xs.length ∧ k' = k then some ⟨Sp n ((t, .ow (.sl k xs)) :: cutL (notId id) l), keepOb (notId id) ob⟩ else none
  | _, _ => none
theorem cvs_freeze {t id k : Nat} {r : List Cv} (h : t < n) : St.cvs ⟨Sp n l, ob⟩ (.freeze t id k :: r) = (frzL n l ob t id k (lk l t) (getOb ob id)).bind fun s => s.cvs r := by
  simp only [St.cvs, St.cv, Sp_getD h]
  cases lk l t <;> cases getOb ob id <;> simp only [frzL, freeze_Sp]
end

/-! ### one operation -/
section
variable {C : Cx} {tk : Bool} {s : St} {d : Option Nat} {ty : TypeId} {p : String} {a : Array Edge} {g : Option (Nat × Bool)}
def asgW (d : Option Nat) (t : Nat) : AV → Option (List Wr)
  | .tup _ => none
  | .ow e => some (.slot t (.sh e.strip) :: wrDst d (.ow e))
  | x => some (wrDst d x)
def cAV (C : Cx) (ty : TypeId) (v : Value) : AV := St.rawT C ty ⟨[], []⟩ (.const v)
/-- Sums that stay in the range. -/
theorem w64 {z : Int} (h1 : -9223372036854775808 ≤ z) (h2 : z ≤ 9223372036854775807) : IntKind.i64.wrap z = z := IntWalk.i64_in z ⟨h1, h2⟩
theorem wsucc {i : Nat} (h : i < 9223372036854775807) : IntKind.i64.wrap ((i : Int) + 1) = ((i + 1 : Nat) : Int) := w64 (by omega) (by omega)
theorem cAV_k (C : Cx) (ty : TypeId) (v : Value) : ∃ k, cAV C ty v = constAV k v := by
  have : cAV C ty v = match C ty with
    | some { td := .slice e, .. } => match C e with
      | some te => constAV te.size v
      | none => constAV 0 v
    | _ => constAV 0 v := rfl
  rw [this]
  split
  · split
    · exact ⟨_, rfl⟩
    · exact ⟨_, rfl⟩
  · exact ⟨_, rfl⟩
theorem cAV_bool {C : Cx} {ty : TypeId} {b : Bool} : cAV C ty (.bool b) = .sh (.bool b) := by
  obtain ⟨k, h⟩ := cAV_k C ty (.bool b); rw [h]; rfl
theorem cAV_int {C : Cx} {ty : TypeId} {k : IntKind} {n : Int} : cAV C ty (.int k n) = .sh (.int k n) := by
  obtain ⟨k, h⟩ := cAV_k C ty (.int k n); rw [h]; rfl
theorem cAV_str {C : Cx} {ty : TypeId} {b : ByteArray} : cAV C ty (.string b) = .sh (.str b.data.toList) := by
  obtain ⟨k, h⟩ := cAV_k C ty (.string b); rw [h]; rfl
theorem cAV_nil {C : Cx} {ty e : TypeId} {n m : Nat} {z : List DV} {q : List TD} {te : TI} (h : C ty = some ⟨.slice e, n, m, z, q⟩) (h2 : C e = some te) : cAV C ty (.slice none 0 0) = .ow (.sl te.size []) := by
  have : cAV C ty (.slice none 0 0) = match C ty with
    | some { td := .slice e, .. } => match C e with
      | some te => constAV te.size (.slice none 0 0)
      | none => constAV 0 (.slice none 0 0)
    | _ => constAV 0 (.slice none 0 0) := rfl
  rw [this, h]
  simp only [h2]
  rfl
theorem rd_bool {s : St} {b : Bool} : s.rd (.const (.bool b)) = .sh (.bool b) := rfl
theorem rd_int {s : St} {k : IntKind} {n : Int} : s.rd (.const (.int k n)) = .sh (.int k n) := rfl
theorem rd_str {s : St} {b : ByteArray} : s.rd (.const (.string b)) = .sh (.str b.data.toList) := rfl
theorem rd_nil {s : St} : s.rd (.const (.slice none 0 0)) = .sh (.sl 0 []) := rfl
theorem constAV_tup (k : Nat) (v : Value) : (constAV k v).isTup = false := by
  unfold constAV
  split
  · split <;> rfl
  · rfl
  · split <;> rfl
theorem eff_move_tmp {t : Nat} : eff C false ⟨d, .move (.tmp t), ty, p, a, g⟩ s = some (wrDst d (s.rd (.tmp t))) := rfl
theorem eff_move_func {f : FuncId} : eff C false ⟨d, .move (.func f), ty, p, a, g⟩ s = some (wrDst d (.fn f [])) := rfl
theorem eff_move_const {v : Value} : eff C tk ⟨d, .move (.const v), ty, p, a, g⟩ s = some (wrDst d (cAV C ty v)) := by
  simp only [eff, isConst, Bool.or_true, if_true, St.raw, constAV_tup, Bool.false_eq_true, if_false, St.left, List.nil_append]
  rfl
theorem asgW_eq {t : Nat} : (if (s.raw (.tmp t)).isTup = true then none else some (s.left (.tmp t) ++ wrDst d (s.rawT C ty (.tmp t)))) = asgW d t (s.raw (.tmp t)) := by
  have key : ∀ x : AV, s.fr.getD t .undef = x → (if (s.raw (.tmp t)).isTup = true then none else some (s.left (.tmp t) ++ wrDst d (s.rawT C ty (.tmp t)))) = asgW d t (s.raw (.tmp t)) := by
    intro x hx
    have h1 : s.raw (.tmp t) = x := hx
    have h2 : s.rawT C ty (.tmp t) = x := hx
    have h3 : s.left (.tmp t) = lft t x := by simp only [St.left, hx]; cases x <;> rfl
    rw [h1, h2, h3]
    cases x <;> rfl
  exact key _ rfl
def movW (d : Option Nat) (t : Nat) : AV → Option (List Wr)
  | .tup l => some (.slot t .undef :: wrDst d (.tup l))
  | .ow e => some (.slot t (.sh e.strip) :: wrDst d (.ow e))
  | x => some (wrDst d x)
theorem eff_move_take {t : Nat} : eff C true ⟨d, .move (.tmp t), ty, p, a, g⟩ s = movW d t (s.raw (.tmp t)) := by
  have h1 : eff C true ⟨d, .move (.tmp t), ty, p, a, g⟩ s = if (s.raw (.tmp t)).isTup then tupW d (.tmp t) (s.raw (.tmp t)) else some (s.left (.tmp t) ++ wrDst d (s.rawT C ty (.tmp t))) := rfl
  have h2 := asgW_eq (C := C) (s := s) (d := d) (ty := ty) (t := t)
  rw [h1]
  cases hx : s.raw (.tmp t) <;> rw [hx] at h2 <;> simp only [AV.isTup, Bool.false_eq_true, if_false, if_true] at h2 ⊢ <;> first | rfl | (rw [h2]; rfl)
theorem eff_assign_tmp {t : Nat} : eff C tk ⟨d, .assign (.tmp t), ty, p, a, g⟩ s = asgW d t (s.raw (.tmp t)) := asgW_eq
theorem eff_assign_const {v : Value} : eff C tk ⟨d, .assign (.const v), ty, p, a, g⟩ s = some (wrDst d (cAV C ty v)) := by
  simp only [eff, St.raw, constAV_tup, Bool.false_eq_true, if_false, St.left, List.nil_append]
  rfl
def pickW (d : Option Nat) (x y : AV) : AV → Option (List Wr)
  | .sh (.bool b) => some (wrDst d (cond b x y))
  | _ => none
theorem eff_pick {c x y : Operand} : eff C tk ⟨d, .pick c x y, ty, p, a, g⟩ s = pickW d (s.rd x) (s.rd y) (s.rd c) := by
  simp only [eff, pickW]
  split
  · rename_i b hb; simp only [hb]; cases b <;> rfl
  · rename_i h
    split
    · rename_i b hb; exact absurd hb (h b)
    · rfl
theorem eff_bin {op : BinOp} {t u : TypeId} {x y : Operand} : eff C tk ⟨d, .binOp op t x y u, ty, p, a, g⟩ s = (binAV C op t (s.rd x) (s.rd y)).map (wrDst d) := rfl
theorem eff_un {op : UnOp} {t : TypeId} {x : Operand} : eff C tk ⟨d, .unOp op t x, ty, p, a, g⟩ s = (unAV op (s.rd x)).map (wrDst d) := rfl
theorem eff_conv {t u : TypeId} {x : Operand} : eff C tk ⟨d, .convert t u x, ty, p, a, g⟩ s = (convAV C t u (s.rd x)).map (wrDst d) := rfl
theorem eff_index {t : TypeId} {x y : Operand} : eff C tk ⟨d, .index t x y, ty, p, a, g⟩ s = (byteAV C t (s.rd x) (s.rd y)).map (wrDst d) := rfl
theorem eff_indexAddr {t : TypeId} {x y : Operand} : eff C tk ⟨d, .indexAddr t x y, ty, p, a, g⟩ s = (indexAV C t s.ob (s.rd x) (s.rd y)).map (wrDst d) := rfl
theorem eff_fieldAddr {t : TypeId} {x : Operand} {f : Nat} : eff C tk ⟨d, .fieldAddr t x f, ty, p, a, g⟩ s = (fieldAV C t f (s.rd x)).map (wrDst d) := rfl
theorem eff_load {t : TypeId} {x : Operand} : eff C false ⟨d, .load t x, ty, p, a, g⟩ s = (loadAV C t s (s.rd x)).map (wrDst d) := rfl
theorem eff_len {t : TypeId} {x : Operand} : eff C tk ⟨d, .call { callee := .builtin .len, args := #[x], argTypes := #[t] }, ty, p, a, g⟩ s = (lenAV C t (s.rd x)).map (wrDst d) := rfl
theorem eff_append {t t' : TypeId} {x y : Operand} : eff C tk ⟨d, .call { callee := .builtin .append, args := #[x, y], argTypes := #[t, t'] }, ty, p, a, g⟩ s =
    if t = t' then (appendAV C t s (s.raw x) ((s.wrs (s.left x)).raw y)).map fun e => s.left x ++ ((s.wrs (s.left x)).left y ++ wrDst d (.ow e)) else none := rfl
theorem eff_slice {t : TypeId} {x : Operand} {lo hi : Option Operand} : eff C tk ⟨d, .slice t x lo hi none, ty, p, a, g⟩ s =
    (sliceAV C t (s.rd x) (match lo with | some l => s.rd l | none => .sh (.int .i64 0)) (match hi with | some h => s.rd h | none => lenInt (s.rd x))).map (wrDst d) := rfl
def extW (d : Option Nat) (t i : Nat) : AV → Option (List Wr)
  | .tup l => match l[i]? with
    | some v => some (.slot t (.tup (l.set i v.plain)) :: wrDst d v)
    | none => none
  | _ => none
theorem eff_extract {t i : Nat} : eff C tk ⟨d, .extract (.tmp t) i, ty, p, a, g⟩ s = extW d t i (s.raw (.tmp t)) := by
  simp only [eff, St.raw]
  cases s.fr.getD t .undef <;> rfl
theorem eff_nilCheck {x : Operand} : eff C tk ⟨d, .nilCheck x, ty, p, a, g⟩ s = match s.rd x with
    | .ptr id i j => some (wrDst d (.ptr id i j))
    | .rp e j => some (wrDst d (.rp e j))
    | _ => none := rfl
end

/-! ### pieces of code -/
section
variable {P : Program} {T : Nat → Nat → An} {Q : Exit → St → Prop} {s s' : St}
def oknil (an : An) : Bool := an.pre.isEmpty
def goesV (o : Oper) : Bool := match o.op with | .call { callee := .value _, .. } => true | _ => false
/-- Operations without guards and without calls, one behind the other. -/
def effs (C : Cx) (T : Nat → An) : Nat → List Oper → St → Option St
  | _, [], s => some s
  | n, o :: r, s => match eff C (T n).tk o s with
    | some ws => effs C T (n + 1) r (s.wrs ws)
    | none => none
def calm (T : Nat → An) : Nat → List Oper → Bool
  | _, [] => true
  | n, o :: r => o.guard.isNone && !goesV o && (T n).pre.isEmpty && calm T (n + 1) r
theorem opA_eff {an : An} {o : Oper} {gl : List Nat} {K : Ev → St → Prop} {ws : List Wr} (hp : an.pre.isEmpty = true) (ho : goesV o = false) (he : eff (mkC P) an.tk o s = some ws) (hk : K (evOf an o gl s ws) (s.wrs ws)) : opA P an o gl K s := by
  have : an.pre = [] := by simpa using hp
  unfold opA
  rw [this]
  show opB P an o gl K s
  unfold opB
  split
  · rename_i f xs ats hop
    simp [goesV, hop] at ho
  · rw [he]; exact hk
theorem regA_effs {Tr : Nat → An} {ops : Array Oper} {K : List Ev → St → Prop} : ∀ {l : List Oper} {n : Nat} {evs : List Ev} {s s' : St}, calm Tr n l = true → effs (mkC P) Tr n l s = some s' → (∀ evs, K evs s') → regA P Tr ops K n l evs s
  | [], n, evs, s, s', _, h, hk => by
    obtain rfl := Option.some.inj h
    exact hk evs
  | o :: r, n, evs, s, s', hc, h, hk => by
    simp only [calm, Bool.and_eq_true, Bool.not_eq_true', Option.isNone_iff_eq_none] at hc
    simp only [effs] at h
    split at h
    · rename_i ws hws
      rw [regA_cons]
      unfold oneA
      rw [hc.1.1.1]
      exact opA_eff hc.1.2 hc.1.1.2 hws (regA_effs hc.2 h hk)
    · cases h
/-- A region without guards and calls. -/
theorem a_reg {id : Nat} {ops : Array Oper} (hc : calm (T id) 0 ops.toList = true) (h : effs (mkC P) (T id) 0 ops.toList s = some s') (hk : Q .normal s') : awp P T (.region id ops false) Q s :=
  regA_effs hc h fun evs => ⟨by simp, hk⟩
theorem a_seq {x y : Code} (h : awp P T x (ethen (awp P T y Q) Q) s) : awp P T (.seq x y) Q s :=
  awp_mono x _ _ s h fun e s1 h1 => by
    cases e with
    | normal => exact ⟨[], s1, rfl, h1⟩
    | _ => exact h1
/-- All that comes out of the first is brought to one state. -/
theorem a_cut {x y : Code} (s' : St) (h : awp P T x (ethen (fun s1 => ∃ cv, s1.cvs cv = some s') Q) s) (hy : awp P T y Q s') : awp P T (.seq x y) Q s :=
  awp_mono x _ _ s h fun e s1 h1 => by
    cases e with
    | normal => obtain ⟨cv, h2⟩ := h1; exact ⟨cv, s', h2, hy⟩
    | _ => exact h1
/-- Something is given up between the two. -/
theorem a_keep {x y : Code} (cv : List Cv) (h : awp P T x (ethen (fun s1 => ∃ s2, s1.cvs cv = some s2 ∧ awp P T y Q s2) Q) s) : awp P T (.seq x y) Q s :=
  awp_mono x _ _ s h fun e s1 h1 => by
    cases e with
    | normal => obtain ⟨s2, h2, h3⟩ := h1; exact ⟨cv, s2, h2, h3⟩
    | _ => exact h1
theorem a_exit {id : Nat} (h : Q (.exit id) s) : awp P T (.exit id) Q s := h
theorem a_skip (h : Q .normal s) : awp P T .skip Q s := h
theorem a_ret (h : Q .ret s) : awp P T .ret Q s := h
theorem a_block {id : Nat} {c : Code} (h : awp P T c (eblk id Q) s) : awp P T (.block id c) Q s := h
theorem a_loop {c : Code} {ι : Type} (I : ι → St) (inv : ι → Prop) (μ : ι → Nat) (i : ι) (cv : List Cv) (h1 : s.cvs cv = some (I i)) (h2 : inv i)
    (h3 : ∀ i, inv i → awp P T c (ethen (fun s' => ∃ cv' i', s'.cvs cv' = some (I i') ∧ inv i' ∧ μ i' < μ i) Q) (I i)) : awp P T (.loop c) Q s := ⟨ι, I, inv, μ, i, cv, h1, h2, h3⟩
theorem a_cond {c : Operand} {x y : Code} {b : Bool} (h : s.rd c = .sh (.bool b)) (ht : b = true → awp P T x Q s) (hf : b = false → awp P T y Q s) : awp P T (.cond c x y) Q s := by
  simp only [awp, h]
  cases b
  · exact hf rfl
  · exact ht rfl

def gdAt : List (Option Nat) → Nat → Option Nat
  | [], _ => none
  | x :: _, 0 => x
  | _ :: r, n + 1 => gdAt r n
theorem gdAt_eq (ops : Array Oper) (j : Nat) : gdAt (ops.toList.map (·.dst)) j = (ops[j]?).bind (·.dst) := by
  have key : ∀ (l : List Oper) (j : Nat), gdAt (l.map (·.dst)) j = (l[j]?).bind (·.dst) := by
    intro l
    induction l with
    | nil => intro j; rfl
    | cons o r ih =>
      intro j
      cases j with
      | zero => rfl
      | succ j => simpa [gdAt] using ih j
  rw [key]; simp
/-- A region, run by rewriting; gd: where the operations put what they yield. -/
def regP (P : Program) (T : Nat → An) (gd : List (Option Nat)) (K : St → Prop) : Nat → List Oper → St → Prop
  | _, [], s => K s
  | n, o :: r, s => match o.guard with
    | none => if goesV o = true then opA P (T n) o [] (fun _ s' => regP P T gd K (n + 1) r s') s else if (T n).pre.isEmpty = true then match eff (mkC P) (T n).tk o s with
        | some ws => regP P T gd K (n + 1) r (s.wrs ws)
        | none => False
        else False
    | some (j, want) => match gdAt gd j with
      | some t => match s.fr.getD t .undef with
        | .sh (.bool b) => if b = want then (if goesV o = true then opA P (T n) o [2 * t] (fun _ s' => regP P T gd K (n + 1) r s') s else if (T n).pre.isEmpty = true then match eff (mkC P) (T n).tk o s with
            | some ws => regP P T gd K (n + 1) r (s.wrs ws)
            | none => False
            else False)
          else regP P T gd K (n + 1) r (s.wrs (wrDst o.dst .gone))
        | .gone => regP P T gd K (n + 1) r (s.wrs (wrDst o.dst .gone))
        | _ => False
      | none => False
/-- An operation that calls a function of the program: here rewriting stops. -/
def callP (P : Program) (T : Nat → An) (gd : List (Option Nat)) (K : St → Prop) (n : Nat) (o : Oper) (r : List Oper) (gl : List Nat) (s : St) : Prop :=
  opA P (T n) o gl (fun _ s' => regP P T gd K (n + 1) r s') s
def effP (P : Program) (T : Nat → An) (gd : List (Option Nat)) (K : St → Prop) (n : Nat) (r : List Oper) (s : St) : Option (List Wr) → Prop
  | some ws => regP P T gd K (n + 1) r (s.wrs ws)
  | none => False
theorem regP_nil {Tr : Nat → An} {gd : List (Option Nat)} {K : St → Prop} {n : Nat} : regP P Tr gd K n [] s = K s := rfl
/-- No guard. -/
theorem regP_op {Tr : Nat → An} {gd : List (Option Nat)} {K : St → Prop} {n : Nat} {r : List Oper} {d : Option Nat} {op : Op} {ty : TypeId} {p : String} {a : Array Edge} : regP P Tr gd K n (⟨d, op, ty, p, a, none⟩ :: r) s =
    if goesV ⟨d, op, ty, p, a, none⟩ = true then callP P Tr gd K n ⟨d, op, ty, p, a, none⟩ r [] s else if (Tr n).pre.isEmpty = true then effP P Tr gd K n r s (eff (mkC P) (Tr n).tk ⟨d, op, ty, p, a, none⟩ s) else False := by
  simp only [regP, callP]
  cases eff (mkC P) (Tr n).tk ⟨d, op, ty, p, a, none⟩ s <;> rfl
/-- A test that rewriting does not pass. -/
class Bp where
  p : Prop
def gIf (b : Bool) [x : Bp] [y : Bp] : Prop := if b = true then x.p else y.p
theorem gIf_true {x y : Prop} : @gIf true ⟨x⟩ ⟨y⟩ = x := by simp [gIf]
theorem gIf_false {x y : Prop} : @gIf false ⟨x⟩ ⟨y⟩ = y := by simp [gIf]
theorem gIf_both {b : Bool} {x y : Prop} (hx : b = true → x) (hy : b = false → y) : @gIf b ⟨x⟩ ⟨y⟩ := by
  cases b
  · rw [gIf_false]; exact hy rfl
  · rw [gIf_true]; exact hx rfl
theorem gIf_eq {b want : Bool} {x y : Prop} : @gIf (b == want) ⟨x⟩ ⟨y⟩ = if b = want then x else y := by cases b <;> cases want <;> simp [gIf]
def grdP (P : Program) (T : Nat → An) (gd : List (Option Nat)) (K : St → Prop) (n : Nat) (o : Oper) (r : List Oper) (s : St) (t : Nat) (want : Bool) : AV → Prop
  | .sh (.bool b) => @gIf (b == want) ⟨if goesV o = true then callP P T gd K n o r [2 * t] s else if (T n).pre.isEmpty = true then effP P T gd K n r s (eff (mkC P) (T n).tk o s) else False⟩ ⟨regP P T gd K (n + 1) r (s.wrs (wrDst o.dst .gone))⟩
  | .gone => regP P T gd K (n + 1) r (s.wrs (wrDst o.dst .gone))
  | _ => False
def grdT (P : Program) (T : Nat → An) (gd : List (Option Nat)) (K : St → Prop) (n : Nat) (o : Oper) (r : List Oper) (s : St) (want : Bool) : Option Nat → Prop
  | some t => grdP P T gd K n o r s t want (s.raw (.tmp t))
  | none => False
/-- A guard. -/
theorem regP_guard {Tr : Nat → An} {gd : List (Option Nat)} {K : St → Prop} {n : Nat} {r : List Oper} {d : Option Nat} {op : Op} {ty : TypeId} {p : String} {a : Array Edge} {j : Nat} {want : Bool} : regP P Tr gd K n (⟨d, op, ty, p, a, some (j, want)⟩ :: r) s =
    grdT P Tr gd K n ⟨d, op, ty, p, a, some (j, want)⟩ r s want (gdAt gd j) := by
  simp only [regP, grdT]
  cases gdAt gd j with
  | none => rfl
  | some t =>
    simp only [grdP, St.raw]
    generalize s.fr.getD t .undef = x
    cases x with
    | sh e =>
      cases e with
      | bool b =>
        simp only [callP, gIf_eq]
        cases eff (mkC P) (Tr n).tk ⟨d, op, ty, p, a, some (j, want)⟩ s <;> rfl
      | _ => rfl
    | _ => rfl
theorem effP_some {Tr : Nat → An} {gd : List (Option Nat)} {K : St → Prop} {n : Nat} {r : List Oper} {ws : List Wr} : effP P Tr gd K n r s (some ws) = regP P Tr gd K (n + 1) r (s.wrs ws) := rfl

theorem regP_sound {Tr : Nat → An} {ops : Array Oper} {K : St → Prop} : ∀ (l : List Oper) (n : Nat) (s : St), regP P Tr (ops.toList.map (·.dst)) K n l s → ∀ evs, regA P Tr ops (fun _ => K) n l evs s
  | [], n, s, h, evs => h
  | o :: r, n, s, h, evs => by
    have one : ∀ gl, (if goesV o = true then opA P (Tr n) o gl (fun _ s' => regP P Tr (ops.toList.map (·.dst)) K (n + 1) r s') s else if (Tr n).pre.isEmpty = true then match eff (mkC P) (Tr n).tk o s with
        | some ws => regP P Tr (ops.toList.map (·.dst)) K (n + 1) r (s.wrs ws)
        | none => False
        else False) → opA P (Tr n) o gl (fun e s' => regA P Tr ops (fun _ => K) (n + 1) r (e :: evs) s') s := by
      intro gl h
      split at h
      · exact opA_mono h fun e s' h' => regP_sound r _ _ h' _
      · rename_i hg
        split at h
        · rename_i hp
          split at h
          · rename_i ws hws
            exact opA_eff hp (by simpa using hg) hws (regP_sound r _ _ h _)
          · exact h.elim
        · exact h.elim
    rw [regA_cons]
    unfold oneA
    simp only [regP] at h
    cases hg : o.guard with
    | none => rw [hg] at h; exact one [] h
    | some q =>
      obtain ⟨j, want⟩ := q
      rw [hg] at h
      simp only [gdAt_eq] at h ⊢
      cases ht : (ops[j]?).bind (·.dst) with
      | none => rw [ht] at h; exact h.elim
      | some t =>
        rw [ht] at h
        simp only at h ⊢
        split at h
        · rename_i b hb
          simp only [hb]
          split at h
          · rename_i hbw; rw [if_pos hbw]; exact one [2 * t] h
          · rename_i hbw; rw [if_neg hbw]; exact regP_sound r _ _ h _
        · rename_i hb
          simp only [hb]
          exact regP_sound r _ _ h _
        · exact h.elim
theorem a_regP {id : Nat} {ops : Array Oper} (h : regP P (T id) (ops.toList.map (·.dst)) (Q .normal) 0 ops.toList s) : awp P T (.region id ops false) Q s :=
  regA_mono _ _ _ _ (regP_sound _ _ _ h []) fun e s h => ⟨by simp, h⟩
/-- One piece behind the other: what comes next is a letter. -/
theorem a_seqK {x y : Code} (h : ∀ K : St → Prop, (∀ s, awp P T y Q s → K s) → awp P T x (ethen K Q) s) : awp P T (.seq x y) Q s := a_seq (h _ fun _ h => h)
/-- A region, and what comes behind it. -/
theorem a_rs {id : Nat} {ops : Array Oper} {y : Code} (h : ∀ K : St → Prop, (∀ s, awp P T y Q s → K s) → regP P (T id) (ops.toList.map (·.dst)) K 0 ops.toList s) : awp P T (.seq (.region id ops false) y) Q s :=
  a_seqK fun K hK => a_regP (h K hK)

/-- A call, in a region. -/
theorem r_call {Tr : Nat → An} {gd : List (Option Nat)} {K : St → Prop} {n : Nat} {o : Oper} {rest : List Oper} {gl : List Nat} {f : Operand} {xs : Array Operand} {ats : Array TypeId} {fid : FuncId} {caps L : List AV} {r : AV} {ob' : List (Nat × List DV)} {s2 : St}
    (ho : o.op = .call { callee := .value f, args := xs, argTypes := ats }) (hs : s.cvs (Tr n).pre = some s') (hf : s'.rd f = .fn fid caps) (hL : argSeq s' (zipF xs.toList (Tr n).args) = L)
    (hc : (L.all fun x => !x.isTup) = true ∧ ((L ++ caps).all (AV.okIds (has (Tr n).ids))) = true ∧ idsOk (Tr n).ids = true ∧ ((Tr n).ids.all fun p => (getOb s'.ob p.1).isSome) = true)
    (hspec : Spec P fid ((L ++ caps).map (AV.ren (Tr n).ids)) (obIn (Tr n).ids s'.ob) r ob') (hr : r.res = true) (h2 : ((s'.wrs (argWr s' (zipF xs.toList (Tr n).args))).back (Tr n).ids ob').wrs (wrDst o.dst r) = s2)
    (hk : regP P Tr gd K (n + 1) rest s2) : callP P Tr gd K n o rest gl s := by
  unfold callP opA
  rw [hs]
  show opB P (Tr n) o gl _ s'
  unfold opB
  rw [ho]
  simp only [hf]
  refine ⟨by rw [hL]; exact hc.1, by rw [hL]; exact hc.2.1, hc.2.2.1, hc.2.2.2, r, ob', by rw [hL]; exact hspec, hr, ?_⟩
  subst h2
  exact hk
/-! ### the same for a region whose order is drawn: what was looked at and written is kept -/
def regD (P : Program) (T : Nat → An) (gd : List (Option Nat)) (K : List Ev → St → Prop) : Nat → List Oper → List Ev → St → Prop
  | _, [], evs, s => K evs s
  | n, o :: r, evs, s => match o.guard with
    | none => if goesV o = true then opA P (T n) o [] (fun e s' => regD P T gd K (n + 1) r (e :: evs) s') s else match eff (mkC P) (T n).tk o s with
        | some ws => regD P T gd K (n + 1) r (evOf {} o [] s ws :: evs) (s.wrs ws)
        | none => False
    | some (j, want) => match gdAt gd j with
      | some t => match s.fr.getD t .undef with
        | .sh (.bool b) => if b = want then (if goesV o = true then opA P (T n) o [2 * t] (fun e s' => regD P T gd K (n + 1) r (e :: evs) s') s else match eff (mkC P) (T n).tk o s with
            | some ws => regD P T gd K (n + 1) r (evOf {} o [2 * t] s ws :: evs) (s.wrs ws)
            | none => False)
          else regD P T gd K (n + 1) r (⟨[2 * t], (wrDst o.dst .gone).map Wr.loc, false⟩ :: evs) (s.wrs (wrDst o.dst .gone))
        | .gone => regD P T gd K (n + 1) r (⟨[2 * t], (wrDst o.dst .gone).map Wr.loc, false⟩ :: evs) (s.wrs (wrDst o.dst .gone))
        | _ => False
      | none => False
def calmT (T : Nat → An) : Nat → List Oper → Bool
  | _, [] => true
  | n, o :: r => (T n).pre.isEmpty && calmT T (n + 1) r
def callD (P : Program) (T : Nat → An) (gd : List (Option Nat)) (K : List Ev → St → Prop) (n : Nat) (o : Oper) (r : List Oper) (gl : List Nat) (evs : List Ev) (s : St) : Prop :=
  opA P (T n) o gl (fun e s' => regD P T gd K (n + 1) r (e :: evs) s') s
def effD (P : Program) (T : Nat → An) (gd : List (Option Nat)) (K : List Ev → St → Prop) (n : Nat) (o : Oper) (r : List Oper) (gl : List Nat) (evs : List Ev) (s : St) : Option (List Wr) → Prop
  | some ws => regD P T gd K (n + 1) r (evOf {} o gl s ws :: evs) (s.wrs ws)
  | none => False
theorem effD_some {Tr : Nat → An} {gd : List (Option Nat)} {K : List Ev → St → Prop} {n : Nat} {o : Oper} {r : List Oper} {gl : List Nat} {evs : List Ev} {ws : List Wr} :
    effD P Tr gd K n o r gl evs s (some ws) = regD P Tr gd K (n + 1) r (evOf {} o gl s ws :: evs) (s.wrs ws) := rfl
theorem regD_nil {Tr : Nat → An} {gd : List (Option Nat)} {K : List Ev → St → Prop} {n : Nat} {evs : List Ev} : regD P Tr gd K n [] evs s = K evs s := rfl
theorem regD_op {Tr : Nat → An} {gd : List (Option Nat)} {K : List Ev → St → Prop} {n : Nat} {r : List Oper} {evs : List Ev} {d : Option Nat} {op : Op} {ty : TypeId} {p : String} {a : Array Edge} : regD P Tr gd K n (⟨d, op, ty, p, a, none⟩ :: r) evs s =
    if goesV ⟨d, op, ty, p, a, none⟩ = true then callD P Tr gd K n ⟨d, op, ty, p, a, none⟩ r [] evs s else effD P Tr gd K n ⟨d, op, ty, p, a, none⟩ r [] evs s (eff (mkC P) (Tr n).tk ⟨d, op, ty, p, a, none⟩ s) := by
  simp only [regD, callD]
  cases eff (mkC P) (Tr n).tk ⟨d, op, ty, p, a, none⟩ s <;> rfl
def grdD (P : Program) (T : Nat → An) (gd : List (Option Nat)) (K : List Ev → St → Prop) (n : Nat) (o : Oper) (r : List Oper) (evs : List Ev) (s : St) (t : Nat) (want : Bool) : AV → Prop
  | .sh (.bool b) => @gIf (b == want) ⟨if goesV o = true then callD P T gd K n o r [2 * t] evs s else effD P T gd K n o r [2 * t] evs s (eff (mkC P) (T n).tk o s)⟩ ⟨regD P T gd K (n + 1) r (⟨[2 * t], (wrDst o.dst .gone).map Wr.loc, false⟩ :: evs) (s.wrs (wrDst o.dst .gone))⟩
  | .gone => regD P T gd K (n + 1) r (⟨[2 * t], (wrDst o.dst .gone).map Wr.loc, false⟩ :: evs) (s.wrs (wrDst o.dst .gone))
  | _ => False
def grdDT (P : Program) (T : Nat → An) (gd : List (Option Nat)) (K : List Ev → St → Prop) (n : Nat) (o : Oper) (r : List Oper) (evs : List Ev) (s : St) (want : Bool) : Option Nat → Prop
  | some t => grdD P T gd K n o r evs s t want (s.raw (.tmp t))
  | none => False
theorem regD_guard {Tr : Nat → An} {gd : List (Option Nat)} {K : List Ev → St → Prop} {n : Nat} {r : List Oper} {evs : List Ev} {d : Option Nat} {op : Op} {ty : TypeId} {p : String} {a : Array Edge} {j : Nat} {want : Bool} : regD P Tr gd K n (⟨d, op, ty, p, a, some (j, want)⟩ :: r) evs s =
    grdDT P Tr gd K n ⟨d, op, ty, p, a, some (j, want)⟩ r evs s want (gdAt gd j) := by
  simp only [regD, grdDT]
  cases gdAt gd j with
  | none => rfl
  | some t =>
    simp only [grdD, St.raw]
    generalize s.fr.getD t .undef = x
    cases x with
    | sh e =>
      cases e with
      | bool b =>
        simp only [callD, gIf_eq]
        cases eff (mkC P) (Tr n).tk ⟨d, op, ty, p, a, some (j, want)⟩ s <;> rfl
      | _ => rfl
    | _ => rfl
theorem evOf_plain {an : An} {o : Oper} {gl : List Nat} {ws : List Wr} (h : an.pre.isEmpty = true) : evOf an o gl s ws = evOf {} o gl s ws := by
  have : an.pre = [] := by simpa using h
  simp [evOf, An.plain, this]
theorem regD_sound {Tr : Nat → An} {ops : Array Oper} {K : List Ev → St → Prop} : ∀ (l : List Oper) (n : Nat) (evs : List Ev) (s : St), calmT Tr n l = true → regD P Tr (ops.toList.map (·.dst)) K n l evs s → regA P Tr ops K n l evs s
  | [], n, evs, s, _, h => h
  | o :: r, n, evs, s, hc, h => by
    simp only [calmT, Bool.and_eq_true] at hc
    have one : ∀ gl, (if goesV o = true then opA P (Tr n) o gl (fun e s' => regD P Tr (ops.toList.map (·.dst)) K (n + 1) r (e :: evs) s') s else match eff (mkC P) (Tr n).tk o s with
        | some ws => regD P Tr (ops.toList.map (·.dst)) K (n + 1) r (evOf {} o gl s ws :: evs) (s.wrs ws)
        | none => False) → opA P (Tr n) o gl (fun e s' => regA P Tr ops K (n + 1) r (e :: evs) s') s := by
      intro gl h
      split at h
      · exact opA_mono h fun e s' h' => regD_sound r _ _ _ hc.2 h'
      · rename_i hg
        split at h
        · rename_i ws hws
          refine opA_eff hc.1 (by simpa using hg) hws ?_
          rw [evOf_plain hc.1]
          exact regD_sound r _ _ _ hc.2 h
        · exact h.elim
    rw [regA_cons]
    unfold oneA
    simp only [regD] at h
    cases hg : o.guard with
    | none => rw [hg] at h; exact one [] h
    | some q =>
      obtain ⟨j, want⟩ := q
      rw [hg] at h
      simp only [gdAt_eq] at h ⊢
      cases ht : (ops[j]?).bind (·.dst) with
      | none => rw [ht] at h; exact h.elim
      | some t =>
        rw [ht] at h
        simp only at h ⊢
        split at h
        · rename_i b hb
          simp only [hb]
          split at h
          · rename_i hbw; rw [if_pos hbw]; exact one [2 * t] h
          · rename_i hbw; rw [if_neg hbw]; exact regD_sound r _ _ _ hc.2 h
        · rename_i hb
          simp only [hb]
          exact regD_sound r _ _ _ hc.2 h
        · exact h.elim
/-- A region whose order is drawn, and what comes behind it. -/
theorem a_rd {id : Nat} {ops : Array Oper} {y : Code} (hc : calmT (T id) 0 ops.toList = true)
    (h : ∀ (K : St → Prop) (I : List Ev → Prop), (∀ s, awp P T y Q s → K s) → (∀ evs : List Ev, indep ops evs.reverse = true → I evs) → regD P (T id) (ops.toList.map (·.dst)) (fun evs s' => I evs ∧ K s') 0 ops.toList [] s) : awp P T (.seq (.region id ops true) y) Q s :=
  a_seqK fun K hK => regA_mono _ _ _ _ (regD_sound _ _ _ _ hc (h K (fun evs => indep ops evs.reverse = true) hK fun _ h => h)) fun evs s' h' => ⟨fun _ => h'.1, h'.2⟩

theorem a_regD {id : Nat} {ops : Array Oper} (hc : calmT (T id) 0 ops.toList = true)
    (h : ∀ (K : St → Prop) (I : List Ev → Prop), (∀ s, Q .normal s → K s) → (∀ evs : List Ev, indep ops evs.reverse = true → I evs) → regD P (T id) (ops.toList.map (·.dst)) (fun evs s' => I evs ∧ K s') 0 ops.toList [] s) : awp P T (.region id ops true) Q s :=
  regA_mono _ _ _ _ (regD_sound _ _ _ _ hc (h (Q .normal) (fun evs => indep ops evs.reverse = true) (fun _ h => h) fun _ h => h)) fun evs s' h' => ⟨fun _ => h'.1, h'.2⟩

theorem argSeq_plain (s : St) : ∀ (xs : List Operand), argSeq s (zipF xs []) = xs.map s.rd
  | [] => rfl
  | x :: r => by simp only [zipF, argSeq, Bool.false_eq_true, if_false, List.map_cons, argSeq_plain s r]
theorem argWr_plain (s : St) : ∀ (xs : List Operand), argWr s (zipF xs []) = []
  | [] => rfl
  | x :: r => by simp only [zipF, argWr, Bool.false_eq_true, if_false, argWr_plain s r]
theorem ren_plain {x : AV} (h : x.okIds (fun _ => false) = true) : x.ren [] = x := by
  cases x with
  | ptr id i j => simp [AV.okIds, AV.ok1] at h
  | os id n k => simp [AV.okIds, AV.ok1] at h
  | fn f l =>
    simp only [AV.ren]
    congr 1
    have : ∀ y ∈ l, AV.ren1 [] y = y := by
      intro y hy
      have h1 := List.all_eq_true.1 h y hy
      cases y <;> first | rfl | simp [AV.ok1] at h1
    rw [List.map_congr_left this]; simp
  | _ => rfl
/-- A call that takes nothing and lends nothing. -/
theorem r_call0 {Tr : Nat → An} {gd : List (Option Nat)} {K : St → Prop} {n : Nat} {o : Oper} {rest : List Oper} {gl : List Nat} {f : Operand} {xs : Array Operand} {ats : Array TypeId} {fid : FuncId} {caps L : List AV} {r : AV} {ob' : List (Nat × List DV)}
    (ht : Tr n = {}) (ho : o.op = .call { callee := .value f, args := xs, argTypes := ats }) (hf : s.rd f = .fn fid caps) (hL : xs.toList.map s.rd = L)
    (hc : ((L ++ caps).all (AV.okIds fun _ => false)) = true) (hspec : Spec P fid (L ++ caps) [] r ob') (hr : r.res = true)
    (hk : regP P Tr gd K (n + 1) rest (s.wrs (wrDst o.dst r))) : callP P Tr gd K n o rest gl s := by
  have h1 : (Tr n).pre = [] := by rw [ht]
  have h2 : (Tr n).args = [] := by rw [ht]
  have h3 : (Tr n).ids = [] := by rw [ht]
  refine r_call (s' := s) (L := L) (caps := caps) (r := r) (ob' := ob') ho (by rw [h1]; rfl) hf (by rw [h2, argSeq_plain]; exact hL) ⟨?_, by rw [h3]; exact hc, by rw [h3]; rfl, by rw [h3]; rfl⟩ ?_ hr rfl ?_
  · rw [List.all_eq_true]
    intro x hx
    have := List.all_eq_true.1 hc x (List.mem_append_left _ hx)
    cases x <;> first | rfl | simp [AV.okIds, AV.ok1] at this
  · rw [h3]
    have : (L ++ caps).map (AV.ren []) = L ++ caps := by
      have h : ∀ x ∈ L ++ caps, AV.ren [] x = x := fun x hx => ren_plain (List.all_eq_true.1 hc x hx)
      rw [List.map_congr_left h]; simp
    rw [this]
    exact hspec
  · rw [h2, h3, argWr_plain]
    exact hk
end

section
variable {n : Nat} {l : List (Nat × AV)} {ob : List (Nat × List DV)}
theorem opLocs_tmp {t : Nat} (h : t < n) : opLocs ⟨Sp n l, ob⟩ (.tmp t) = 2 * t :: (lk l t).refsD.map fun i => 2 * i + 1 := by simp only [opLocs, Sp_getD h]
theorem opLocs_const {s : St} {v : Value} : opLocs s (.const v) = [] := rfl
theorem opLocs_func {s : St} {f : FuncId} : opLocs s (.func f) = [] := rfl
theorem evOf_eq {o : Oper} {gl : List Nat} {s : St} {ws : List Wr} : evOf {} o gl s ws = ⟨gl ++ o.op.operands.toList.flatMap (opLocs s), ws.map Wr.loc, ws.any Wr.isNew⟩ := rfl
end

attribute [go_sem] regD_op regD_guard regD_nil effD_some grdD grdDT evOf_eq opLocs_tmp opLocs_const opLocs_func AV.refs AV.refsD Wr.loc Wr.isNew Op.operands List.flatMap_cons List.flatMap_nil List.nil_append List.cons_append List.append_nil List.any_cons List.any_nil Bool.or_false Bool.or_self
attribute [go_sem] regP_op regP_guard regP_nil effP_some grdT grdP gdAt goesV eff_assign_const eff_assign_tmp wrDst wrs_cons wrs_nil wr_slot wr_set wr_new ethen eblk up_nil up_cons lk_nil lk_cons getOb_nil getOb_cons setOb_nil setOb_cons gite_true gite_false cAV_bool cAV_int cAV_str cAV_nil
  eff_move_tmp eff_move_take eff_move_const eff_move_func rd_tmp raw_tmp raw_const raw_func rd_bool rd_int rd_str rd_nil rd_func left_tmp left_const left_func lft eff_bin eff_un eff_conv eff_index eff_indexAddr eff_fieldAddr eff_load eff_len eff_append eff_slice eff_extract eff_nilCheck
  AV.plain binAV binInt unAV convAV fieldAV loadAV lenAV lenInt partOf eff_pick pickW asgW movW extW cvs_keep cvs_nil cvs_share shareL cvs_freeze frzL keepL cut cutL kept notId AV.okIds AV.ok1 keepOb AV.isTup argSeq asRes resOps
theorem bq_true (b : Bool) : (b == true) = b := by cases b <;> rfl
theorem bq_false (b : Bool) : (b == false) = !b := by cases b <;> rfl
attribute [go_sem] cond_true cond_false gIf_true gIf_false bq_true bq_false Bool.not_not
attribute [go_sem] Nat.zero_add List.toList_toArray List.map_cons List.map_nil List.zipIdx_cons List.zipIdx_nil decide_eq_true_eq decide_true decide_false if_true if_false Bool.false_eq_true List.isEmpty_nil Option.map_some List.all_cons List.all_nil List.length_map Int.toNat_natCast Int.natCast_nonneg List.getElem?_map DV.cells List.length_cons List.length_nil Option.map_none Option.some.injEq TD.isAgg List.getElem?_cons_zero List.getElem?_cons_succ List.drop_zero List.drop_succ_cons List.take_succ_cons List.take_zero List.take_nil List.drop_nil Nat.le_refl DV.strip DV.lock DV.lockC AV.dv
end Go.Vi
