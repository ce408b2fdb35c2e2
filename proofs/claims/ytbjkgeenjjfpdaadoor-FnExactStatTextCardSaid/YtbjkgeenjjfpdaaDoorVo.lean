/- More rules for running code by rewriting: regions whose ways meet again, loops told by what they turn. No statement is proved in this text. -/
import Derived.Test.YtbjkgeenjjfpdaaDoorVn
set_option linter.all false
set_option autoImplicit true
namespace Go.Vi
open Go Go.RowKit
set_option linter.unusedVariables false

theorem ite_both {c : Prop} [Decidable c] {a b : Prop} (ha : c → a) (hb : ¬ c → b) : if c then a else b := by
  by_cases h : c
  · rw [if_pos h]; exact ha h
  · rw [if_neg h]; exact hb h

section
variable {P : Program} {T : Nat → Nat → An} {Q : Exit → St → Prop} {n : Nat} {l : List (Nat × AV)} {ob : List (Nat × List DV)}
/-- A region whose ways meet again: v: what it leaves that is read later; ts: what stands as it stood. -/
theorem a_rsm {id : Nat} {ops : Array Oper} {y : Code} (ts ids : List Nat) (v : List (Nat × AV))
    (h1 : regP P (T id) (ops.toList.map (·.dst)) (fun s1 => s1.cvs [.keep (v.map (·.1) ++ ts) ids] = some ⟨Sp n (v ++ keepL (kept ids) ts l), keepOb (kept ids) ob⟩) 0 ops.toList ⟨Sp n l, ob⟩)
    (h2 : awp P T y Q ⟨Sp n (v ++ keepL (kept ids) ts l), keepOb (kept ids) ob⟩) : awp P T (.seq (.region id ops false) y) Q ⟨Sp n l, ob⟩ :=
  a_cut _ (regA_mono _ _ _ _ (regP_sound _ _ _ h1 []) fun e s h => ⟨by simp, ⟨_, h⟩⟩) h2
theorem a_rdm {id : Nat} {ops : Array Oper} {y : Code} (hc : calmT (T id) 0 ops.toList = true) (ts ids : List Nat) (v : List (Nat × AV))
    (h1 : ∀ I : List Ev → Prop, (∀ evs : List Ev, indep ops evs.reverse = true → I evs) → regD P (T id) (ops.toList.map (·.dst)) (fun evs s1 => I evs ∧ s1.cvs [.keep (v.map (·.1) ++ ts) ids] = some ⟨Sp n (v ++ keepL (kept ids) ts l), keepOb (kept ids) ob⟩) 0 ops.toList [] ⟨Sp n l, ob⟩)
    (h2 : awp P T y Q ⟨Sp n (v ++ keepL (kept ids) ts l), keepOb (kept ids) ob⟩) : awp P T (.seq (.region id ops true) y) Q ⟨Sp n l, ob⟩ :=
  a_cut _ (regA_mono _ _ _ _ (regD_sound _ _ _ _ hc (h1 (fun evs => indep ops evs.reverse = true) fun _ h => h)) fun e s h => ⟨fun _ => h.1, ⟨_, h.2⟩⟩) h2
/-- A loop: V: what it turns that is read later; ts: what stands as it stood; O: the objects. -/
theorem a_loopU {c : Code} {ι : Type} (ts ids : List Nat) (V : ι → List (Nat × AV)) (O : ι → List (Nat × List DV)) (inv : ι → Prop) (μ : ι → Nat) (i : ι)
    (h1 : St.cvs ⟨Sp n l, ob⟩ [.keep ((V i).map (·.1) ++ ts) ids] = some ⟨Sp n (V i ++ keepL (kept ids) ts l), O i⟩) (h2 : inv i)
    (h3 : ∀ i, inv i → awp P T c (ethen (fun s' => ∃ i', s'.cvs [.keep ((V i').map (·.1) ++ ts) ids] = some ⟨Sp n (V i' ++ keepL (kept ids) ts l), O i'⟩ ∧ inv i' ∧ μ i' < μ i) Q) ⟨Sp n (V i ++ keepL (kept ids) ts l), O i⟩) :
    awp P T (.loop c) Q ⟨Sp n l, ob⟩ :=
  a_loop (fun i => ⟨Sp n (V i ++ keepL (kept ids) ts l), O i⟩) inv μ i _ h1 h2 fun i hi => awp_mono _ _ _ _ (h3 i hi) fun e s h => by
    cases e with
    | normal => obtain ⟨i', k1, k2, k3⟩ := h; exact ⟨_, i', k1, k2, k3⟩
    | _ => exact h
end

theorem sp_hd {n t : Nat} {b b' : Bool} {r : List (Nat × AV)} {ob : List (Nat × List DV)} (h : b = b') : (⟨Sp n ((t, .sh (.bool b)) :: r), ob⟩ : St) = ⟨Sp n ((t, .sh (.bool b')) :: r), ob⟩ := by rw [h]
theorem sp_hd' {n t : Nat} {b b' : Bool} {r : List (Nat × AV)} {ob : List (Nat × List DV)} (h : b = b') : some (⟨Sp n ((t, .sh (.bool b)) :: r), ob⟩ : St) = some ⟨Sp n ((t, .sh (.bool b')) :: r), ob⟩ := by rw [h]

/-! ### conditions that arithmetic decides -/
def chk {α : Type} (p : Prop) [Decidable p] (x : Option α) : Option α := if p then x else none
theorem chk_pos {α : Type} {p : Prop} [Decidable p] {x : Option α} (h : p) : chk p x = x := if_pos h
theorem chk_true {α : Type} {x : Option α} : chk True x = x := rfl
def sliceR (ex : Nat) (xs : List DV) (l h : Int) (sz : Nat) : Option AV := chk (0 ≤ l ∧ l ≤ h ∧ h ≤ xs.length ∧ (xs.all fun d => d.cells.length == sz) = true) (some (.sh (.sl ex ((xs.take h.toNat).drop l.toNat))))
def sliceS (xs : List UInt8) (l h : Int) : Option AV := chk (0 ≤ l ∧ l ≤ h ∧ h ≤ xs.length) (some (.sh (.str ((xs.take h.toNat).drop l.toNat))))
def sliceC (C : Cx) (t : TypeId) (x lo hi : AV) : Option AV :=
  match C t, x, lo, hi with
  | some { td := .slice e, .. }, .sh (.sl ex xs), .sh (.int _ l), .sh (.int _ h) =>
    match C e with
    | some ti => sliceR ex xs l h ti.size
    | none => none
  | some { td := .str, .. }, .sh (.str xs), .sh (.int _ l), .sh (.int _ h) => sliceS xs l h
  | _, _, _, _ => none
theorem sliceAV_eq {C : Cx} {t : TypeId} {x lo hi : AV} : sliceAV C t x lo hi = sliceC C t x lo hi := rfl
def indexR (xs : List DV) (n : Int) (sz : Nat) : Option AV := chk (0 ≤ n) (match xs[n.toNat]? with
  | some d => if d.cells.length = sz then some (.rp d 0) else none
  | none => none)
def indexO (id : Nat) (ys : List DV) (m : Nat) (n : Int) (sz : Nat) : Option AV := chk (0 ≤ n ∧ n < m) (match ys[n.toNat]? with
  | some d => if d.cells.length = sz then some (.ptr id n.toNat 0) else none
  | none => none)
def indexC (C : Cx) (t : TypeId) (ob : List (Nat × List DV)) (x i : AV) : Option AV :=
  match C t, x, i with
  | some { td := .slice e, .. }, .sh (.sl _ xs), .sh (.int _ n) => match C e with
    | some ti => indexR xs n ti.size
    | none => none
  | some { td := .slice e, .. }, .os id m _, .sh (.int _ n) => match getOb ob id, C e with
      | some ys, some ti => indexO id ys m n ti.size
      | _, _ => none
  | some { td := .array m e, .. }, .ptr id a j, .sh (.int _ n) => match C e with
      | some ti => chk (0 ≤ n ∧ n < m) (some (.ptr id a (j + n.toNat * ti.size)))
      | none => none
  | _, _, _ => none
theorem indexAV_eq {C : Cx} {t : TypeId} {ob : List (Nat × List DV)} {x i : AV} : indexAV C t ob x i = indexC C t ob x i := by
  unfold indexAV indexC
  generalize C t = c
  rcases c with _ | ⟨td, sz, b, z, q⟩
  · rfl
  cases td <;> try rfl
  · rename_i e
    cases x <;> try rfl
    · rename_i d
      cases d <;> try rfl
      rename_i k xs
      cases i <;> try rfl
      rename_i d'
      cases d' <;> try rfl
      rename_i k' n
      simp only [indexR, chk]
      cases C e with
      | none =>
        simp only
        split
        · cases xs[n.toNat]? <;> rfl
        · rfl
      | some ti =>
        simp only
        split
        · cases xs[n.toNat]? <;> rfl
        · rfl
    · rename_i id m kk
      cases i <;> try rfl
      rename_i d'
      cases d' <;> try rfl
      rename_i k' n
      simp only [indexO, chk]
      cases C e <;> cases getOb ob id <;> first | rfl | (simp only; split <;> rfl)
  · rename_i m e
    cases x <;> try rfl
    cases i <;> try rfl
    rename_i d'
    cases d' <;> try rfl
    rename_i k' n
    simp only [chk]
    cases C e <;> first | rfl | (simp only; split <;> rfl)
def byteC (C : Cx) (t : TypeId) (x i : AV) : Option AV :=
  match C t, x, i with
  | some { td := .str, .. }, .sh (.str l), .sh (.int _ n) => chk (0 ≤ n) ((l[n.toNat]?).map fun b => .sh (.int .u8 b.toNat))
  | _, _, _ => none
theorem byteAV_eq {C : Cx} {t : TypeId} {x i : AV} : byteAV C t x i = byteC C t x i := rfl
def addS (a b : List UInt8) : Option DV := chk (a.length + b.length ≤ 140737488355328) (some (.str (a ++ b)))
theorem binStr_add {a b : List UInt8} : binStr .add a b = addS a b := rfl
theorem binStr_eql {a b : List UInt8} : binStr .eql a b = some (.bool (a == b)) := rfl
theorem binStr_neq {a b : List UInt8} : binStr .neq a b = some (.bool (!(a == b))) := rfl
theorem binStr_lss {a b : List UInt8} : binStr .lss a b = some (.bool (bytesLess a b)) := rfl
theorem binStr_leq {a b : List UInt8} : binStr .leq a b = some (.bool (bytesLess a b || a == b)) := rfl
theorem binStr_gtr {a b : List UInt8} : binStr .gtr a b = some (.bool (!(bytesLess a b || a == b))) := rfl
theorem binStr_geq {a b : List UInt8} : binStr .geq a b = some (.bool (!bytesLess a b)) := rfl
def appendR (k : Nat) (xs : List DV) (sz bytes : Nat) (ys : List DV) : Option DV :=
  chk (k = sz ∧ (0 < sz ∧ sz < 1000000) ∧ 0 < bytes ∧ (ys.all fun d => d.cells.length == sz) = true ∧ (xs.length + ys.length) * bytes ≤ 140737488355328) (some (.sl k (xs ++ ys)))
def appendC (C : Cx) (t : TypeId) (s : St) (x y : AV) : Option DV :=
  match C t, x with
  | some { td := .slice e, .. }, .ow (.sl k xs) =>
    match C e, rowOf s y with
    | some ti, some ys => appendR k xs ti.size ti.bytes ys
    | _, _ => none
  | _, _ => none
theorem appendAV_eq {C : Cx} {t : TypeId} {s : St} {x y : AV} : appendAV C t s x y = appendC C t s x y := rfl

/-! ### more operations -/
section
variable {C : Cx} {tk : Bool} {s : St} {d : Option Nat} {ty : TypeId} {p : String} {a : Array Edge} {g : Option (Nat × Bool)}
def allocC (d : Option Nat) (ob : List (Nat × List DV)) : Option TI → Option (List Wr)
  | some ti => match d with
    | some d => chk ((getOb ob d).isNone ∧ 0 < ti.size ∧ d < 1000) (some [.new d [elemOf ti ti.zero], .slot d (.ptr d 0 0)])
    | none => none
  | none => none
theorem eff_alloc {t : TypeId} : eff C tk ⟨d, .alloc t, ty, p, a, g⟩ s = allocC d s.ob (C t) := by
  simp only [eff, allocC, chk]
  cases d <;> cases C t <;> rfl
def boxC (d : Option Nat) (ob : List (Nat × List DV)) (lf : List Wr) : Option TI → Option DV → Option (List Wr)
  | some ti, some e => match d with
    | some d => chk ((getOb ob d).isNone ∧ e.cells.length = ti.size ∧ 0 < ti.size ∧ d < 1000) (some (lf ++ [.new d [e], .slot d (.ptr d 0 0)]))
    | none => none
  | _, _ => none
theorem eff_box {t : TypeId} {x : Operand} : eff C tk ⟨d, .box t x, ty, p, a, g⟩ s = boxC d s.ob (s.left x) (C t) (s.raw x).dv := by
  simp only [eff, boxC, chk]
  cases d <;> cases C t <;> cases (s.raw x).dv <;> rfl
def buildC (d : Option Nat) (lf : List Wr) : Option (List DV) → Option (List Wr)
  | some cs => chk (cs.all DV.isCell = true) (some (lf ++ wrDst d (.ow (.agg cs))))
  | none => none
theorem eff_build {t : TypeId} {parts : Array (Nat × Operand)} : eff C tk ⟨d, .build t parts, ty, p, a, g⟩ s = match C t with
    | some ti => match buildAt C ti.td with
      | some at_ => buildC d (leftSeq s (parts.toList.map (·.2))) (fillRow 1 at_ ti.zero ((parts.toList.map (·.1)).zip (rawSeq s (parts.toList.map (·.2)))))
      | none => none
    | none => none := by
  simp only [eff, buildC, chk]
  cases C t with
  | none => rfl
  | some ti =>
    simp only
    cases buildAt C ti.td with
    | none => rfl
    | some at_ =>
      simp only
      cases fillRow 1 at_ ti.zero _ <;> rfl
def bsC (d : Option Nat) (n : Nat) (lf : List Wr) (ti : TI) : Option (List DV) → Option (List Wr)
  | some es => chk (n * ti.size ≤ 16777216 ∧ 0 < ti.size) (some (lf ++ wrDst d (.ow (.sl ti.size es))))
  | none => none
theorem eff_buildSlice {t : TypeId} {n : Nat} {parts : Array (Nat × Operand)} : eff C tk ⟨d, .buildSlice t n parts, ty, p, a, g⟩ s = match C t with
    | some { td := .slice e, .. } => match C e with
      | some ti => bsC d n (leftSeq s (parts.toList.map (·.2))) ti (fillRow ti.size some (List.replicate n (elemOf ti ti.zero)) ((parts.toList.map (·.1)).zip (rawSeq s (parts.toList.map (·.2)))))
      | none => none
    | _ => none := by
  simp only [eff, bsC, chk]
  cases C t with
  | none => rfl
  | some ti =>
    obtain ⟨td, size, bytes, zero, eq⟩ := ti
    cases td <;> try rfl
    rename_i e
    simp only
    cases C e with
    | none => rfl
    | some te =>
      simp only
      cases fillRow te.size _ _ _ <;> simp
def storeC (d : Option Nat) (ob : List (Nat × List DV)) (lf : List Wr) : AV → Option DV → Option TI → Option (List Wr)
  | .ptr id i j, some e, some ti => chk (e.cells.length = ti.size ∧ d.isNone = true) (match getOb ob id with
      | some xs => match xs[i]? with
        | some c => (putPart c j e).map fun d' => lf ++ [.set id (xs.set i d')]
        | none => none
      | none => none)
  | _, _, _ => none
theorem eff_store {t : TypeId} {q x : Operand} : eff C tk ⟨d, .store t q x, ty, p, a, g⟩ s = storeC d s.ob (s.left x) (s.rd q) (s.raw x).dv (C t) := by
  simp only [eff, storeC, chk]
  cases s.rd q <;> rfl
def takeC (C : Cx) (d : Option Nat) (t : TypeId) (ob : List (Nat × List DV)) : AV → Option (List Wr)
  | .ptr id i j => match getOb ob id with
    | some xs => match xs[i]? with
      | some c => match partOf C t c j with
        | some e => (putPart c j e.lock).map fun d' => .set id (xs.set i d') :: wrDst d (.ow e)
        | none => none
      | none => none
    | none => none
  | _ => none
theorem eff_take {t : TypeId} {q : Operand} : eff C true ⟨d, .load t q, ty, p, a, g⟩ s = takeC C d t s.ob (s.rd q) := by
  simp only [eff, takeC, if_true]
  cases s.rd q <;> rfl
theorem eff_makeFunc {f : FuncId} {captured : Array Operand} : eff C tk ⟨d, .makeFunc (.func f) #[] captured, ty, p, a, g⟩ s =
    if ((captured.toList.map s.rd).all AV.flat) = true then some (wrDst d (.fn f (captured.toList.map s.rd))) else none := by
  simp only [eff, Array.size_empty, true_and]
def makeC (C : Cx) (d : Option Nat) (ob : List (Nat × List DV)) (c : Option TI) (x y : AV) : Option (List Wr) :=
  match d, c, x, y with
  | some d, some { td := .slice e, .. }, .sh (.int .i64 n), .sh (.int .i64 m) => match C e with
    | some ti => chk ((getOb ob d).isNone ∧ n = m ∧ 0 ≤ n ∧ 0 < ti.size ∧ ti.bytes * n ≤ 281474976710656 ∧ n ≤ 9223372036854775807 ∧ d < 1000)
        (some [.new d (List.replicate n.toNat (elemOf ti ti.zero)), .slot d (.os d n.toNat ti.size)])
    | none => none
  | _, _, _, _ => none
theorem eff_makeSlice {t : TypeId} {l c : Operand} : eff C tk ⟨d, .makeSlice t l c, ty, p, a, g⟩ s = makeC C d s.ob (C t) (s.rd l) (s.rd c) := rfl
theorem eff_max {x y : Operand} {tys : Array TypeId} : eff C tk ⟨d, .call { callee := .builtin .max, args := #[x, y], argTypes := tys }, ty, p, a, g⟩ s = (minmax true [s.rd x, s.rd y]).map (wrDst d) := rfl
theorem eff_min {x y : Operand} {tys : Array TypeId} : eff C tk ⟨d, .call { callee := .builtin .min, args := #[x, y], argTypes := tys }, ty, p, a, g⟩ s = (minmax false [s.rd x, s.rd y]).map (wrDst d) := rfl
end
/-- Which moves take what they move: a list of 1000 times the region and the operation. -/
def memN : List Nat → Nat → Bool
  | [], _ => false
  | k :: r, t => if k = t then true else memN r t
theorem memN_nil {t : Nat} : memN [] t = false := rfl
theorem memN_cons {k t : Nat} {r : List Nat} : memN (k :: r) t = @gite _ (k == t) ⟨true⟩ ⟨memN r t⟩ := gite_if
def tkT (l : List Nat) (id n : Nat) : An := { tk := memN l (1000 * id + n) }

/-- A call that takes nothing and lends nothing, in a region whose order is drawn. -/
theorem r_callD0 {P : Program} {s : St} {Tr : Nat → An} {gd : List (Option Nat)} {K : List Ev → St → Prop} {evs : List Ev} {n : Nat} {o : Oper} {rest : List Oper} {gl : List Nat} {f : Operand} {xs : Array Operand} {ats : Array TypeId} {fid : FuncId} {caps L : List AV} {r : AV} {ob' : List (Nat × List DV)}
    (hp : (Tr n).pre = []) (ha : (Tr n).args = []) (hi : (Tr n).ids = []) (ho : o.op = .call { callee := .value f, args := xs, argTypes := ats }) (hf : s.rd f = .fn fid caps) (hspec : Spec P fid L [] r ob') (hL : xs.toList.map s.rd ++ caps = L)
    (hc : (L.all (AV.okIds fun _ => false)) = true) (hr : r.res = true)
    (hk : regD P Tr gd K (n + 1) rest (evCall (Tr n) o gl s (wrDst o.dst r) ob' :: evs) (s.wrs (wrDst o.dst r))) : callD P Tr gd K n o rest gl evs s := by
  unfold callD opA
  rw [hp]
  show opB P (Tr n) o gl _ s
  unfold opB
  rw [ho]
  simp only [hf]
  unfold callB
  rw [ha, hi, argSeq_plain, hL, argWr_plain]
  refine ⟨?_, hc, rfl, rfl, r, ob', ?_, hr, hk⟩
  · rw [List.all_eq_true]
    intro x hx
    have := List.all_eq_true.1 hc x (hL ▸ List.mem_append_left _ hx)
    cases x <;> first | rfl | simp [AV.okIds, AV.ok1] at this
  · have : L.map (AV.ren []) = L := by
      have h : ∀ x ∈ L, AV.ren [] x = x := fun x hx => ren_plain (List.all_eq_true.1 hc x hx)
      rw [List.map_congr_left h]; simp
    rw [this]
    exact hspec
theorem r_callT {P : Program} {s : St} {Tr : Nat → An} {gd : List (Option Nat)} {K : St → Prop} {n : Nat} {o : Oper} {rest : List Oper} {gl : List Nat} {f : Operand} {xs : Array Operand} {ats : Array TypeId} {fid : FuncId} {caps L : List AV} {r : AV} {ob' : List (Nat × List DV)}
    (hp : (Tr n).pre = []) (ha : (Tr n).args = []) (hi : (Tr n).ids = []) (ho : o.op = .call { callee := .value f, args := xs, argTypes := ats }) (hf : s.rd f = .fn fid caps) (hspec : Spec P fid L [] r ob') (hL : xs.toList.map s.rd ++ caps = L)
    (hc : (L.all (AV.okIds fun _ => false)) = true) (hr : r.res = true)
    (hk : regP P Tr gd K (n + 1) rest (s.wrs (wrDst o.dst r))) : callP P Tr gd K n o rest gl s := by
  unfold callP opA
  rw [hp]
  show opB P (Tr n) o gl _ s
  unfold opB
  rw [ho]
  simp only [hf]
  unfold callB
  rw [ha, hi, argSeq_plain, hL, argWr_plain]
  refine ⟨?_, hc, rfl, rfl, r, ob', ?_, hr, hk⟩
  · rw [List.all_eq_true]
    intro x hx
    have := List.all_eq_true.1 hc x (hL ▸ List.mem_append_left _ hx)
    cases x <;> first | rfl | simp [AV.okIds, AV.ok1] at this
  · have : L.map (AV.ren []) = L := by
      have h : ∀ x ∈ L, AV.ren [] x = x := fun x hx => ren_plain (List.all_eq_true.1 hc x hx)
      rw [List.map_congr_left h]; simp
    rw [this]
    exact hspec
/-! ### calls that lend objects -/
def lkI : List (Nat × List (Nat × Nat)) → Nat → List (Nat × Nat)
  | [], _ => []
  | (k, x) :: r, t => if k = t then x else lkI r t
theorem lkI_nil {t : Nat} : lkI [] t = [] := rfl
theorem lkI_cons {k t : Nat} {x : List (Nat × Nat)} {r : List (Nat × List (Nat × Nat))} : lkI ((k, x) :: r) t = @gite _ (k == t) ⟨x⟩ ⟨lkI r t⟩ := gite_if
def tkI (l : List Nat) (m : List (Nat × List (Nat × Nat))) (id n : Nat) : An := { tk := memN l (1000 * id + n), ids := lkI m (1000 * id + n) }
theorem asc_nil {i : Nat} : asc [] i = none := rfl
theorem asc_cons {c k i : Nat} {r : List (Nat × Nat)} : asc ((c, k) :: r) i = @gite _ (c == i) ⟨some k⟩ ⟨asc r i⟩ := gite_if
theorem csa_nil {i : Nat} : csa [] i = none := rfl
theorem csa_cons {c k i : Nat} {r : List (Nat × Nat)} : csa ((c, k) :: r) i = @gite _ (k == i) ⟨some c⟩ ⟨csa r i⟩ := gite_if
theorem r_callL {P : Program} {s : St} {Tr : Nat → An} {gd : List (Option Nat)} {K : St → Prop} {n : Nat} {o : Oper} {rest : List Oper} {gl : List Nat} {f : Operand} {xs : Array Operand} {ats : Array TypeId} {fid : FuncId} {caps L : List AV} {OB : List (Nat × List DV)} {r : AV} {ob' : List (Nat × List DV)} {ρ : List (Nat × Nat)}
    (hp : (Tr n).pre = []) (ha : (Tr n).args = []) (hi : (Tr n).ids = ρ) (ho : o.op = .call { callee := .value f, args := xs, argTypes := ats }) (hf : s.rd f = .fn fid caps) (hspec : Spec P fid L OB r ob')
    (hL : (xs.toList.map s.rd ++ caps).map (AV.ren ρ) = L) (hO : obIn ρ s.ob = OB)
    (hc : ((xs.toList.map s.rd).all fun x => !x.isTup) = true ∧ ((xs.toList.map s.rd ++ caps).all (AV.okIds (has ρ))) = true ∧ idsOk ρ = true ∧ (ρ.all fun p => (getOb s.ob p.1).isSome) = true) (hr : r.res = true)
    (hk : regP P Tr gd K (n + 1) rest ((s.back ρ ob').wrs (wrDst o.dst r))) : callP P Tr gd K n o rest gl s := by
  unfold callP opA
  rw [hp]
  show opB P (Tr n) o gl _ s
  unfold opB
  rw [ho]
  simp only [hf]
  unfold callB
  rw [ha, hi, argSeq_plain, argWr_plain]
  refine ⟨hc.1, hc.2.1, hc.2.2.1, hc.2.2.2, r, ob', ?_, hr, hk⟩
  rw [hL, hO]
  exact hspec
theorem r_callDL {P : Program} {s : St} {Tr : Nat → An} {gd : List (Option Nat)} {K : List Ev → St → Prop} {evs : List Ev} {n : Nat} {o : Oper} {rest : List Oper} {gl : List Nat} {f : Operand} {xs : Array Operand} {ats : Array TypeId} {fid : FuncId} {caps L : List AV} {OB : List (Nat × List DV)} {r : AV} {ob' : List (Nat × List DV)} {ρ : List (Nat × Nat)}
    (hp : (Tr n).pre = []) (ha : (Tr n).args = []) (hi : (Tr n).ids = ρ) (ho : o.op = .call { callee := .value f, args := xs, argTypes := ats }) (hf : s.rd f = .fn fid caps) (hspec : Spec P fid L OB r ob')
    (hL : (xs.toList.map s.rd ++ caps).map (AV.ren ρ) = L) (hO : obIn ρ s.ob = OB)
    (hc : ((xs.toList.map s.rd).all fun x => !x.isTup) = true ∧ ((xs.toList.map s.rd ++ caps).all (AV.okIds (has ρ))) = true ∧ idsOk ρ = true ∧ (ρ.all fun p => (getOb s.ob p.1).isSome) = true) (hr : r.res = true)
    (hk : regD P Tr gd K (n + 1) rest (evCall (Tr n) o gl s (wrDst o.dst r) ob' :: evs) ((s.back ρ ob').wrs (wrDst o.dst r))) : callD P Tr gd K n o rest gl evs s := by
  unfold callD opA
  rw [hp]
  show opB P (Tr n) o gl _ s
  unfold opB
  rw [ho]
  simp only [hf]
  unfold callB
  rw [ha, hi, argSeq_plain, argWr_plain]
  refine ⟨hc.1, hc.2.1, hc.2.2.1, hc.2.2.2, r, ob', ?_, hr, hk⟩
  rw [hL, hO]
  exact hspec
theorem back_all {s : St} {ρ : List (Nat × Nat)} {ob' : List (Nat × List DV)} (h : (ρ.all fun p => (getOb ob' p.2).isSome) = true) : s.back ρ ob' = ⟨s.fr, obOut ρ s.ob ob'⟩ := by
  unfold St.back; rw [if_pos h]
theorem back_cons {n : Nat} {l : List (Nat × AV)} {ob : List (Nat × List DV)} {ρ : List (Nat × Nat)} {ob' : List (Nat × List DV)} (h : (ρ.all fun p => (getOb ob' p.2).isSome) = true) : St.back ⟨Sp n l, ob⟩ ρ ob' = ⟨Sp n l, obOut ρ ob ob'⟩ := back_all h
theorem evCall_eq {b : Bool} {o : Oper} {gl : List Nat} {s : St} {ws : List Wr} {ob' : List (Nat × List DV)} : evCall ⟨b, [], [], []⟩ o gl s ws ob' = ⟨gl ++ o.op.operands.toList.flatMap (opLocs s), ws.map Wr.loc, false⟩ := by
  simp [evCall, An.plain]
theorem tn_sub (a b : Nat) : ((a : Int) - (b : Int)).toNat = a - b := by omega
theorem tn_sub1 (a : Nat) : ((a : Int) - 1).toNat = a - 1 := by omega
theorem tn_add (a b : Nat) : ((a : Int) + (b : Int)).toNat = a + b := by omega
theorem tn_add1 (a : Nat) : ((a : Int) + 1).toNat = a + 1 := by omega
theorem tn_0 : (0 : Int).toNat = 0 := rfl
theorem tn_1 : (1 : Int).toNat = 1 := rfl
theorem ite_one {α : Type} {x y : α} : (if (1 : Nat) = 1 then x else y) = x := rfl
attribute [go_sem] Call.operands lkI_nil lkI_cons tkI asc_nil asc_cons csa_nil csa_cons back_cons obOut obIn AV.ren AV.ren1 nm has Option.getD_some Option.isSome_some Option.isSome_none evCall_eq Bool.and_self Bool.true_and Bool.and_true Bool.and_false Bool.false_and or_self or_false false_or List.contains_nil List.contains_cons Bool.false_or Bool.or_false Bool.true_or Bool.or_true List.append_nil memN_nil memN_cons tkT chk_true sliceAV_eq sliceR sliceS sliceC indexAV_eq indexR indexO indexC byteAV_eq byteC addS binStr_add binStr_eql binStr_neq binStr_lss binStr_leq binStr_gtr binStr_geq appendR appendC appendAV_eq
  allocC eff_alloc boxC eff_box buildC eff_build bsC eff_buildSlice storeC eff_store takeC eff_take eff_makeFunc makeC eff_makeSlice eff_max eff_min minmax
  buildAt ite_one elemOf putPart fillRow leftSeq rawSeq offAt rowOf AV.flat and_true true_and tn_sub tn_sub1 tn_add tn_add1 tn_0 tn_1 Option.isNone_none Option.bind_some List.zip_cons_cons List.zip_nil_right List.replicate_succ List.replicate_zero List.set_cons_zero List.set_cons_succ List.headD_cons DV.isCell
end Go.Vi
