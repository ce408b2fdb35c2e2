/- The pure meaning of code, and that the machine does what it says. -/
import Derived.Test.YtbjkgeenjjfpdaaDoorVj
set_option linter.all false
set_option autoImplicit true
namespace Go.Vi
open Go Go.RowKit
set_option linter.unusedVariables false

/-- How a step is taken: whether it takes what it reads; what is given up ahead of it; which arguments a call takes, and under which names it lends objects. -/
structure An where
  tk : Bool := false
  pre : List Cv := []
  args : List Bool := []
  ids : List (Nat × Nat) := []

def zipF : List Operand → List Bool → List (Operand × Bool)
  | [], _ => []
  | x :: r, [] => (x, false) :: zipF r []
  | x :: r, b :: bs => (x, b) :: zipF r bs
def argSeq (s : St) : List (Operand × Bool) → List AV
  | [] => []
  | (x, b) :: r => if b then s.raw x :: argSeq (s.wrs (s.left x)) r else s.rd x :: argSeq s r
def argWr (s : St) : List (Operand × Bool) → List Wr
  | [] => []
  | (x, b) :: r => if b then s.left x ++ argWr (s.wrs (s.left x)) r else argWr s r

/-- What an operation looked at, and what it wrote: 2t: a slot; 2t+1: an object. -/
structure Ev where
  rd : List Nat
  wr : List Nat
  odd : Bool
def AV.refs : AV → List Nat
  | .ptr id _ _ => [id]
  | .os id _ _ => [id]
  | _ => []
def AV.refsD : AV → List Nat
  | .fn _ l => l.flatMap AV.refs
  | x => x.refs
def opLocs (s : St) : Operand → List Nat
  | .tmp t => 2 * t :: (s.fr.getD t .undef).refsD.map fun i => 2 * i + 1
  | _ => []
def Wr.loc : Wr → Nat
  | .slot d _ => 2 * d
  | .set id _ => 2 * id + 1
  | .new id _ => 2 * id + 1
def Wr.isNew : Wr → Bool
  | .new .. => true
  | _ => false
def An.plain (an : An) : Bool := an.pre.isEmpty
def evOf (an : An) (o : Oper) (gl : List Nat) (s : St) (ws : List Wr) : Ev :=
  { rd := gl ++ o.op.operands.toList.flatMap (opLocs s), wr := ws.map Wr.loc, odd := !an.plain || ws.any Wr.isNew }
def evCall (an : An) (o : Oper) (gl : List Nat) (s : St) (ws : List Wr) (ob' : List (Nat × List DV)) : Ev :=
  { rd := gl ++ o.op.operands.toList.flatMap (opLocs s) ++ an.ids.map (fun p => 2 * p.1 + 1), wr := ws.map Wr.loc ++ an.ids.map (fun p => 2 * p.1 + 1), odd := !an.plain || !(an.ids.all fun p => (getOb ob' p.2).isSome) }

/-- A call of a function that answers as its contract says. -/
def callB (P : Program) (an : An) (l : List (Operand × Bool)) (fid : FuncId) (caps : List AV) (K : AV → List (Nat × List DV) → Prop) (s : St) : Prop :=
  ((argSeq s l).all fun x => !x.isTup) = true ∧ ((argSeq s l ++ caps).all (AV.okIds (has an.ids))) = true ∧ idsOk an.ids = true ∧ (an.ids.all fun p => (getOb s.ob p.1).isSome) = true ∧
  ∃ r ob', Spec P fid ((argSeq s l ++ caps).map (AV.ren an.ids)) (obIn an.ids s.ob) r ob' ∧ r.res = true ∧ K r ob'

def opB (P : Program) (an : An) (o : Oper) (gl : List Nat) (K : Ev → St → Prop) (s : St) : Prop :=
  match o.op with
  | .call { callee := .value f, args := xs, .. } => match s.rd f with
    | .fn fid caps => callB P an (zipF xs.toList an.args) fid caps (fun r ob' => K (evCall an o gl s (argWr s (zipF xs.toList an.args) ++ wrDst o.dst r) ob') (((s.wrs (argWr s (zipF xs.toList an.args))).back an.ids ob').wrs (wrDst o.dst r))) s
    | _ => False
  | _ => match eff (mkC P) an.tk o s with
    | some ws => K (evOf an o gl s ws) (s.wrs ws)
    | none => False
def opA (P : Program) (an : An) (o : Oper) (gl : List Nat) (K : Ev → St → Prop) (s : St) : Prop :=
  match s.cvs an.pre with
  | some s' => opB P an o gl K s'
  | none => False

def regA (P : Program) (T : Nat → An) (ops : Array Oper) (K : List Ev → St → Prop) : Nat → List Oper → List Ev → St → Prop
  | _, [], evs, s => K evs s
  | n, o :: r, evs, s => match o.guard with
    | none => opA P (T n) o [] (fun e s' => regA P T ops K (n + 1) r (e :: evs) s') s
    | some (j, want) => match (ops[j]?).bind (·.dst) with
      | some t => match s.fr.getD t .undef with
        | .sh (.bool b) => if b = want then opA P (T n) o [2 * t] (fun e s' => regA P T ops K (n + 1) r (e :: evs) s') s
            else regA P T ops K (n + 1) r (⟨[2 * t], (wrDst o.dst .gone).map Wr.loc, false⟩ :: evs) (s.wrs (wrDst o.dst .gone))
        | .gone => regA P T ops K (n + 1) r (⟨[2 * t], (wrDst o.dst .gone).map Wr.loc, false⟩ :: evs) (s.wrs (wrDst o.dst .gone))
        | _ => False
      | none => False

/-! ### soundness -/
section
variable [Bnd] {P : Program} [BndP P] {g : Gh} {s : St} {a : Act} {w : World} {H : List (Nat × Value × AV)}

def heldArgs (a : Act) (s : St) : Nat → List (Operand × Bool) → List (Nat × Value × AV)
  | _, [] => []
  | m, (x, b) :: r => if b then (m, a.eval x, s.raw x) :: heldArgs a (s.wrs (s.left x)) (m + 1) r else (m, a.eval x, s.rd x) :: heldArgs a s (m + 1) r

omit [Bnd] in
theorem plain_isTup (x : AV) : x.plain.isTup = false := by cases x <;> rfl

theorem takeArgs : ∀ (l : List (Operand × Bool)) (g : Gh) (s : St) (m : Nat) (H : List (Nat × Value × AV)), RelH g s a w H → (∀ y ∈ H, y.1 < m) → (∀ x ∈ argSeq s l, x.isTup = false) →
    ∃ g', RelH g' (s.wrs (argWr s l)) a w (heldArgs a s m l ++ H) ∧ Stp g w g' w := by
  intro l
  induction l with
  | nil => intro g s m H R _ _; exact ⟨g, R, Stp.refl _ _⟩
  | cons p l ih =>
    obtain ⟨x, b⟩ := p
    intro g s m H R hH ht
    cases b with
    | true =>
      simp only [argSeq, argWr, heldArgs, if_true] at ht ⊢
      obtain ⟨φ, R1⟩ := R.take x m (fun y hy => by have := hH y hy; omega) (ht _ (by simp))
      obtain ⟨g', R2, S2⟩ := ih (g.re φ) (s.wrs (s.left x)) (m + 1) _ R1 (fun y hy => by
        rcases List.mem_cons.1 hy with rfl | hy
        · exact Nat.lt_succ_self _
        · have := hH y hy; omega) (fun y hy => ht y (by simp [hy]))
      refine ⟨g', ?_, (Stp.re _ _ φ).trans S2⟩
      rw [wrs_append]
      refine R2.perm fun y hy => ?_
      simp only [List.mem_append, List.mem_cons, List.cons_append] at hy ⊢
      rcases hy with hy | hy | hy
      · exact .inr (.inl hy)
      · exact .inl hy
      · exact .inr (.inr hy)
    | false =>
      simp only [argSeq, argWr, heldArgs, Bool.false_eq_true, if_false] at ht ⊢
      have R1 : RelH g s a w ((m, a.eval x, s.rd x) :: H) := ⟨R.toRel, fun k v y hk => by
        rcases List.mem_cons.1 hk with hk | hk
        · injection hk with e1 e2
          injection e2 with e2 e3
          subst e1 e2 e3
          exact R.toRel.rd x _
        · exact R.held k v y hk⟩
      obtain ⟨g', R2, S2⟩ := ih g s (m + 1) _ R1 (fun y hy => by
        rcases List.mem_cons.1 hy with rfl | hy
        · exact Nat.lt_succ_self _
        · have := hH y hy; omega) (fun y hy => ht y (by simp [hy]))
      refine ⟨g', R2.perm fun y hy => ?_, S2⟩
      simp only [List.mem_append, List.mem_cons, List.cons_append] at hy ⊢
      rcases hy with hy | hy | hy
      · exact .inr (.inl hy)
      · exact .inl hy
      · exact .inr (.inr hy)

theorem heldArgs_get : ∀ {l : List (Operand × Bool)} {s : St} {m i : Nat} {x : AV}, (argSeq s l)[i]? = some x → ∃ y, (l.map (·.1))[i]? = some y ∧ (m + i, a.eval y, x) ∈ heldArgs a s m l
  | [], s, m, i, x, h => by simp [argSeq] at h
  | (y, true) :: l, s, m, 0, x, h => by
    simp only [argSeq, if_true, List.getElem?_cons_zero, Option.some.injEq] at h
    subst h
    exact ⟨y, by simp, by simp [heldArgs]⟩
  | (y, true) :: l, s, m, i + 1, x, h => by
    simp only [argSeq, if_true, List.getElem?_cons_succ] at h
    obtain ⟨z, h1, h2⟩ := heldArgs_get (m := m + 1) h
    exact ⟨z, by simpa using h1, by simp only [heldArgs, if_true]; rw [show m + (i + 1) = m + 1 + i by omega]; exact List.mem_cons_of_mem _ h2⟩
  | (y, false) :: l, s, m, 0, x, h => by
    simp only [argSeq, Bool.false_eq_true, if_false, List.getElem?_cons_zero, Option.some.injEq] at h
    subst h
    exact ⟨y, by simp, by simp [heldArgs]⟩
  | (y, false) :: l, s, m, i + 1, x, h => by
    simp only [argSeq, Bool.false_eq_true, if_false, List.getElem?_cons_succ] at h
    obtain ⟨z, h1, h2⟩ := heldArgs_get (m := m + 1) h
    exact ⟨z, by simpa using h1, by simp only [heldArgs, Bool.false_eq_true, if_false]; rw [show m + (i + 1) = m + 1 + i by omega]; exact List.mem_cons_of_mem _ h2⟩

omit [Bnd] in
theorem argSeq_length : ∀ (l : List (Operand × Bool)) (s : St), (argSeq s l).length = l.length
  | [], s => rfl
  | (x, true) :: r, s => by simp [argSeq, argSeq_length r]
  | (x, false) :: r, s => by simp [argSeq, argSeq_length r]
omit [Bnd] in
theorem zipF_fst : ∀ (xs : List Operand) (bs : List Bool), (zipF xs bs).map (·.1) = xs
  | [], _ => rfl
  | x :: r, [] => by simp [zipF, zipF_fst r []]
  | x :: r, b :: bs => by simp [zipF, zipF_fst r bs]

omit [Bnd] in
theorem argWr_ob : ∀ (l : List (Operand × Bool)) (s : St), (s.wrs (argWr s l)).ob = s.ob
  | [], s => rfl
  | (x, true) :: r, s => by simp only [argWr, if_true, wrs_append]; rw [argWr_ob r, left_ob]
  | (x, false) :: r, s => by simp only [argWr, Bool.false_eq_true, if_false]; exact argWr_ob r s

theorem run_callV {o : Oper} {f : Operand} {fid : FuncId} {cs : Array Value} {xs : Array Operand} {ats : Array TypeId} (ho : o.op = .call { callee := .value f, args := xs, argTypes := ats }) (hf : a.eval f = .func (.func fid) #[] cs) (hg : Goes P fid) (w : World) :
    (execOp a.eval o).run P w = .ok (.enter fid (xs.map a.eval ++ cs)) w := by
  obtain ⟨dst, op, ty, pos, after, guard⟩ := o
  simp only at ho
  subst ho
  obtain ⟨fn, h1, h2, h3⟩ := hg
  have : execOp a.eval { dst, op := .call { callee := .value f, args := xs, argTypes := ats }, type := ty, pos, after, guard } = callFunc fid (#[] ++ xs.map a.eval ++ cs) := by
    simp only [execOp, resolve, hf, Deferred.ofValue]; rfl
  rw [this]
  simp only [callFunc, Sem.run_bind, run_program, Result.andThen_ok, h1, h2, h3, Bool.false_eq_true, if_false]
  simp [pure]

omit [Bnd] in
theorem rd_left {f x : Operand} {fid : FuncId} {caps : List AV} (h : s.rd f = .fn fid caps) : (s.wrs (s.left x)).rd f = .fn fid caps := by
  cases x with
  | tmp t =>
    cases hr : s.fr.getD t .undef with
    | ow d =>
      have hl : s.left (.tmp t) = [.slot t (.sh d.strip)] := by simp only [St.left, hr]
      rw [hl]
      cases f with
      | tmp t' =>
        have hne : t ≠ t' := by
          intro he
          subst he
          simp only [St.rd, St.raw, hr, AV.plain] at h
          cases h
        simpa [St.rd, St.raw, St.wrs, St.wr, List.getD_eq_getElem?_getD, List.getElem?_set_ne hne] using h
      | _ => exact h
    | _ => simp only [St.left, hr]; exact h
  | _ => exact h
omit [Bnd] in
theorem rd_argWr {f : Operand} {fid : FuncId} {caps : List AV} : ∀ (l : List (Operand × Bool)) {s : St}, s.rd f = .fn fid caps → (s.wrs (argWr s l)).rd f = .fn fid caps
  | [], s, h => h
  | (x, true) :: r, s, h => by simp only [argWr, if_true, wrs_append]; exact rd_argWr r (rd_left h)
  | (x, false) :: r, s, h => by simp only [argWr, Bool.false_eq_true, if_false]; exact rd_argWr r h

/-- A call, in place. -/
theorem callB_sound (R : Rel g s a w) {an : An} {o : Oper} {f : Operand} {fid : FuncId} {caps : List AV} {xs : Array Operand} {ats : Array TypeId} {K : AV → List (Nat × List DV) → Prop} {next : Act → World → Prop} {Q : Exit → Act → World → Prop}
    (ho : o.op = .call { callee := .value f, args := xs, argTypes := ats }) (hf : s.rd f = .fn fid caps) (h : callB P an (zipF xs.toList an.args) fid caps K s)
    (hn : ∀ r ob', K r ob' → ∀ g' a' w', Rel g' (((s.wrs (argWr s (zipF xs.toList an.args))).back an.ids ob').wrs (wrDst o.dst r)) a' w' → Stp g w g' w' → next a' w') : o.wp P a w next Q := by
  obtain ⟨h1, h2, h3, h4, r, ob', hspec, hres, hK⟩ := h
  obtain ⟨hgo, hcall⟩ := hspec
  obtain ⟨g1, R1, S1⟩ := takeArgs (zipF xs.toList an.args) g s 0 [] R.hold (by simp) (fun x hx => by simpa using List.all_eq_true.1 h1 x hx)
  have hob1 : (s.wrs (argWr s (zipF xs.toList an.args))).ob = s.ob := argWr_ob _ s
  have hfv := R1.toRel.rd f []
  rw [rd_argWr _ hf] at hfv
  generalize s.wrs (argWr s (zipF xs.toList an.args)) = s1 at *
  obtain ⟨cs, hfv1, hcs, hcf, hcr⟩ := hfv.inv_fn
  have hpre := R1.toRel.pre (ρ := an.ids) (vs := xs.map a.eval ++ cs) (args := argSeq s (zipF xs.toList an.args) ++ caps) h3 (fun c k hm => by
      rw [hob1]
      have := List.all_eq_true.1 h4 _ hm
      simpa [Option.isSome_iff_ne_none] using this)
    (by simp [argSeq_length, hcs]; rw [← List.length_map (f := (·.1)), zipF_fst]; simp)
    (fun i v x hv hx => by
      have hlen : (argSeq s (zipF xs.toList an.args)).length = xs.size := by rw [argSeq_length, ← List.length_map (f := (·.1)), zipF_fst]; simp
      refine ⟨?_, List.all_eq_true.1 h2 x (List.mem_of_getElem? hx)⟩
      by_cases hi : i < xs.size
      · rw [List.getElem?_append_left (by omega)] at hx
        obtain ⟨y, hy, hm⟩ := heldArgs_get (a := a) (m := 0) hx
        rw [zipF_fst] at hy
        have hv' : v = a.eval y := by
          rw [Array.getElem?_append_left (by simpa using hi), Array.getElem?_map] at hv
          have : xs[i]? = some y := by simpa using hy
          rw [this] at hv
          exact (Option.some.inj hv).symm
        subst hv'
        have := R1.held _ _ _ (List.mem_append_left _ hm)
        simpa using this
      · rw [List.getElem?_append_right (by omega), hlen] at hx
        rw [Array.getElem?_append_right (by simp; omega)] at hv
        simp only [Array.size_map] at hv
        exact (hcr _ _ _ hv hx).flat (hcf x (List.mem_of_getElem? hx)) _)
  rw [← hob1] at hcall
  unfold Oper.wp
  rw [run_callV ho hfv1 hgo w, Oper.upon_enter]
  refine Calls.mono (hcall _ w _ hpre) fun e w' he => ?_
  obtain ⟨v, g', rfl, Q', S'⟩ := he
  obtain ⟨g2, R2, S2⟩ := R1.toRel.back' h3 hres Q' S'
  obtain ⟨φ, R3⟩ := R2.put (by simp) o.dst
  exact hn r ob' hK _ _ _ R3.toRel ((S1.trans S2).trans (Stp.re _ _ φ))

theorem opB_sound (R : Rel g s a w) {an : An} {o : Oper} {gl : List Nat} {K : Ev → St → Prop} {next : Act → World → Prop} {Q : Exit → Act → World → Prop} (h : opB P an o gl K s)
    (hn : ∀ e s', K e s' → ∀ g' a' w', Rel g' s' a' w' → Stp g w g' w' → next a' w') : o.wp P a w next Q := by
  have easy : (match eff (mkC P) an.tk o s with
    | some ws => K (evOf an o gl s ws) (s.wrs ws)
    | none => False) → o.wp P a w next Q := by
    intro h
    cases he : eff (mkC P) an.tk o s with
    | none => rw [he] at h; exact h.elim
    | some ws =>
      rw [he] at h
      unfold Oper.wp
      rcases eff_sound R he with ⟨v, w', g', h1, h2, h3⟩ | ⟨hd, w', g', h1, h2, h3⟩
      · rw [h1]; exact hn _ _ h _ _ _ h2 h3
      · rw [h1, Oper.upon_skip, hd]; exact hn _ _ h _ _ _ h2 h3
  unfold opB at h
  split at h
  · rename_i f xs ats hop
    split at h
    · rename_i fid caps hf
      exact callB_sound R hop hf h fun r ob' hK g' a' w' R' S' => hn _ _ hK g' a' w' R' S'
    · exact h.elim
  · exact easy h
theorem opA_sound (R : Rel g s a w) {an : An} {o : Oper} {gl : List Nat} {K : Ev → St → Prop} {next : Act → World → Prop} {Q : Exit → Act → World → Prop} (h : opA P an o gl K s)
    (hn : ∀ e s', K e s' → ∀ g' a' w', Rel g' s' a' w' → Stp g w g' w' → next a' w') : o.wp P a w next Q := by
  unfold opA at h
  split at h
  · rename_i s' hs
    obtain ⟨g1, R1, S1⟩ := R.cvs hs
    exact opB_sound R1 h fun e s' hK g' a' w' R' S' => hn e s' hK g' a' w' R' (S1.trans S')
  · exact h.elim

theorem yield_of (R : Rel g s a w) {ops : Array Oper} {j t : Nat} (hj : (ops[j]?).bind (·.dst) = some t) :
    (∀ b, s.fr.getD t .undef = .sh (.bool b) → yielded ops a.tmps j = some b) ∧ (s.fr.getD t .undef = .gone → yielded ops a.tmps j = none) := by
  constructor
  · intro b hb
    have hs := R.slot t _ (getD_get hb (by simp))
    have hv := hs.inv_sh.inv_bool
    have hlt : t < a.tmps.size := by rw [← R.size]; exact (List.getElem?_eq_some_iff.1 (getD_get hb (by simp))).1
    unfold yielded
    rw [hj, Option.bind_some, Array.getElem?_eq_getElem hlt]
    have : a.tmps[t] = .bool b := by simpa [hlt] using hv
    rw [this]
  · intro hb
    have hs := R.slot t _ (getD_get hb (by simp))
    have hv := hs.inv_gone
    unfold yielded
    rw [hj, Option.bind_some]
    cases ht : a.tmps[t]? with
    | none => rfl
    | some v =>
      have : v = undef := by simpa [ht] using hv
      rw [this]; rfl

theorem skip_ok (R : Rel g s a w) (dst : Option Nat) : ∃ g', Rel g' (s.wrs (wrDst dst .gone)) (a.put dst undef) w ∧ Stp g w g' w := by
  obtain ⟨φ, R1⟩ := R.putFlat dst (ARel.gone [2, 0])
  exact ⟨_, R1, Stp.re _ _ φ⟩

omit [Bnd] in
/-- One operation of a region, guarded or not. -/
def oneA (P : Program) (an : An) (ops : Array Oper) (o : Oper) (K : Ev → St → Prop) (s : St) : Prop :=
  match o.guard with
  | none => opA P an o [] K s
  | some (j, want) => match (ops[j]?).bind (·.dst) with
    | some t => match s.fr.getD t .undef with
      | .sh (.bool b) => if b = want then opA P an o [2 * t] K s else K ⟨[2 * t], (wrDst o.dst .gone).map Wr.loc, false⟩ (s.wrs (wrDst o.dst .gone))
      | .gone => K ⟨[2 * t], (wrDst o.dst .gone).map Wr.loc, false⟩ (s.wrs (wrDst o.dst .gone))
      | _ => False
    | none => False
omit [Bnd] in
theorem regA_cons {T : Nat → An} {ops : Array Oper} {K : List Ev → St → Prop} {n : Nat} {o : Oper} {r : List Oper} {evs : List Ev} :
    regA P T ops K n (o :: r) evs s = oneA P (T n) ops o (fun e s' => regA P T ops K (n + 1) r (e :: evs) s') s := by
  simp only [regA, oneA]

theorem oneA_sound (R : Rel g s a w) {an : An} {ops : Array Oper} {i : Nat} {o : Oper} (hi : ops[i]? = some o) {K : Ev → St → Prop} {next : Act → World → Prop} {Q : Exit → Act → World → Prop} (h : oneA P an ops o K s)
    (hn : ∀ e s', K e s' → ∀ g' a' w', Rel g' s' a' w' → Stp g w g' w' → next a' w') : wpOp P ops Q i next a w := by
  unfold wpOp
  simp only [hi]
  have skip : ∀ {e}, K e (s.wrs (wrDst o.dst .gone)) → next (a.put o.dst undef) w := fun hK => by
    obtain ⟨g', R', S'⟩ := skip_ok R o.dst
    exact hn _ _ hK _ _ _ R' S'
  unfold oneA at h
  split at h
  · rename_i hg
    have hw : Region.wanted o (yielded ops a.tmps) = true := by simp [Region.wanted, hg]
    rw [if_pos hw]
    exact .inl (opA_sound R h hn)
  · rename_i j want hg
    split at h
    · rename_i t ht
      obtain ⟨hb, hgone⟩ := yield_of R ht
      split at h
      · rename_i b hs
        have hy := hb b hs
        split at h
        · rename_i hbw
          have hw : Region.wanted o (yielded ops a.tmps) = true := by simp [Region.wanted, hg, hy, hbw]
          rw [if_pos hw]
          exact .inl (opA_sound R h hn)
        · rename_i hbw
          have hw : ¬ Region.wanted o (yielded ops a.tmps) = true := by simp [Region.wanted, hg, hy, hbw]
          rw [if_neg hw]
          exact skip h
      · rename_i hs
        have hy := hgone hs
        have hw : ¬ Region.wanted o (yielded ops a.tmps) = true := by simp [Region.wanted, hg, hy]
        rw [if_neg hw]
        exact skip h
      · exact h.elim
    · exact h.elim

theorem regA_sound {T : Nat → An} {ops : Array Oper} {Q : Exit → Act → World → Prop} {K : List Ev → St → Prop} {g0 : Gh} {w0 : World} : ∀ (l : List Oper) (n : Nat) (evs : List Ev) (g : Gh) (s : St) (a : Act) (w : World),
    ops.toList.drop n = l → Rel g s a w → Stp g0 w0 g w → regA P T ops K n l evs s →
    (∀ evs s' g' a' w', K evs s' → Rel g' s' a' w' → Stp g0 w0 g' w' → Q .normal a' w') → wpOps P ops Q (List.range' n l.length) a w := by
  intro l
  induction l with
  | nil =>
    intro n evs g s a w _ R S h hQ
    exact hQ _ _ _ _ _ h R S
  | cons o r ih =>
    intro n evs g s a w hd R S h hQ
    rw [regA_cons] at h
    have ho : ops[n]? = some o := by
      have : (ops.toList.drop n)[0]? = some o := by rw [hd]; rfl
      rw [List.getElem?_drop] at this
      simpa using this
    have hd' : ops.toList.drop (n + 1) = r := by
      rw [← List.drop_drop, hd]; rfl
    rw [List.length_cons, List.range'_succ, wpOps_cons]
    exact oneA_sound R ho h fun e s' h' g' a' w' R' S' => ih (n + 1) _ g' s' a' w' hd' R' (S.trans S') h' hQ

end
end Go.Vi
