/- The pure meaning of a function's body, and the contract that comes of it. -/
import Derived.Test.YtbjkgeenjjfpdaaDoorVl
set_option linter.all false
set_option autoImplicit true
namespace Go.Vi
open Go Go.RowKit
set_option linter.unusedVariables false

def ethen (K : St → Prop) (Q : Exit → St → Prop) : Exit → St → Prop
  | .normal, s => K s
  | e, s => Q e s
def eblk (id : Nat) (Q : Exit → St → Prop) : Exit → St → Prop
  | .exit i, s => if i = id then Q .normal s else Q (.exit i) s
  | e, s => Q e s

/-- A loop: an invariant, indexed, that a measure goes down on. -/
def loopA (W : (Exit → St → Prop) → St → Prop) (Q : Exit → St → Prop) (s : St) : Prop :=
  ∃ (ι : Type) (I : ι → St) (inv : ι → Prop) (μ : ι → Nat) (i : ι) (cv : List Cv), s.cvs cv = some (I i) ∧ inv i ∧
    ∀ i, inv i → W (ethen (fun s' => ∃ cv' i', s'.cvs cv' = some (I i') ∧ inv i' ∧ μ i' < μ i) Q) (I i)

def awp (P : Program) (T : Nat → Nat → An) : Code → (Exit → St → Prop) → St → Prop
  | .skip, Q, s => Q .normal s
  | .label _, Q, s => Q .normal s
  | .exit id, Q, s => Q (.exit id) s
  | .ret, Q, s => Q .ret s
  | .seq x y, Q, s => awp P T x (ethen (fun s' => ∃ cv s2, s'.cvs cv = some s2 ∧ awp P T y Q s2) Q) s
  | .cond c x y, Q, s => match s.rd c with
    | .sh (.bool b) => if b = true then awp P T x Q s else awp P T y Q s
    | _ => False
  | .block id c, Q, s => awp P T c (eblk id Q) s
  | .loop c, Q, s => loopA (awp P T c) Q s
  | .region id ops draw, Q, s => regA P (T id) ops (fun evs s' => (draw = true → indep ops evs.reverse = true) ∧ Q .normal s') 0 ops.toList [] s
  | _, _, _ => False

theorem opA_mono {P : Program} {an : An} {o : Oper} {gl : List Nat} {K K' : Ev → St → Prop} {s : St} (h : opA P an o gl K s) (hk : ∀ e s, K e s → K' e s) : opA P an o gl K' s := by
  unfold opA at h ⊢
  split at h
  · rename_i s1 hs
    unfold opB at h ⊢
    split at h
    · rename_i f xs ats hop
      split at h
      · rename_i fid caps hf
        obtain ⟨h1, h2, h3, h4, r, ob', h5, h6, h7⟩ := h
        exact ⟨h1, h2, h3, h4, r, ob', h5, h6, hk _ _ h7⟩
      · exact h
    · split at h
      · exact hk _ _ h
      · exact h
  · exact h
theorem oneA_mono {P : Program} {an : An} {ops : Array Oper} {o : Oper} {K K' : Ev → St → Prop} {s : St} (h : oneA P an ops o K s) (hk : ∀ e s, K e s → K' e s) : oneA P an ops o K' s := by
  unfold oneA at h ⊢
  split at h
  · exact opA_mono h hk
  · split at h
    · split at h
      · split at h
        · rename_i hb; rw [if_pos hb]; exact opA_mono h hk
        · rename_i hb; rw [if_neg hb]; exact hk _ _ h
      · exact hk _ _ h
      · exact h
    · exact h
theorem regA_mono {P : Program} {T : Nat → An} {ops : Array Oper} {K K' : List Ev → St → Prop} : ∀ (l : List Oper) (n : Nat) (evs : List Ev) (s : St), regA P T ops K n l evs s → (∀ e s, K e s → K' e s) → regA P T ops K' n l evs s
  | [], n, evs, s, h, hk => hk _ _ h
  | o :: r, n, evs, s, h, hk => by
    rw [regA_cons] at h ⊢
    exact oneA_mono h fun e s h => regA_mono r _ _ _ h hk
theorem awp_mono {P : Program} {T : Nat → Nat → An} : ∀ (c : Code) (Q Q' : Exit → St → Prop) (s : St), awp P T c Q s → (∀ e s, Q e s → Q' e s) → awp P T c Q' s := by
  intro c
  induction c with
  | skip => exact fun Q Q' s h hq => hq _ _ h
  | label l => exact fun Q Q' s h hq => hq _ _ h
  | exit id => exact fun Q Q' s h hq => hq _ _ h
  | ret => exact fun Q Q' s h hq => hq _ _ h
  | seq x y ihx ihy =>
    intro Q Q' s h hq
    refine ihx _ _ s h fun e s1 h1 => ?_
    cases e with
    | normal => obtain ⟨cv, s2, k1, k2⟩ := h1; exact ⟨cv, s2, k1, ihy _ _ s2 k2 hq⟩
    | _ => exact hq _ _ h1
  | cond c x y ihx ihy =>
    intro Q Q' s h hq
    simp only [awp] at h ⊢
    split at h
    · split at h
      · rename_i hb; rw [if_pos hb]; exact ihx _ _ s h hq
      · rename_i hb; rw [if_neg hb]; exact ihy _ _ s h hq
    · exact h
  | block id c ih =>
    intro Q Q' s h hq
    refine ih _ _ s h fun e s1 h1 => ?_
    cases e with
    | exit i =>
      simp only [eblk] at h1 ⊢
      split at h1
      · rename_i hi; rw [if_pos hi]; exact hq _ _ h1
      · rename_i hi; rw [if_neg hi]; exact hq _ _ h1
    | _ => exact hq _ _ h1
  | loop c ih =>
    intro Q Q' s h hq
    obtain ⟨ι, I, inv, μ, i, cv, h1, h2, h3⟩ := h
    refine ⟨ι, I, inv, μ, i, cv, h1, h2, fun i hi => ih _ _ _ (h3 i hi) fun e s1 h1 => ?_⟩
    cases e with
    | normal => exact h1
    | _ => exact hq _ _ h1
  | region id ops draw =>
    intro Q Q' s h hq
    exact regA_mono _ _ _ _ h fun e s h => ⟨h.1, hq _ _ h.2⟩
  | rangeFunc => exact fun Q Q' s h hq => h
  | scope => exact fun Q Q' s h hq => h
  | goto => exact fun Q Q' s h hq => h
  | refuse => exact fun Q Q' s h hq => h

def easyX : Exit → Bool
  | .normal | .exit _ | .ret => true
  | _ => false
def Good [Bnd] (g0 : Gh) (w0 : World) (Q : Exit → St → Prop) (e : Exit) (a : Act) (w : World) : Prop :=
  easyX e = true ∧ ∃ s g, Q e s ∧ Rel g s a w ∧ Stp g0 w0 g w

/-- A loop whose invariant has an index. -/
theorem wp_loopI {P : Program} {c : Code} {Q : Exit → Act → World → Prop} {ι : Type} (J : ι → Act → World → Prop) (μ : ι → Nat)
    (round : ∀ i a w, J i a w → c.wp P (Exit.then (fun a' w' => ∃ i', J i' a' w' ∧ μ i' < μ i) Q) a w) (i : ι) (a : Act) (w : World) (h : J i a w) : (Code.loop c).wp P Q a w := by
  let B : Act → World → Nat → Prop := fun a w n => ∃ i, J i a w ∧ μ i = n
  have least : ∀ a w, ∃ n, (∃ m, B a w m) → B a w n ∧ ∀ m, B a w m → n ≤ m := by
    intro a w
    have key : ∀ n, B a w n → ∃ n, B a w n ∧ ∀ m, B a w m → n ≤ m := by
      intro n
      induction n using Nat.strongRecOn with
      | _ n ih =>
        intro hn
        by_cases hm : ∃ m, m < n ∧ B a w m
        · obtain ⟨m, h1, h2⟩ := hm; exact ih m h1 h2
        · exact ⟨n, hn, fun m hB => by
            rcases Nat.lt_or_ge m n with h | h
            · exact absurd ⟨m, h, hB⟩ hm
            · exact h⟩
    by_cases hx : ∃ m, B a w m
    · obtain ⟨m, hB⟩ := hx
      obtain ⟨n, h⟩ := key m hB
      exact ⟨n, fun _ => h⟩
    · exact ⟨0, fun h => absurd h hx⟩
  let ν : Act → World → Nat := fun a w => Classical.choose (least a w)
  have hsp : ∀ a w, (∃ m, B a w m) → B a w (ν a w) ∧ ∀ m, B a w m → ν a w ≤ m := fun a w => Classical.choose_spec (least a w)
  have hν : ∀ {i a w}, J i a w → ∃ i', J i' a w ∧ μ i' = ν a w := fun {i a w} h => (hsp a w ⟨μ i, i, h, rfl⟩).1
  have hle : ∀ {i a w}, J i a w → ν a w ≤ μ i := fun {i a w} h => (hsp a w ⟨μ i, i, h, rfl⟩).2 _ ⟨i, h, rfl⟩
  refine wp_loop (fun a w => ∃ i, J i a w) ν ⟨i, h⟩ fun a w hI => ?_
  obtain ⟨i, hi⟩ := hI
  obtain ⟨i', hi', hm⟩ := hν hi
  refine wp_mono (round i' a w hi') fun e a1 w1 hq => ?_
  cases e with
  | normal =>
    obtain ⟨i2, h2, hlt⟩ := hq
    exact ⟨⟨i2, h2⟩, Nat.lt_of_le_of_lt (hle h2) (by omega)⟩
  | _ => exact hq

theorem awp_sound [Bnd] {P : Program} [BndP P] (hm : P.follows .mixedOrders = true) {T : Nat → Nat → An} {g0 : Gh} {w0 : World} : ∀ (c : Code) (Q : Exit → St → Prop) (s : St) (g : Gh) (a : Act) (w : World),
    Rel g s a w → Stp g0 w0 g w → awp P T c Q s → c.wp P (Good g0 w0 Q) a w := by
  intro c
  induction c with
  | skip => exact fun Q s g a w R S h => wp_skip ⟨rfl, s, g, h, R, S⟩
  | label l => exact fun Q s g a w R S h => wp_label ⟨rfl, s, g, h, R, S⟩
  | exit id => exact fun Q s g a w R S h => wp_exit ⟨rfl, s, g, h, R, S⟩
  | ret => exact fun Q s g a w R S h => wp_ret ⟨rfl, s, g, h, R, S⟩
  | seq x y ihx ihy =>
    intro Q s g a w R S h
    refine wp_seq (wp_mono (ihx _ s g a w R S h) fun e a' w' hq => ?_)
    obtain ⟨he, s', g', hq, R', S'⟩ := hq
    cases e <;> simp only [easyX, Bool.false_eq_true] at he
    · obtain ⟨cv, s2, h1, h2⟩ := hq
      obtain ⟨g2, R2, S2⟩ := R'.cvs h1
      exact ihy Q s2 g2 a' w' R2 (S'.trans S2) h2
    · exact ⟨rfl, s', g', hq, R', S'⟩
    · exact ⟨rfl, s', g', hq, R', S'⟩
  | cond c x y ihx ihy =>
    intro Q s g a w R S h
    simp only [awp] at h
    split at h
    · rename_i b hb
      have hc := R.rd c []
      rw [hb] at hc
      refine wp_cond hc.inv_sh.inv_bool ?_
      cases b
      · exact ihy Q s g a w R S h
      · exact ihx Q s g a w R S h
    · exact h.elim
  | block id c ih =>
    intro Q s g a w R S h
    refine wp_block (wp_mono (ih _ s g a w R S h) fun e a' w' hq => ?_)
    obtain ⟨he, s', g', hq, R', S'⟩ := hq
    cases e <;> simp only [easyX, Bool.false_eq_true] at he
    · exact ⟨rfl, s', g', hq, R', S'⟩
    · simp only [eblk] at hq
      simp only [Exit.inBlock]
      split
      · rename_i hi; rw [if_pos hi] at hq; exact ⟨rfl, s', g', hq, R', S'⟩
      · rename_i hi; rw [if_neg hi] at hq; exact ⟨rfl, s', g', hq, R', S'⟩
    · exact ⟨rfl, s', g', hq, R', S'⟩
  | loop c ih =>
    intro Q s g a w R S h
    obtain ⟨ι, I, inv, μ, i, cv, h1, h2, h3⟩ := h
    obtain ⟨g1, R1, S1⟩ := R.cvs h1
    refine wp_loopI (fun i a w => inv i ∧ ∃ g, Rel g (I i) a w ∧ Stp g0 w0 g w) μ (fun i a w hJ => ?_) i a w ⟨h2, g1, R1, S.trans S1⟩
    obtain ⟨hi, g, R, S⟩ := hJ
    refine wp_mono (ih _ _ g a w R S (h3 i hi)) fun e a' w' hq => ?_
    obtain ⟨he, s', g', hq, R', S'⟩ := hq
    cases e <;> simp only [easyX, Bool.false_eq_true] at he
    · obtain ⟨cv', i', k1, k2, k3⟩ := hq
      obtain ⟨g2, R2, S2⟩ := R'.cvs k1
      exact ⟨i', ⟨k2, g2, R2, S'.trans S2⟩, k3⟩
    · exact ⟨rfl, s', g', hq, R', S'⟩
    · exact ⟨rfl, s', g', hq, R', S'⟩
  | region id ops draw =>
    intro Q s g a w R S h
    simp only [awp] at h
    cases draw with
    | false =>
      refine wp_region ?_
      have := regA_sound (Q := Good g0 w0 Q) (g0 := g0) (w0 := w0) ops.toList 0 [] g s a w rfl R S h fun evs s' g' a' w' hK R' S' => ⟨rfl, s', g', hK.2, R', S'⟩
      rwa [List.range_eq_range', Array.size_eq_length_toList]
    | true =>
      exact region_any hm R h (fun evs s' hK => hK.1 rfl) fun evs s' g' a' w' hK R' S' => ⟨rfl, s', g', hK.2, R', S.trans S'⟩
  | rangeFunc => exact fun Q s g a w R S h => h.elim
  | scope => exact fun Q s g a w R S h => h.elim
  | goto => exact fun Q s g a w R S h => h.elim
  | refuse => exact fun Q s g a w R S h => h.elim

/-! ### results -/
def resOps : List ResultVar → Option (List (Operand × Bool))
  | [] => some []
  | .tmp t :: r => (resOps r).map fun l => (.tmp t, true) :: l
  | .cell .. :: _ => none
def asRes : List AV → AV
  | [x] => x
  | l => .tup l
def finA (fn : Func) (r : AV) (ob' : List (Nat × List DV)) (e : Exit) (s : St) : Prop :=
  (match e with | .normal | .ret => True | _ => False) ∧ ∃ cv s' l, s.cvs cv = some s' ∧ resOps fn.results.toList = some l ∧ ((argSeq s' l).all fun x => !x.isTup) = true ∧ asRes (argSeq s' l) = r ∧ s'.ob = ob'

def resV (a : Act) : List (Operand × Bool) → Value
  | [x] => a.eval x.1
  | l => .tuple (l.map fun x => a.eval x.1).toArray
theorem resOps_run {fn : Func} {l : List (Operand × Bool)} (h : resOps fn.results.toList = some l) (P : Program) (w : World) (a : Act) :
    (results fn a.tmps).run P w = .ok (resV a l) w ∧ ∀ x ∈ l, x.2 = true := by
  have key : ∀ (f : ResultVar → Sem Value), (∀ t, f (.tmp t) = pure (a.tmps.getD t undef)) → ∀ (r : List ResultVar) (l : List (Operand × Bool)), resOps r = some l → (∀ x ∈ l, x.2 = true) ∧ r.mapM f = pure (l.map fun x => a.eval x.1) := by
    intro f hf r
    induction r with
    | nil => intro l hl; obtain rfl := Option.some.inj hl; exact ⟨by simp, by simp⟩
    | cons x r ih =>
      intro l hl
      cases x with
      | tmp t =>
        obtain ⟨l', h1, rfl⟩ := Option.map_eq_some_iff.1 hl
        obtain ⟨h2, h3⟩ := ih l' h1
        exact ⟨by intro x hx; rcases List.mem_cons.1 hx with rfl | hx; · rfl
                  · exact h2 x hx, by rw [List.mapM_cons, h3, hf]; simp [Act.eval]⟩
      | cell b t => cases hl
  have h1 := (key (fun | .tmp t => pure (a.tmps.getD t undef) | .cell b t => pure undef) (fun _ => rfl) _ _ h).1
  refine ⟨?_, h1⟩
  unfold results
  rw [← Array.toArray_toList (xs := fn.results), List.mapM_toArray, (key _ (fun _ => rfl) _ _ h).2]
  match l, h1 with
  | [], _ => simp [resV]
  | [x], _ => simp [resV]
  | x :: y :: l, _ => simp [resV]

def resPos (n : Nat) : List Nat → Option (List Nat)
  | 2 :: k :: r => if n = 1 then (if k = 0 then some (3 :: r) else none) else some (3 :: k :: r)
  | 1 :: r => some (1 :: r)
  | _ => none
theorem res_rel [Bnd] {g : Gh} {w : World} {a : Act} : ∀ (l : List (Operand × Bool)) (L : List AV), L.length = l.length →
    (∀ k x, L[k]? = some x → ∃ y, (l.map (·.1))[k]? = some y ∧ ARel g w [2, k] (a.eval y) x) → ARel (g.re (resPos l.length)) w [3] (resV a l) (asRes L)
  | [], [], _, _ => .tup (by simp) (by simp)
  | [x], [z], _, held => by
    obtain ⟨y, hy, hr⟩ := held 0 z rfl
    simp at hy
    subst hy
    exact hr.re fun q => by simp [resPos]
  | x :: x' :: l, z :: z' :: L, hlen, held => by
    refine .tup (by simpa using hlen.symm) fun i u t hu ht => ?_
    obtain ⟨y', hy', hr⟩ := held i t ht
    have : u = a.eval y' := by
      simp only [List.getElem?_toArray] at hu
      rw [show (fun x : Operand × Bool => a.eval x.1) = a.eval ∘ (·.1) from rfl, ← List.map_map, List.getElem?_map, hy'] at hu
      exact (Option.some.inj hu).symm
    subst this
    exact hr.re fun q => by simp [resPos]
  | [], _ :: _, h, _ => by simp at h
  | _ :: _, [], h, _ => by simp at h
  | [_], _ :: _ :: _, h, _ => by simp at h
  | _ :: _ :: _, [_], h, _ => by simp at h

theorem spec_of_awp {P : Program} (hm : P.follows .mixedOrders = true) {f : FuncId} {fn : Func} {c : Code} (T : Nat → Nat → An) {args : List AV} {ob ob' : List (Nat × List DV)} {r : AV}
    (hf : P.funcs[f]? = some fn) (hb : fn.body = some c) (hn : (fn.name == "runtime.NumGoroutine") = false)
    (h : awp P T c (finA fn r ob') ⟨args ++ List.replicate (fn.ntmps - args.length) .undef, ob⟩) : Spec P f args ob r ob' := by
  refine ⟨⟨fn, hf, hn, by rw [hb]; rfl⟩, fun g w vs hp => ?_⟩
  have R : Rel g ⟨args ++ List.replicate (fn.ntmps - args.length) .undef, ob⟩ { tmps := vs ++ Array.replicate (fn.ntmps - vs.size) undef, defers := [] } w :=
    { s1 := hp.s1, s2 := hp.s2, s3 := hp.s3, sN := hp.sN, size := by simp [hp.size], defers := rfl, obj := hp.obj, alive := fun id h => (hp.alive id h).2, s6 := hp.s6,
      slot := fun i x hx => by
        by_cases hi : i < args.length
        · rw [List.getElem?_append_left hi] at hx
          have hi' : i < vs.size := by rw [hp.size]; exact hi
          have : (vs ++ Array.replicate (fn.ntmps - vs.size) undef).getD i undef = vs[i] := by simp [Array.getElem?_append_left hi', hi']
          rw [this]
          exact hp.arg i _ x (Array.getElem?_eq_getElem hi') hx
        · rw [List.getElem?_append_right (by omega), List.getElem?_replicate] at hx
          split at hx
          · obtain rfl := Option.some.inj hx; exact .undef _ _
          · cases hx }
  refine calls_of_wp hf hb (wp_mono (awp_sound hm c _ _ g _ w R (Stp.refl _ _) h) fun e a' w' hq => ?_)
  obtain ⟨he, s1, g1, ⟨hq1, cv, s2, l, q1, q2, q3, q4, q5⟩, R1, S1⟩ := hq
  obtain ⟨g2, R2, S2⟩ := R1.cvs q1
  obtain ⟨g3, R3, S3⟩ := takeArgs l g2 s2 0 [] R2.hold (by simp) (fun x hx => by simpa using List.all_eq_true.1 q3 x hx)
  obtain ⟨k1, k2⟩ := resOps_run q2 P w' a'
  have hob : (s2.wrs (argWr s2 l)).ob = ob' := by rw [argWr_ob]; exact q5
  have post : After g w r ob' (.returned (resV a' l)) w' := by
    refine ⟨_, g3.re (resPos l.length), rfl, { toSane := R3.toSane.re _, res := ?_, obj := ?_, s6 := ?_ }, ((S1.trans S2).trans S3).trans (Stp.re _ _ _)⟩
    · rw [← q4]
      refine res_rel l _ (argSeq_length l s2) fun k x hx => ?_
      obtain ⟨y, hy, hm⟩ := heldArgs_get (a := a') (m := 0) hx
      exact ⟨y, hy, by simpa using R3.held _ _ _ (List.mem_append_left _ hm)⟩
    · intro id xs hx
      rw [← hob] at hx
      exact ⟨(R3.obj id xs hx).1, (R3.obj id xs hx).2.re fun q => rfl⟩
    · intro b q o hq
      obtain ⟨r, hr, _⟩ := re_ow hq
      exact R3.s6 b r o hr
  cases e with
  | normal => exact ⟨R1.defers, _, k1, post⟩
  | ret => exact ⟨R1.defers, _, k1, post⟩
  | _ => exact hq1.elim
end Go.Vi
