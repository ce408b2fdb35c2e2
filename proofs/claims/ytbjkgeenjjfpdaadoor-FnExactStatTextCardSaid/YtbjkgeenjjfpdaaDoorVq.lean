/- Functions whose results stand in memory when they come to their end. No statement is proved in this text. -/
import Derived.Test.YtbjkgeenjjfpdaaDoorVo
set_option linter.all false
set_option autoImplicit true
namespace Go.Vi
open Go Go.RowKit
set_option linter.unusedVariables false

def takeAt (C : Cx) (t : TypeId) (ob : List (Nat × List DV)) : AV → Option (DV × List (Nat × List DV))
  | .ptr id i j => match getOb ob id with
    | some xs => match xs[i]? with
      | some d => match partOf C t d j with
        | some e => (putPart d j e.lock).map fun d' => (e, setOb ob id (xs.set i d'))
        | none => none
      | none => none
    | none => none
  | _ => none
/-- The results, each in a slot. -/
def resExt (C : Cx) (n0 : Nat) : List ResultVar → St → Option (St × List Operand)
  | [], s => some (s, [])
  | .tmp t :: r, s => chk (t < n0) ((resExt C n0 r s).map fun q => (q.1, .tmp t :: q.2))
  | .cell b t :: r, s => chk (b < n0) (match takeAt C t s.ob (s.raw (.tmp b)) with
    | some q => (resExt C n0 r ⟨s.fr ++ [.ow q.1], q.2⟩).map fun p => (p.1, .tmp s.fr.length :: p.2)
    | none => none)

section
variable [Bnd] {P : Program} [BndP P] {g : Gh} {s : St} {a : Act} {w : World}
theorem Rel.slotMore (R : Rel g s a w) : Rel g ⟨s.fr ++ [.undef], s.ob⟩ { a with tmps := a.tmps.push undef } w where
  toSane := R.toSane
  size := by simp [R.size]
  defers := R.defers
  slot i x hx := by
    by_cases hi : i < s.fr.length
    · rw [List.getElem?_append_left hi] at hx
      have := R.slot i x hx
      have h2 : i < a.tmps.size := by rw [← R.size]; exact hi
      have e : (a.tmps.push undef).getD i undef = a.tmps.getD i undef := by
        simp [Array.getElem?_push_lt h2, h2]
      rw [e]; exact this
    · rw [List.getElem?_append_right (by omega)] at hx
      have : x = .undef := by
        cases hk : i - s.fr.length with
        | zero => rw [hk] at hx; simpa using hx.symm
        | succ k => rw [hk] at hx; simp at hx
      subst this
      exact .undef _ _
  obj := R.obj
  alive := R.alive
  s6 := R.s6

theorem takeAt_sound (R : Rel g s a w) {t : TypeId} {b : Nat} {q : DV × List (Nat × List DV)} (h : takeAt (mkC P) t s.ob (s.raw (.tmp b)) = some q) :
    ∃ v g' a', (do loadVar t (← asAddr (a.tmps.getD b undef)) : Sem Value).run P w = .ok v w ∧ Rel g' ⟨s.fr ++ [.ow q.1], q.2⟩ a' w ∧ Stp g w g' w ∧ a'.tmps = a.tmps.push v ∧ a'.defers = a.defers := by
  unfold takeAt at h
  split at h
  case h_2 => cases h
  rename_i id i j hp
  split at h
  case h_2 => cases h
  rename_i xs hxs
  split at h
  case h_2 => cases h
  rename_i d hd
  split at h
  case h_2 => cases h
  rename_i e he
  obtain ⟨d', hput, rfl⟩ := Option.map_eq_some_iff.1 h
  obtain ⟨p, hr⟩ := R.raw (.tmp b)
  rw [hp] at hr
  have hsame : (s.fr ++ [AV.undef]).length = s.fr.length + 1 := by simp
  obtain ⟨v, g', h1, h2, h3⟩ := do_loadTake' (P := P) R.slotMore hr hxs hd he hput (some s.fr.length)
  obtain ⟨_, hv⟩ := hr.inv_ptr
  have hv' : a.tmps.getD b undef = .pointer (some ⟨(g.m id).1, i * (g.m id).2 + j, none⟩) := hv
  have hrun : (do loadVar t (← asAddr (a.tmps.getD b undef)) : Sem Value).run P w = (Instr.loadAt t (.pointer (some ⟨(g.m id).1, i * (g.m id).2 + j, none⟩))).run P w := by
    rw [hv']; rfl
  have hv2 : a.eval (.tmp b) = .pointer (some ⟨(g.m id).1, i * (g.m id).2 + j, none⟩) := hv
  rw [hv2] at h1
  refine ⟨v, g', ({ a with tmps := a.tmps.push undef } : Act).put (some s.fr.length) v, hrun.trans h1, ?_, h3, ?_, ?_⟩
  · have e1 : (⟨s.fr ++ [.undef], s.ob⟩ : St).wrs (.set id (xs.set i d') :: wrDst (some s.fr.length) (.ow e)) = ⟨s.fr ++ [.ow e], setOb s.ob id (xs.set i d')⟩ := by
      simp [St.wrs, St.wr, wrDst]
    rw [e1] at h2
    exact h2
  · have hs : s.fr.length = a.tmps.size := R.size
    simp only [Act.put, hs]
    apply Array.ext
    · simp
    · intro k k1 k2
      by_cases hk : k = a.tmps.size
      · subst hk
        simp
      · refine (Array.getElem_setIfInBounds_ne (by simpa using k1) (Ne.symm hk)).trans ?_
        have : k < a.tmps.size := by simp at k2; omega
        simp [Array.getElem_push_lt this]
  · rfl
def resRun (a : Act) (l : List ResultVar) : Sem (List Value) := l.mapM fun
  | .tmp t => pure (a.tmps.getD t undef)
  | .cell b t => do loadVar t (← asAddr (a.tmps.getD b undef))
/-- The results are read: each then stands in a slot. -/
theorem resExt_sound {a0 : Act} {n0 : Nat} : ∀ (l : List ResultVar) {g : Gh} {s s' : St} {a : Act} {ops : List Operand}, Rel g s a w → n0 ≤ a.tmps.size → (∀ i, i < n0 → a.tmps.getD i undef = a0.tmps.getD i undef) → resExt (mkC P) n0 l s = some (s', ops) →
    ∃ g' a', Rel g' s' a' w ∧ Stp g w g' w ∧ a.tmps.size ≤ a'.tmps.size ∧ (∀ i, i < a.tmps.size → a'.tmps.getD i undef = a.tmps.getD i undef) ∧ a'.defers = a.defers ∧ (resRun a0 l).run P w = .ok (ops.map a'.eval) w
  | [], g, s, s', a, ops, R, _, _, h => by
    simp only [resExt, Option.some.injEq, Prod.mk.injEq] at h
    obtain ⟨rfl, rfl⟩ := h
    exact ⟨g, a, R, Stp.refl _ _, Nat.le_refl _, fun _ _ => rfl, rfl, by simp [resRun]⟩
  | .tmp t :: r, g, s, s', a, ops, R, hn, ha, h => by
    simp only [resExt, chk] at h
    by_cases ht : t < n0
    case neg => rw [if_neg ht] at h; cases h
    rw [if_pos ht] at h
    obtain ⟨q, hq, hqe⟩ := Option.map_eq_some_iff.1 h
    obtain ⟨s2, ops2⟩ := q
    simp only [Prod.mk.injEq] at hqe
    obtain ⟨rfl, rfl⟩ := hqe
    obtain ⟨g', a', R', S', k1, k2, k3, k4⟩ := resExt_sound r R hn ha hq
    refine ⟨g', a', R', S', k1, k2, k3, ?_⟩
    have e : a'.tmps.getD t undef = a0.tmps.getD t undef := (k2 t (Nat.lt_of_lt_of_le ht hn)).trans (ha t ht)
    simp only [resRun, List.mapM_cons, Sem.run_bind, Sem.run_pure, Result.andThen_ok, List.map_cons, Act.eval] at k4 ⊢
    rw [k4]
    simp [e]
  | .cell b t :: r, g, s, s', a, ops, R, hn, ha, h => by
    simp only [resExt, chk] at h
    by_cases hb : b < n0
    case neg => rw [if_neg hb] at h; cases h
    rw [if_pos hb] at h
    split at h
    case h_2 => cases h
    rename_i q hq
    obtain ⟨p, hp, hpe⟩ := Option.map_eq_some_iff.1 h
    obtain ⟨s2, ops2⟩ := p
    simp only [Prod.mk.injEq] at hpe
    obtain ⟨rfl, rfl⟩ := hpe
    obtain ⟨v, g1, a1, h1, R1, S1, e1, d1⟩ := takeAt_sound R hq
    have hsz : s.fr.length = a.tmps.size := R.size
    have hlt : ∀ i, i < a.tmps.size → a1.tmps.getD i undef = a.tmps.getD i undef := fun i hi => by
      rw [e1]; simp [Array.getElem?_push_lt hi, hi]
    obtain ⟨g', a', R', S', k1, k2, k3, k4⟩ := resExt_sound r R1 (by rw [e1]; simp; omega) (fun i hi => (hlt i (by omega)).trans (ha i hi)) hp
    have hs1 : a1.tmps.size = a.tmps.size + 1 := by rw [e1]; simp
    refine ⟨g', a', R', S1.trans S', by omega, fun i hi => (k2 i (by omega)).trans (hlt i hi), k3.trans d1, ?_⟩
    have ev : a'.tmps.getD s.fr.length undef = v := by
      rw [hsz, k2 _ (by omega), e1]; simp
    rw [ha b hb] at h1
    simp only [resRun, List.mapM_cons, Sem.run_bind, Sem.run_pure, Result.andThen_ok, List.map_cons, Act.eval] at k4 h1 ⊢
    rw [h1]
    simp only [Result.andThen_ok]
    rw [k4]
    simp [ev]
end

def finC (P : Program) (fn : Func) (r : AV) (ob' : List (Nat × List DV)) (e : Exit) (s : St) : Prop :=
  (match e with | .normal | .ret => True | _ => False) ∧ ∃ cv s1 s2 l cv2 s3, s.cvs cv = some s1 ∧ resExt (mkC P) s1.fr.length fn.results.toList s1 = some (s2, l) ∧ s2.cvs cv2 = some s3 ∧
    ((argSeq s3 (l.map fun x => (x, true))).all fun x => !x.isTup) = true ∧ asRes (argSeq s3 (l.map fun x => (x, true))) = r ∧ s3.ob = ob'

theorem results_run {P : Program} {fn : Func} {a a' : Act} {w : World} {ops : List Operand} (h : (resRun a fn.results.toList).run P w = .ok (ops.map a'.eval) w) : (results fn a.tmps).run P w = .ok (resV a' (ops.map fun x => (x, true))) w := by
  unfold results
  rw [← Array.toArray_toList (xs := fn.results), List.mapM_toArray]
  have key : ∀ (f : ResultVar → Sem Value), (∀ t, f (.tmp t) = pure (a.tmps.getD t undef)) → (∀ b t, f (.cell b t) = do loadVar t (← asAddr (a.tmps.getD b undef))) → ∀ l : List ResultVar, l.mapM f = resRun a l := by
    intro f h1 h2 l
    unfold resRun
    congr 1
    funext x
    cases x with
    | tmp t => exact h1 t
    | cell b t => exact h2 b t
  rw [key]
  rotate_left
  · exact fun _ => rfl
  · exact fun _ _ => rfl
  simp only [Sem.run_bind, Sem.run_map, h]
  match ops with
  | [] => simp [resV]
  | [x] => simp [resV]
  | x :: y :: l => simp [resV]

/-- The contract of a function, by its body's meaning; its results may stand in memory. -/
theorem spec_of_awpC {P : Program} (hm : P.follows .mixedOrders = true) {f : FuncId} {fn : Func} {c : Code} (T : Nat → Nat → An) {args : List AV} {ob ob' : List (Nat × List DV)} {r : AV}
    (hf : P.funcs[f]? = some fn) (hb : fn.body = some c) (hn : (fn.name == "runtime.NumGoroutine") = false)
    (h : awp P T c (finC P fn r ob') ⟨args ++ List.replicate (fn.ntmps - args.length) .undef, ob⟩) : Spec P f args ob r ob' := by
  refine ⟨⟨fn, hf, hn, by rw [hb]; rfl⟩, fun g w vs hp => ?_⟩
  have R : Rel g ⟨args ++ List.replicate (fn.ntmps - args.length) .undef, ob⟩ { tmps := vs ++ Array.replicate (fn.ntmps - vs.size) undef, defers := [] } w :=
    { s1 := hp.s1, s2 := hp.s2, s3 := hp.s3, sN := hp.sN, size := by simp [hp.size], defers := rfl, obj := hp.obj, alive := fun id h => (hp.alive id h).2, s6 := hp.s6,
      slot := fun i x hx => by
        by_cases hi : i < args.length
        · rw [List.getElem?_append_left hi] at hx
          have hi' : i < vs.size := by rw [hp.size]; exact hi
          have : (vs ++ Array.replicate (fn.ntmps - vs.size) undef).getD i undef = vs[i] := by simp [Array.getElem?_append_left hi', hi']
          rw [this]
          exact hp.arg i _ x (Array.getElem?_eq_getElem hi') hx
        · rw [List.getElem?_append_right (by omega), List.getElem?_replicate] at hx
          split at hx
          · obtain rfl := Option.some.inj hx; exact .undef _ _
          · cases hx }
  refine calls_of_wp hf hb (wp_mono (awp_sound hm c _ _ g _ w R (Stp.refl _ _) h) fun e a' w' hq => ?_)
  obtain ⟨he, s0, g1, ⟨hq1, cv, s1, s2, l, cv2, s3, q1, q2, q3, q4, q5, q6⟩, R1, S1⟩ := hq
  obtain ⟨g2, R2, S2⟩ := R1.cvs q1
  obtain ⟨g3, a2, R3, S3, _, _, _, hrun⟩ := resExt_sound (a0 := a') fn.results.toList R2 (Nat.le_of_eq R2.size) (fun _ _ => rfl) q2
  obtain ⟨g4, R4, S4⟩ := R3.cvs q3
  obtain ⟨g5, R5, S5⟩ := takeArgs (l.map fun x => (x, true)) g4 s3 0 [] R4.hold (by simp) (fun x hx => by simpa using List.all_eq_true.1 q4 x hx)
  have hob : (s3.wrs (argWr s3 (l.map fun x => (x, true)))).ob = ob' := by rw [argWr_ob]; exact q6
  have post : After g w r ob' (.returned (resV a2 (l.map fun x => (x, true)))) w' := by
    refine ⟨_, g5.re (resPos (l.map fun x => (x, true)).length), rfl, { toSane := R5.toSane.re _, res := ?_, obj := ?_, s6 := ?_ }, ((((S1.trans S2).trans S3).trans S4).trans S5).trans (Stp.re _ _ _)⟩
    · rw [← q5]
      refine res_rel _ _ (argSeq_length _ s3) fun k x hx => ?_
      obtain ⟨y, hy, hm⟩ := heldArgs_get (a := a2) (m := 0) hx
      exact ⟨y, hy, by simpa using R5.held _ _ _ (List.mem_append_left _ hm)⟩
    · intro id xs hx
      rw [← hob] at hx
      exact ⟨(R5.obj id xs hx).1, (R5.obj id xs hx).2.re fun q => rfl⟩
    · intro b q o hq
      obtain ⟨r, hr, _⟩ := re_ow hq
      exact R5.s6 b r o hr
  have k1 := results_run hrun
  cases e with
  | normal => exact ⟨R1.defers, _, k1, post⟩
  | ret => exact ⟨R1.defers, _, k1, post⟩
  | _ => exact hq1.elim

/-! ### by rewriting -/
theorem Sp_more {n : Nat} {l : List (Nat × AV)} {x : AV} : Sp n l ++ [x] = Sp (n + 1) (up l n x) := by
  apply List.ext_getElem?
  intro i
  simp only [Sp, List.getElem?_map]
  by_cases hi : i < n
  · rw [List.getElem?_append_left (by simpa using hi)]
    simp only [List.getElem?_map, List.getElem?_range hi, List.getElem?_range (show i < n + 1 by omega), Option.map_some, lk_up]
    rw [if_neg (by omega)]
  · rw [List.getElem?_append_right (by simp; omega)]
    by_cases h : i = n
    · subst h; simp [lk_up]
    · rw [List.getElem?_eq_none (by simp; omega), List.getElem?_eq_none (by simp; omega)]; rfl
theorem Sp_length {n : Nat} {l : List (Nat × AV)} : (Sp n l).length = n := by simp [Sp]
theorem resExt_nil {C : Cx} {n0 : Nat} {s : St} : resExt C n0 [] s = some (s, []) := rfl
theorem resExt_tmp {C : Cx} {n0 t : Nat} {r : List ResultVar} {s : St} : resExt C n0 (.tmp t :: r) s = chk (t < n0) ((resExt C n0 r s).map fun q => (q.1, .tmp t :: q.2)) := rfl
def cellE (C : Cx) (n0 : Nat) (r : List ResultVar) (s : St) : Option (DV × List (Nat × List DV)) → Option (St × List Operand)
  | some q => (resExt C n0 r ⟨s.fr ++ [.ow q.1], q.2⟩).map fun p => (p.1, .tmp s.fr.length :: p.2)
  | none => none
theorem resExt_cell {C : Cx} {n0 b t : Nat} {r : List ResultVar} {s : St} : resExt C n0 (.cell b t :: r) s = chk (b < n0) (cellE C n0 r s (takeAt C t s.ob (s.raw (.tmp b)))) := by
  simp only [resExt]
  congr 1
def finX (C : Cx) (rs : List ResultVar) (cv cv2 : List Cv) (s : St) : Option (AV × List (Nat × List DV)) :=
  (s.cvs cv).bind fun s1 => (resExt C s1.fr.length rs s1).bind fun q => (q.1.cvs cv2).bind fun s3 =>
    if ((argSeq s3 (q.2.map fun x => (x, true))).all fun x => !x.isTup) = true then some (asRes (argSeq s3 (q.2.map fun x => (x, true))), s3.ob) else none
theorem a_retC {P : Program} {T : Nat → Nat → An} {fn : Func} {r : AV} {ob' : List (Nat × List DV)} {s : St} (cv cv2 : List Cv) (h : finX (mkC P) fn.results.toList cv cv2 s = some (r, ob')) : awp P T .ret (finC P fn r ob') s := by
  unfold finX at h
  obtain ⟨s1, h1, h⟩ := Option.bind_eq_some_iff.1 h
  obtain ⟨q, h2, h⟩ := Option.bind_eq_some_iff.1 h
  obtain ⟨s3, h3, h⟩ := Option.bind_eq_some_iff.1 h
  by_cases hc : ((argSeq s3 (q.2.map fun x => (x, true))).all fun x => !x.isTup) = true
  · rw [if_pos hc] at h
    simp only [Option.some.injEq, Prod.mk.injEq] at h
    exact a_ret ⟨trivial, cv, s1, q.1, q.2, cv2, s3, h1, h2, h3, hc, h.1, h.2⟩
  · rw [if_neg hc] at h; cases h
attribute [go_sem] finX Prod.mk.injEq Sp_more Sp_length resExt_nil resExt_tmp cellE resExt_cell takeAt Nat.lt_irrefl
end Go.Vi
