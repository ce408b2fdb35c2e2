/- One operation of the machine does what the pure step says. -/
import Derived.Test.YtbjkgeenjjfpdaaDoorVg
set_option linter.all false
set_option autoImplicit true
namespace Go.Vi
open Go Go.RowKit
variable [Bnd]
set_option linter.unusedVariables false

section
variable {P : Program} {g : Gh} {s : St} {a : Act} {w : World}

/-- An operation has run. -/
def Ran (P : Program) (g : Gh) (s' : St) (a : Act) (w : World) (o : Oper) : Prop :=
  (∃ v w' g', (execOp a.eval o).run P w = .ok (.value v) w' ∧ Rel g' s' (a.put o.dst v) w' ∧ Stp g w g' w') ∨
  (o.dst = none ∧ ∃ w' g', (execOp a.eval o).run P w = .ok .skip w' ∧ Rel g' s' a w' ∧ Stp g w g' w')

theorem Yld.ran (R : Rel g s a w) {o : Oper} {x : Sem Value} {z : AV} (h : Yld P g w x z) (he : execOp a.eval o = (do pure (Next.value (← x)))) : Ran P g (s.wrs (wrDst o.dst z)) a w o := by
  obtain ⟨v, hv, hz⟩ := h
  obtain ⟨φ, R1⟩ := R.putFlat o.dst (hz [2, 0])
  exact .inl ⟨v, w, _, by rw [he, Sem.run_bind, hv]; rfl, R1, Stp.re _ _ φ⟩
theorem Does.ran {o : Oper} {x : Sem Value} {s' : St} (h : Does P g s' a w o.dst x) (he : execOp a.eval o = (do pure (Next.value (← x)))) : Ran P g s' a w o := by
  obtain ⟨v, w', g', hv, h1, h2⟩ := h
  exact .inl ⟨v, w', g', by rw [he, Sem.run_bind, hv]; rfl, h1, h2⟩

theorem Rel.takeT (R : Rel g s a w) {C : Cx} {t : TypeId} (x : Operand) (hx : (s.raw x).isTup = false) : ∃ φ, RelH (g.re φ) (s.wrs (s.left x)) a w [(0, a.eval x, s.rawT C t x)] := by
  cases x with
  | const v =>
    refine ⟨some, ?_⟩
    rw [re_some]
    refine ⟨R, fun k v' x' hm => ?_⟩
    simp at hm
    obtain ⟨rfl, rfl, rfl⟩ := hm
    simp only [Act.eval, St.rawT]
    split
    · split <;> exact const_rel g w _ _ _
    · exact const_rel g w _ _ _
  | tmp t => exact R.hold.take _ 0 (by simp) hx
  | global n => exact R.hold.take _ 0 (by simp) hx
  | func f => exact R.hold.take _ 0 (by simp) hx

theorem Rel.moveT (R : Rel g s a w) {C : Cx} {t : TypeId} (x : Operand) (hx : (s.raw x).isTup = false) (dst : Option Nat) : ∃ g', Rel g' (s.wrs (s.left x ++ wrDst dst (s.rawT C t x))) (a.put dst (a.eval x)) w ∧ Stp g w g' w := by
  obtain ⟨φ, R1⟩ := R.takeT (C := C) (t := t) x hx
  obtain ⟨ψ, R2⟩ := R1.put (by simp) dst
  exact ⟨_, by rw [wrs_append]; exact R2.toRel, (Stp.re _ _ φ).trans (Stp.re _ _ ψ)⟩

theorem Rel.moveTup (R : Rel g s a w) {x : Operand} {dst : Option Nat} {ws : List Wr} (h : tupW dst x (s.raw x) = some ws) : ∃ g', Rel g' (s.wrs ws) (a.put dst (a.eval x)) w ∧ Stp g w g' w := by
  unfold tupW at h
  split at h
  · rename_i t l hr
    obtain rfl := Option.some.inj h
    obtain ⟨φ, R1⟩ := R.hold.takeTup t 0 (by simp) (l := l) (by rw [← hr]; rfl)
    obtain ⟨ψ, R2⟩ := R1.put (by simp) dst
    exact ⟨_, by rw [show (Wr.slot t AV.undef :: wrDst dst (.tup l)) = [Wr.slot t AV.undef] ++ wrDst dst (.tup l) from rfl, wrs_append]; exact R2.toRel, (Stp.re _ _ φ).trans (Stp.re _ _ ψ)⟩
  · cases h

theorem rd_flat_or (s : St) (x : Operand) : (s.rd x).flat = true ∨ ∃ f l, s.rd x = .fn f l := by
  unfold St.rd
  cases s.raw x <;> simp [AV.plain, AV.flat]

theorem Rel.rd' (R : Rel g s a w) (x : Operand) : ∀ p, ARel g w p (a.eval x) (s.rd x) := fun p => R.rd x p

theorem execOp_b {ρ : Operand → Value} {o : Oper} {b : Builtin} {xs : Array Operand} {ats : Array TypeId} (h : o.op = .call { callee := .builtin b, args := xs, argTypes := ats }) :
    execOp ρ o = builtin b ats o.type (xs.map fun | .const _ => true | _ => false) (xs.map ρ) := by
  obtain ⟨dst, op, ty, pos, after, guard⟩ := o
  simp only at h
  subst h
  rfl

theorem eff_sound (R : Rel g s a w) {o : Oper} {tk : Bool} {ws : List Wr} (h : eff (mkC P) tk o s = some ws) : Ran P g (s.wrs ws) a w o := by
  unfold eff at h
  split at h
  · -- move
    rename_i x hop
    split at h
    · split at h
      · obtain ⟨g', h1, h2⟩ := R.moveTup h
        exact .inl ⟨a.eval x, w, g', by simp [execOp, hop, pure], h1, h2⟩
      rename_i hx
      obtain rfl := Option.some.inj h
      obtain ⟨g', h1, h2⟩ := R.moveT (C := mkC P) (t := o.type) x (by simpa using hx) o.dst
      exact .inl ⟨a.eval x, w, g', by simp [execOp, hop, pure], h1, h2⟩
    · obtain rfl := Option.some.inj h
      obtain ⟨φ, R1⟩ := R.putFlat o.dst (R.rd' x [2, 0])
      exact .inl ⟨a.eval x, w, _, by simp [execOp, hop, pure], R1, Stp.re _ _ φ⟩
  · -- assign
    rename_i x hop
    split at h
    · cases h
    rename_i hx
    obtain rfl := Option.some.inj h
    obtain ⟨g', h1, h2⟩ := R.moveT (C := mkC P) (t := o.type) x (by simpa using hx) o.dst
    exact .inl ⟨a.eval x, w, g', by simp [execOp, hop, pure], h1, h2⟩
  · -- pick
    rename_i c x y hop
    split at h
    case h_2 => cases h
    rename_i t ht
    obtain rfl := Option.some.inj h
    have hc := R.rd c []
    rw [ht] at hc
    have hb := hc.inv_sh.inv_bool
    obtain ⟨φ, R1⟩ := R.putFlat o.dst (R.rd' (if t then x else y) [2, 0])
    refine .inl ⟨a.eval (if t then x else y), w, _, ?_, R1, Stp.re _ _ φ⟩
    simp only [execOp, hop, hb, asBool, pure]
    cases t <;> rfl
  · -- alloc
    rename_i t hop
    split at h
    case h_2 => cases h
    rename_i d ti hd hti
    split at h
    case isFalse => cases h
    rename_i hc
    obtain rfl := Option.some.inj h
    have := do_alloc (P := P) R hti d hc.2.2 (by simpa using hc.1) hc.2.1
    rw [← hd] at this
    exact this.ran (by simp only [execOp, hop])
  · -- box
    rename_i t x hop
    split at h
    case h_2 => cases h
    rename_i d ti e hd hti he
    split at h
    case isFalse => cases h
    rename_i hc
    obtain rfl := Option.some.inj h
    have := do_box (P := P) R hti d hc.2.2.2 x (by simpa using hc.1) he hc.2.1 hc.2.2.1
    rw [← hd] at this
    exact this.ran (by simp only [execOp, hop])
  · -- build
    rename_i t parts hop
    split at h
    case h_2 => cases h
    rename_i ti hti
    split at h
    case h_2 => cases h
    rename_i at_ hat
    obtain ⟨cs, hcs, h⟩ := Option.bind_eq_some_iff.1 h
    split at h
    case isFalse => cases h
    rename_i hall
    obtain rfl := Option.some.inj h
    exact (do_build (P := P) R hti hat parts o.dst hcs hall).ran (by simp only [execOp, hop])
  · -- buildSlice
    rename_i t n parts hop
    split at h
    case h_2 => cases h
    rename_i e sz by_ ze eq hti
    split at h
    case h_2 => cases h
    rename_i te hte
    split at h
    case isFalse => cases h
    rename_i hc
    obtain ⟨es, hes, rfl⟩ := Option.map_eq_some_iff.1 h
    exact (do_buildSlice (P := P) R hti rfl hte parts o.dst hc.1 hc.2 hes).ran (by simp only [execOp, hop])
  · -- load
    rename_i t x hop
    split at h
    · split at h
      case h_2 => cases h
      rename_i id i j hx
      split at h
      case h_2 => cases h
      rename_i xs hxs
      split at h
      case h_2 => cases h
      rename_i d hd
      split at h
      case h_2 => cases h
      rename_i e he
      obtain ⟨d', hd', rfl⟩ := Option.map_eq_some_iff.1 h
      have hp := R.rd x []
      rw [hx] at hp
      exact (do_loadTake (P := P) R hp hxs hd he hd' o.dst).ran (by simp only [execOp, hop])
    · obtain ⟨z, hz, rfl⟩ := Option.map_eq_some_iff.1 h
      exact (yld_load R (R.rd x []) hz).ran R (by simp only [execOp, hop])
  · -- store
    rename_i t x y hop
    split at h
    case h_2 => cases h
    rename_i id i j e ti hx he hti
    split at h
    case isFalse => cases h
    rename_i hc
    split at h
    case h_2 => cases h
    rename_i xs hxs
    split at h
    case h_2 => cases h
    rename_i d hd
    obtain ⟨d', hd', rfl⟩ := Option.map_eq_some_iff.1 h
    have hp := R.rd x []
    rw [hx] at hp
    obtain ⟨w', g', h1, h2, h3⟩ := do_store (P := P) R hti y hp he hc.1 hxs hd hd'
    refine .inr ⟨by simpa using hc.2, w', g', ?_, h2, h3⟩
    simp only [execOp, hop, Sem.run_bind, h1, Result.andThen_ok]
    rfl
  · -- nilCheck
    rename_i x hop
    have hx := R.rd x [2, 0]
    split at h
    · rename_i id i j hr
      obtain rfl := Option.some.inj h
      rw [hr] at hx
      obtain ⟨φ, R1⟩ := R.putFlat o.dst hx
      obtain ⟨_, hv⟩ := hx.inv_ptr
      exact .inl ⟨a.eval x, w, _, by simp only [execOp, hop, hv]; rfl, R1, Stp.re _ _ φ⟩
    · rename_i d j hr
      obtain rfl := Option.some.inj h
      rw [hr] at hx
      obtain ⟨φ, R1⟩ := R.putFlat o.dst hx
      obtain ⟨b, q, us, hv, _⟩ := hx.inv_rp
      exact .inl ⟨a.eval x, w, _, by simp only [execOp, hop, hv]; rfl, R1, Stp.re _ _ φ⟩
    · cases h
  · -- binOp
    rename_i op t x y u hop
    obtain ⟨z, hz, rfl⟩ := Option.map_eq_some_iff.1 h
    exact (yld_bin (X := x) (Y := y) (R.rd x []) (R.rd y []) hz).ran R (by simp only [execOp, hop])
  · -- unOp
    rename_i op t x hop
    obtain ⟨z, hz, rfl⟩ := Option.map_eq_some_iff.1 h
    exact (yld_un (R.rd x []) hz).ran R (by simp only [execOp, hop])
  · -- convert
    rename_i src dst x hop
    obtain ⟨z, hz, rfl⟩ := Option.map_eq_some_iff.1 h
    exact (yld_conv (R.rd x []) hz).ran R (by simp only [execOp, hop])
  · -- makeFunc
    rename_i f first captured hop
    split at h
    case isFalse => cases h
    rename_i hc
    obtain ⟨hc1, hc2⟩ := hc
    obtain rfl := Option.some.inj h
    have hf : first = #[] := Array.eq_empty_of_size_eq_zero hc1
    subst hf
    have hfn : ARel g w [2, 0] (.func (.func f) #[] (captured.map a.eval)) (.fn f (captured.toList.map s.rd)) := by
      refine .fn (by simp) (fun x hx => List.all_eq_true.1 hc2 x hx) (fun i u x hu hx => ?_)
      rw [List.getElem?_map] at hx
      obtain ⟨y, hy, rfl⟩ := Option.map_eq_some_iff.1 hx
      have hu' : u = a.eval y := by
        rw [Array.getElem?_map] at hu
        have : captured[i]? = some y := by simpa using hy
        rw [this] at hu
        exact (Option.some.inj hu).symm
      subst hu'
      exact R.rd y _
    obtain ⟨φ, R1⟩ := R.putFlat o.dst hfn
    exact .inl ⟨_, w, _, by simp [execOp, hop, Instr.makeFunc, pure], R1, Stp.re _ _ φ⟩
  · -- makeSlice
    rename_i t l c hop
    split at h
    case h_2 => cases h
    rename_i d e sz by_ ze eq n m hd hti hl hc0
    split at h
    case h_2 => cases h
    rename_i te hte
    split at h
    case isFalse => cases h
    rename_i hc
    obtain ⟨q1, q2, q3, q4, q5, q6, q7⟩ := hc
    obtain rfl := Option.some.inj h
    subst q2
    have hl' := R.rd l []
    rw [hl] at hl'
    have hc' := R.rd c []
    rw [hc0] at hc'
    have := do_make (P := P) (k := .i64) (k' := .i64) R hti rfl hte d q7 (by simpa using q1) q3 q4 q5 q6
    rw [← hd, ← hl'.inv_sh.inv_int] at this
    refine Does.ran this ?_
    have e2 : a.eval c = a.eval l := hc'.inv_sh.inv_int.trans hl'.inv_sh.inv_int.symm
    simp only [execOp, hop, e2]
  · -- slice
    rename_i t x lo hi hop
    obtain ⟨z, hz, rfl⟩ := Option.map_eq_some_iff.1 h
    refine (yld_slice (R.rd x []) (lo := lo.map a.eval) (hi := hi.map a.eval) ?_ ?_ hz).ran R (by simp only [execOp, hop, Option.map_none])
    · cases lo with
      | none => rfl
      | some l => exact ⟨[], R.rd l []⟩
    · cases hi with
      | none => rfl
      | some l => exact ⟨[], R.rd l []⟩
  · -- fieldAddr
    rename_i t x f hop
    obtain ⟨z, hz, rfl⟩ := Option.map_eq_some_iff.1 h
    exact (yld_field (R.rd x []) hz).ran R (by simp only [execOp, hop])
  · -- indexAddr
    rename_i t x i hop
    obtain ⟨z, hz, rfl⟩ := Option.map_eq_some_iff.1 h
    exact (yld_index R (R.rd x []) (R.rd i []) hz).ran R (by simp only [execOp, hop])
  · -- index
    rename_i t x i hop
    obtain ⟨z, hz, rfl⟩ := Option.map_eq_some_iff.1 h
    exact (yld_byte (R.rd x []) (R.rd i []) hz).ran R (by simp only [execOp, hop])
  · -- extract
    rename_i x i hop
    split at h
    case h_2 => cases h
    rename_i t
    split at h
    case h_2 => cases h
    rename_i l hl
    split at h
    case h_2 => cases h
    rename_i v hv
    obtain rfl := Option.some.inj h
    have hslot := R.slot t _ (getD_get hl (by simp))
    obtain ⟨vs, hvs, hs, hr⟩ := hslot.inv_tup
    have hi : i < vs.size := by rw [hs]; exact (List.getElem?_eq_some_iff.1 hv).1
    have hu : vs[i]? = some vs[i] := Array.getElem?_eq_getElem hi
    let φ : List Nat → Option (List Nat) := fun q => match q with
      | 0 :: a :: b :: r => if a = t ∧ b = i then some (2 :: 0 :: r) else some (0 :: a :: b :: r)
      | q => some q
    have hheld : ARel (g.re φ) w [2, 0] vs[i] v := (hr i _ v hu hv).re fun q => by simp [φ]
    have hφ0 : ∀ j q, j ≠ t → φ (0 :: j :: q) = some (0 :: j :: q) := by
      intro j q hj
      cases q <;> simp [φ, hj]
    have s6' : ∀ b q o, (g.re φ).ow b = some q → o < (g.re φ).L b → (g.re φ).K b o := by
      intro b q o hq
      obtain ⟨r, hr, _⟩ := re_ow hq
      exact R.s6 b r o hr
    have hnew : ARel (g.re φ) w [0, t] (a.tmps.getD t Go.undef) (.tup (l.set i v.plain)) := by
      rw [hvs]
      refine .tup (by simpa using hs) fun j u x hu' hx => ?_
      rw [List.getElem?_set] at hx
      by_cases hj : i = j
      · subst hj
        simp only [if_true] at hx
        split at hx
        · obtain rfl := Option.some.inj hx
          rw [hu] at hu'
          obtain rfl := Option.some.inj hu'
          exact hheld.plain s6' _
        · cases hx
      · simp only [if_neg hj] at hx
        exact (hr j u x hu' hx).re fun q => by simp [φ, Ne.symm hj]
    have R1 := R.fill φ t (a.tmps.getD t Go.undef) _ hφ0 (fun id q => by simp [φ]) hnew
    rw [put_same] at R1
    have R2 : RelH (g.re φ) { s with fr := s.fr.set t (.tup (l.set i v.plain)) } a w [(0, vs[i], v)] :=
      ⟨R1, fun k v' x' hm => by simp at hm; obtain ⟨rfl, rfl, rfl⟩ := hm; exact hheld⟩
    obtain ⟨ψ, R3⟩ := R2.put (by simp) o.dst
    refine .inl ⟨vs[i], w, _, ?_, R3.toRel, (Stp.re _ _ φ).trans (Stp.re _ _ ψ)⟩
    simp only [execOp, hop, Act.eval, hvs, Instr.extract, hu]
    rfl
  · -- builtin
    rename_i b args argTypes hop
    unfold builtinEff at h
    split at h
    · -- len
      rename_i x t hargs htys
      obtain ⟨z, hz, rfl⟩ := Option.map_eq_some_iff.1 h
      have e1 : args = #[x] := by rw [← Array.toList_inj]; exact hargs
      have e2 : argTypes = #[t] := by rw [← Array.toList_inj]; exact htys
      subst e1 e2
      exact (yld_len (P := P) (ty := o.type) (R.rd x []) hz).ran R (by rw [execOp_b hop, List.map_toArray, List.map_toArray]; rfl)
    · -- append
      rename_i x y t t' hargs htys
      split at h
      case isFalse => cases h
      rename_i htt
      subst htt
      obtain ⟨d, hd, rfl⟩ := Option.map_eq_some_iff.1 h
      have e1 : args = #[x, y] := by rw [← Array.toList_inj]; exact hargs
      have e2 : argTypes = #[t, t] := by rw [← Array.toList_inj]; exact htys
      subst e1 e2
      exact (do_append (P := P) (ty := o.type) R x y o.dst hd).ran (by rw [execOp_b hop, List.map_toArray, List.map_toArray]; rfl)
    · -- max
      obtain ⟨z, hz, rfl⟩ := Option.map_eq_some_iff.1 h
      have := yld_minmax (P := P) (g := g) (w := w) (vs := args.map a.eval) (tys := argTypes) (ty := o.type) (by simp) (fun i v x hv hx => ?_) hz
      · exact this.ran R (by rw [execOp_b hop]; rfl)
      · rw [List.getElem?_map] at hx
        obtain ⟨y, hy, rfl⟩ := Option.map_eq_some_iff.1 hx
        have hv' : v = a.eval y := by
          rw [Array.getElem?_map] at hv
          have : args[i]? = some y := by simpa using hy
          rw [this] at hv
          exact (Option.some.inj hv).symm
        subst hv'
        exact ⟨[], R.rd y []⟩
    · -- min
      obtain ⟨z, hz, rfl⟩ := Option.map_eq_some_iff.1 h
      have := yld_minmax (P := P) (g := g) (w := w) (vs := args.map a.eval) (tys := argTypes) (ty := o.type) (by simp) (fun i v x hv hx => ?_) hz
      · exact this.ran R (by rw [execOp_b hop]; rfl)
      · rw [List.getElem?_map] at hx
        obtain ⟨y, hy, rfl⟩ := Option.map_eq_some_iff.1 hx
        have hv' : v = a.eval y := by
          rw [Array.getElem?_map] at hv
          have : args[i]? = some y := by simpa using hy
          rw [this] at hv
          exact (Option.some.inj hv).symm
        subst hv'
        exact ⟨[], R.rd y []⟩
    · cases h
  · cases h

end
end Go.Vi
