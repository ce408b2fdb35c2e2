/- What a function answers, as the pure state tells it; and that a caller's state lives on behind a call. -/
import Derived.Test.YtbjkgeenjjfpdaaDoorVi
set_option linter.all false
set_option autoImplicit true
namespace Go.Vi
open Go Go.RowKit
set_option linter.unusedVariables false

/-- What a call begins with. -/
structure Pre [Bnd] (g : Gh) (w : World) (vs : Array Value) (args : List AV) (ob : List (Nat × List DV)) : Prop extends Sane g w where
  size : vs.size = args.length
  arg : ∀ i v x, vs[i]? = some v → args[i]? = some x → ARel g w [0, i] v x
  obj : ∀ id xs, getOb ob id = some xs → g.al id ∧ ObRel g w id xs
  alive : ∀ id, g.al id → 1000 ≤ id ∧ getOb ob id ≠ none
  s6 : ∀ b q o, g.ow b = some q → o < g.L b → g.K b o
/-- What it ends with. -/
structure Post [Bnd] (g : Gh) (w : World) (v : Value) (r : AV) (ob : List (Nat × List DV)) : Prop extends Sane g w where
  res : ARel g w [3] v r
  obj : ∀ id xs, getOb ob id = some xs → g.al id ∧ ObRel g w id xs
  s6 : ∀ b q o, g.ow b = some q → o < g.L b → g.K b o
def After [Bnd] (g : Gh) (w : World) (r : AV) (ob : List (Nat × List DV)) (e : Ending) (w' : World) : Prop :=
  ∃ v g', e = .returned v ∧ Post g' w' v r ob ∧ Stp g w g' w'
/-- What library tables hold where a law begins. -/
def Tabs (P : Program) (w : World) : Prop := P.globalNamed "internal/strconv.uint64pow10" ≠ none → w.var? P "internal/strconv.uint64pow10" = some (((List.range 20).map fun i => Value.int .u64 ((10 ^ i : Nat) : Int))).toArray
class BndP (P : Program) [Bnd] : Prop where
  tabs : Tabs P Bnd.W0
  all : Bnd.N = Bnd.W0.heap.size
/-- A function that has a body is entered. -/
def Goes (P : Program) (f : FuncId) : Prop := ∃ fn, P.funcs[f]? = some fn ∧ (fn.name == "runtime.NumGoroutine") = false ∧ fn.body.isNone = false
/-- The contract of a function at arguments. -/
def Spec (P : Program) (f : FuncId) (args : List AV) (ob : List (Nat × List DV)) (r : AV) (ob' : List (Nat × List DV)) : Prop :=
  Goes P f ∧ ∀ [Bnd] [BndP P] (g : Gh) (w : World) (vs : Array Value), Pre g w vs args ob → Calls P f vs w (After g w r ob')

/-! ### names of objects -/
def asc : List (Nat × Nat) → Nat → Option Nat
  | [], _ => none
  | (c, k) :: r, i => if c = i then some k else asc r i
def csa : List (Nat × Nat) → Nat → Option Nat
  | [], _ => none
  | (c, k) :: r, i => if k = i then some c else csa r i
def idsOk (ρ : List (Nat × Nat)) : Bool := ρ.all fun p => decide (1000 ≤ p.2) && asc ρ p.1 == some p.2 && csa ρ p.2 == some p.1
def has (ρ : List (Nat × Nat)) (i : Nat) : Bool := (asc ρ i).isSome
def nm (ρ : List (Nat × Nat)) (i : Nat) : Nat := (asc ρ i).getD 0
def AV.ren1 (ρ : List (Nat × Nat)) : AV → AV
  | .ptr id i j => .ptr (nm ρ id) i j
  | .os id n k => .os (nm ρ id) n k
  | x => x
def AV.ren (ρ : List (Nat × Nat)) : AV → AV
  | .fn f l => .fn f (l.map (AV.ren1 ρ))
  | x => x.ren1 ρ
def obIn (ρ : List (Nat × Nat)) (ob : List (Nat × List DV)) : List (Nat × List DV) :=
  match ρ with
  | [] => []
  | (c, k) :: r => match getOb ob c with
    | some xs => (k, xs) :: obIn r ob
    | none => obIn r ob
def obOut (ρ : List (Nat × Nat)) (ob ob' : List (Nat × List DV)) : List (Nat × List DV) :=
  match ρ with
  | [] => ob
  | (c, k) :: r => match getOb ob' k with
    | some xs => setOb (obOut r ob ob') c xs
    | none => obOut r ob ob'
/-- It names no object. -/
def AV.res : AV → Bool
  | .tup l => l.all (AV.okIds fun _ => false)
  | x => x.okIds fun _ => false

theorem asc_mem {ρ : List (Nat × Nat)} {i k : Nat} (h : asc ρ i = some k) : (i, k) ∈ ρ := by
  induction ρ with
  | nil => cases h
  | cons p r ih =>
    obtain ⟨c, d⟩ := p
    simp only [asc] at h
    split at h
    · rename_i hc; obtain rfl := Option.some.inj h; subst hc; exact List.mem_cons_self
    · exact List.mem_cons_of_mem _ (ih h)
theorem csa_mem {ρ : List (Nat × Nat)} {i k : Nat} (h : csa ρ k = some i) : (i, k) ∈ ρ := by
  induction ρ with
  | nil => cases h
  | cons p r ih =>
    obtain ⟨c, d⟩ := p
    simp only [csa] at h
    split at h
    · rename_i hc; obtain rfl := Option.some.inj h; subst hc; exact List.mem_cons_self
    · exact List.mem_cons_of_mem _ (ih h)
theorem idsOk_mem {ρ : List (Nat × Nat)} (h : idsOk ρ = true) {i k : Nat} (hm : (i, k) ∈ ρ) : 1000 ≤ k ∧ asc ρ i = some k ∧ csa ρ k = some i := by
  have := List.all_eq_true.1 h _ hm
  simp only [Bool.and_eq_true, decide_eq_true_eq, beq_iff_eq] at this
  exact ⟨this.1.1, this.1.2, this.2⟩
theorem getOb_obIn {ρ : List (Nat × Nat)} {ob : List (Nat × List DV)} {k : Nat} {xs : List DV} (h : getOb (obIn ρ ob) k = some xs) : ∃ c, (c, k) ∈ ρ ∧ getOb ob c = some xs := by
  induction ρ with
  | nil => cases h
  | cons p r ih =>
    obtain ⟨c, d⟩ := p
    simp only [obIn] at h
    split at h
    · rename_i ys hy
      simp only [getOb] at h
      split at h
      · rename_i hd; obtain rfl := Option.some.inj h; subst hd; exact ⟨c, List.mem_cons_self, hy⟩
      · obtain ⟨c', h1, h2⟩ := ih h; exact ⟨c', List.mem_cons_of_mem _ h1, h2⟩
    · obtain ⟨c', h1, h2⟩ := ih h; exact ⟨c', List.mem_cons_of_mem _ h1, h2⟩
theorem getOb_obIn_ne {ρ : List (Nat × Nat)} {ob : List (Nat × List DV)} {c k : Nat} (hm : (c, k) ∈ ρ) (h : getOb ob c ≠ none) : getOb (obIn ρ ob) k ≠ none := by
  induction ρ with
  | nil => cases hm
  | cons p r ih =>
    obtain ⟨c', d⟩ := p
    simp only [obIn]
    rcases List.mem_cons.1 hm with hm | hm
    · injection hm with h1 h2
      subst h1 h2
      split
      · simp [getOb]
      · rename_i h0; exact absurd h0 h
    · split
      · simp only [getOb]; split
        · simp
        · exact ih hm
      · exact ih hm
theorem getOb_obOut_none {ρ : List (Nat × Nat)} {ob ob' : List (Nat × List DV)} {i : Nat} : getOb (obOut ρ ob ob') i = none ↔ getOb ob i = none := by
  induction ρ with
  | nil => exact Iff.rfl
  | cons p r ih =>
    obtain ⟨c, k⟩ := p
    simp only [obOut]
    split
    · rw [getOb_setOb]
      split
      · rename_i h; subst h; simpa using ih
      · exact ih
    · exact ih
theorem getOb_obOut {ρ : List (Nat × Nat)} {ob ob' : List (Nat × List DV)} {i : Nat} {xs : List DV} (h : getOb (obOut ρ ob ob') i = some xs) :
    (∃ k, (i, k) ∈ ρ ∧ getOb ob' k = some xs) ∨ (getOb ob i = some xs ∧ ∀ k, (i, k) ∈ ρ → getOb ob' k = none) := by
  induction ρ with
  | nil => exact .inr ⟨h, fun k hk => by cases hk⟩
  | cons p r ih =>
    obtain ⟨c, k⟩ := p
    simp only [obOut] at h
    split at h
    · rename_i ys hys
      rw [getOb_setOb] at h
      split at h
      · rename_i hi
        subst hi
        obtain ⟨_, _, rfl⟩ := Option.map_eq_some_iff.1 h
        exact .inl ⟨k, List.mem_cons_self, hys⟩
      · rename_i hi
        rcases ih h with ⟨k', h1, h2⟩ | ⟨h1, h2⟩
        · exact .inl ⟨k', List.mem_cons_of_mem _ h1, h2⟩
        · refine .inr ⟨h1, fun k' hk' => ?_⟩
          rcases List.mem_cons.1 hk' with hk' | hk'
          · injection hk' with e1 e2; exact absurd e1 hi
          · exact h2 k' hk'
    · rename_i hn
      rcases ih h with ⟨k', h1, h2⟩ | ⟨h1, h2⟩
      · exact .inl ⟨k', List.mem_cons_of_mem _ h1, h2⟩
      · refine .inr ⟨h1, fun k' hk' => ?_⟩
        rcases List.mem_cons.1 hk' with hk' | hk'
        · injection hk' with e1 e2; rw [e2]; exact hn
        · exact h2 k' hk'

def isGone (ρ : List (Nat × Nat)) (ob' : List (Nat × List DV)) (id : Nat) : Bool :=
  match asc ρ id with
  | some k => (getOb ob' k).isNone
  | none => false
/-- The caller's state behind a call: objects that the callee took in are the caller's no more. -/
def St.back (s : St) (ρ : List (Nat × Nat)) (ob' : List (Nat × List DV)) : St :=
  if (ρ.all fun p => (getOb ob' p.2).isSome) = true then { s with ob := obOut ρ s.ob ob' }
  else { fr := freezeAt (fun id => !isGone ρ ob' id) s.fr.length .undef 0 s.fr, ob := keepOb (fun id => !isGone ρ ob' id) (obOut ρ s.ob ob') }

section
variable [Bnd] {P : Program} {g : Gh} {s : St} {a : Act} {w : World} {ρ : List (Nat × Nat)}

/-- The ghost that a callee begins with. -/
def Gh.callee (g : Gh) (ρ : List (Nat × Nat)) : Gh where
  K := g.K
  ow := fun b => (g.ow b).bind fun q => match q with
    | 2 :: r => some (0 :: r)
    | 1 :: id :: r => (asc ρ id).map fun k => 1 :: k :: r
    | _ => none
  L := g.L
  m := fun k => g.m ((csa ρ k).getD 0)
  al := fun k => (csa ρ k).isSome = true

theorem ARel.callee {p : List Nat} {v : Value} {x : AV} {k : Nat} (hρ : idsOk ρ = true) (h : ARel g w [2, k] v x) (hx : x.okIds (has ρ) = true) : ARel (g.callee ρ) w [0, k] v (x.ren ρ) := by
  have ow : ∀ b q, g.ow b = some ([2, k] ++ q) → (g.callee ρ).ow b = some ([0, k] ++ q) := fun b q hq => by simp [Gh.callee, hq]
  have one : ∀ {p : List Nat} {v : Value} {x : AV}, ARel g w p v x → x.ok1 (has ρ) = true → x.flat = true → ∀ p', ARel (g.callee ρ) w p' v (x.ren1 ρ) := by
    intro p v x h hx hf p'
    have key : ∀ id, has ρ id = true → (g.callee ρ).al (nm ρ id) ∧ (g.callee ρ).m (nm ρ id) = g.m id := by
      intro id hid
      simp only [has, Option.isSome_iff_exists] at hid
      obtain ⟨k, hk⟩ := hid
      have := idsOk_mem hρ (asc_mem hk)
      simp [Gh.callee, nm, hk, this.2.2]
    cases h with
    | undef p v => exact .undef _ _
    | gone p => exact .gone _
    | sh p h => exact .sh _ h
    | ow h => simp [AV.flat] at hf
    | ptr p id i j h =>
      obtain ⟨h1, h2⟩ := key id hx
      have := ARel.ptr (g := g.callee ρ) (w := w) p' (nm ρ id) i j h1
      rwa [h2] at this
    | rp p us hc hcell hr => exact .rp _ us hc hcell hr
    | os p id n h =>
      obtain ⟨h1, h2⟩ := key id hx
      have := ARel.os (g := g.callee ρ) (w := w) p' (nm ρ id) n h1
      rwa [h2] at this
    | tup hs hr => simp [AV.flat] at hf
    | fn hs hf' hr => simp [AV.flat] at hf
  cases h with
  | ow h => exact .ow (h.mono (g := g) (g' := g.callee ρ) (fun _ _ h => h) (fun _ _ _ => rfl) _ fun b q hq => ⟨ow b q hq, rfl, rfl⟩)
  | fn hs hf hr =>
    refine .fn (by simpa using hs) (fun x hx' => ?_) (fun i u x hu hx' => ?_)
    · obtain ⟨y, hy, rfl⟩ := List.mem_map.1 hx'
      have := hf y hy
      cases y <;> simp_all [AV.ren1, AV.flat]
    · rw [List.getElem?_map] at hx'
      obtain ⟨y, hy, rfl⟩ := Option.map_eq_some_iff.1 hx'
      exact one (hr i u y hu hy) (List.all_eq_true.1 hx y (List.mem_of_getElem? hy)) (hf y (List.mem_of_getElem? hy)) _
  | tup hs hr => simp [AV.okIds, AV.ok1] at hx
  | undef p v => exact .undef _ _
  | gone p => exact .gone _
  | sh p h => exact .sh _ h
  | ptr p id i j h => exact one (.ptr p id i j h) hx rfl _
  | rp p us hc hcell hr => exact .rp _ us hc hcell hr
  | os p id n h => exact one (.os p id n h) hx rfl _

theorem callee_ow {b : Nat} {q : List Nat} (h : (g.callee ρ).ow b = some q) : ∃ r, g.ow b = some r := by
  simp only [Gh.callee] at h
  cases h' : g.ow b with
  | none => simp [h'] at h
  | some r => exact ⟨r, rfl⟩

theorem Rel.pre (R : Rel g s a w) (hρ : idsOk ρ = true) (hob : ∀ c k, (c, k) ∈ ρ → getOb s.ob c ≠ none) {vs : Array Value} {args : List AV} (hsz : vs.size = args.length)
    (hargs : ∀ i v x, vs[i]? = some v → args[i]? = some x → ARel g w [2, i] v x ∧ x.okIds (has ρ) = true) : Pre (g.callee ρ) w vs (args.map (AV.ren ρ)) (obIn ρ s.ob) where
  s1 b q h := by obtain ⟨r, hr⟩ := callee_ow h; exact R.s1 b r hr
  s2 b q o h hK := by obtain ⟨r, hr⟩ := callee_ow h; exact R.s2 b r o hr hK
  s3 := R.s3
  sN := ⟨R.sN.1, fun b q h => by obtain ⟨r, hr⟩ := callee_ow h; exact R.sN.2.1 b r hr, R.sN.2.2⟩
  size := by simpa using hsz
  arg i v x hv hx := by
    rw [List.getElem?_map] at hx
    obtain ⟨y, hy, rfl⟩ := Option.map_eq_some_iff.1 hx
    obtain ⟨h1, h2⟩ := hargs i v y hv hy
    exact h1.callee (p := []) hρ h2
  obj k xs h := by
    obtain ⟨c, hc, h⟩ := getOb_obIn h
    obtain ⟨h1, h2, h3⟩ := idsOk_mem hρ hc
    refine ⟨by simp [Gh.callee, h3], ?_⟩
    obtain ⟨cur, e, c1, c2, c3, c4, c5, c6, c7⟩ := (R.obj c xs h).2.ex
    have hm : (g.callee ρ).m k = g.m c := by simp [Gh.callee, h3]
    have ow : ∀ b q, g.ow b = some (1 :: c :: q) → (g.callee ρ).ow b = some (1 :: k :: q) := fun b q hq => by simp [Gh.callee, hq, h2]
    exact ⟨cur, e, by rw [hm]; exact ow _ _ c1, by rw [hm]; exact c2, by rw [hm]; exact c3, by rw [hm]; exact c4, by rw [hm]; exact c5, by rw [hm]; exact c6,
      fun i d j e hi hj => by rw [hm]; exact ORel.mono (g := g) (g' := g.callee ρ) (fun _ _ h => h) (fun _ _ _ => rfl) (c7 i d j e hi hj) _ fun b q hq => ⟨ow b _ hq, rfl, rfl⟩⟩
  alive k h := by
    simp only [Gh.callee, Option.isSome_iff_exists] at h
    obtain ⟨c, hc⟩ := h
    have hm := csa_mem hc
    exact ⟨(idsOk_mem hρ hm).1, getOb_obIn_ne hm (hob c k hm)⟩
  s6 b q o h ho := by obtain ⟨r, hr⟩ := callee_ow h; exact R.s6 b r o hr ho

def backPos (ρ : List (Nat × Nat)) : List Nat → Option (List Nat)
  | 3 :: r => some (2 :: 0 :: r)
  | 1 :: k :: r => (csa ρ k).map fun id => 1 :: id :: r
  | _ => none
/-- The ghost behind a call; al: the objects that the caller has still. -/
def Gh.back (g g' : Gh) (ρ : List (Nat × Nat)) (al : Nat → Prop) : Gh where
  K := g'.K
  ow := fun b => match (g'.ow b).bind (backPos ρ) with
    | some q => some q
    | none => if ((g.callee ρ).ow b).isNone then g.ow b else none
  L := fun b => if ((g.callee ρ).ow b).isNone && (g.ow b).isSome then g.L b else g'.L b
  m := g.m
  al := al

theorem ARel.noIds {g' : Gh} {p : List Nat} {v : Value} {x : AV} (hx : x.okIds (fun _ => false) = true) (h : ARel g w p v x) : ∀ p', (∀ b o, g.K b o → g'.K b o) → (∀ b q, g.ow b = some (p ++ q) → g'.ow b = some (p' ++ q) ∧ g'.L b = g.L b) → ARel g' w p' v x := by
  intro p' hK hp
  have one : ∀ {p : List Nat} {v : Value} {x : AV}, x.ok1 (fun _ => false) = true → ARel g w p v x → x.flat = true → ∀ p', ARel g' w p' v x := by
    intro p v x hx h hf p'
    cases h with
    | undef p v => exact .undef _ _
    | gone p => exact .gone _
    | sh p h => exact .sh _ (h.mono hK fun _ _ _ => rfl)
    | ow h => simp [AV.flat] at hf
    | ptr p id i j h => simp [AV.ok1] at hx
    | rp p us hc hcell hr => exact .rp _ us hc (fun j e hj => ⟨hK _ _ (hcell j e hj).1, (hcell j e hj).2⟩) (fun j e hj => (hr j e hj).mono hK fun _ _ _ => rfl)
    | os p id n h => simp [AV.ok1] at hx
    | tup hs hr => simp [AV.flat] at hf
    | fn hs hf' hr => simp [AV.flat] at hf
  cases h with
  | ow h => exact .ow (h.mono hK (fun _ _ _ => rfl) _ fun b q hq => ⟨(hp b q hq).1, rfl, (hp b q hq).2⟩)
  | fn hs hf hr => exact .fn hs hf fun i u x hu hx' => one (List.all_eq_true.1 hx x (List.mem_of_getElem? hx')) (hr i u x hu hx') (hf x (List.mem_of_getElem? hx')) _
  | tup hs hr => simp [AV.okIds, AV.ok1] at hx
  | undef p v => exact .undef _ _
  | gone p => exact .gone _
  | sh p h => exact one (x := .sh _) hx (.sh p h) rfl _
  | ptr p id i j h => simp [AV.okIds, AV.ok1] at hx
  | @rp p b o j d us hc hcell hr => exact one (x := .rp d j) hx (.rp p us hc hcell hr) rfl _
  | os p id n h => simp [AV.okIds, AV.ok1] at hx
theorem ARel.noIdsT {g' : Gh} {p : List Nat} {v : Value} {x : AV} (hx : x.res = true) (h : ARel g w p v x) (p' : List Nat) (hK : ∀ b o, g.K b o → g'.K b o) (hp : ∀ b q, g.ow b = some (p ++ q) → g'.ow b = some (p' ++ q) ∧ g'.L b = g.L b) : ARel g' w p' v x := by
  cases x with
  | tup l =>
    obtain ⟨vs, rfl, h1, h2⟩ := h.inv_tup
    refine .tup h1 fun i u x hu hx' => (h2 i u x hu hx').noIds (List.all_eq_true.1 hx x (List.mem_of_getElem? hx')) _ hK fun b q hq => ?_
    have := hp b ([i] ++ q) (by simpa using hq)
    simpa using this
  | undef => exact h.noIds (x := .undef) hx _ hK hp
  | gone => exact h.noIds (x := .gone) hx _ hK hp
  | sh d => exact h.noIds (x := .sh d) hx _ hK hp
  | ow d => exact h.noIds (x := .ow d) hx _ hK hp
  | ptr id i j => exact h.noIds (x := .ptr id i j) hx _ hK hp
  | rp d j => exact h.noIds (x := .rp d j) hx _ hK hp
  | os id n k => exact h.noIds (x := .os id n k) hx _ hK hp
  | fn f l => exact h.noIds (x := .fn f l) hx _ hK hp

/-- Behind a call the caller's state stands; the answer is held. -/
theorem Rel.back {g' : Gh} {w' : World} (R : Rel g s a w) (hρ : idsOk ρ = true) {v : Value} {r : AV} {ob' : List (Nat × List DV)} (hr : r.res = true) (al' : Nat → Prop) (hal' : ∀ id, al' id → g.al id)
    (hob : ∀ c k, (c, k) ∈ ρ → al' c → getOb ob' k ≠ none) {s' : St} (hlen : s'.fr.length = s.fr.length) (hslot : ∀ i y, s'.fr[i]? = some y → ARel { g with al := al' } w [0, i] (a.tmps.getD i undef) y)
    (hobs : ∀ id xs, getOb s'.ob id = some xs → getOb (obOut ρ s.ob ob') id = some xs ∧ al' id) (halive : ∀ id, al' id → getOb s'.ob id ≠ none)
    (Q : Post g' w' v r ob') (S : Stp (g.callee ρ) w g' w') : RelH (g.back g' ρ al') s' a w' [(0, v, r)] ∧ Stp g w (g.back g' ρ al') w' := by
  have notIn : ∀ b q, g.ow b = some q → (g.callee ρ).ow b = none → g'.ow b = none := by
    intro b q hq h0
    cases h : g'.ow b with
    | none => rfl
    | some p =>
      rcases S.own b (by simp [h]) with h1 | h1
      · have := R.s1 b q hq; omega
      · exact absurd h0 h1
  have owCase : ∀ {b q}, (g.back g' ρ al').ow b = some q → (∃ p, g'.ow b = some p ∧ (g.back g' ρ al').L b = g'.L b) ∨ (g.ow b = some q ∧ (g.callee ρ).ow b = none ∧ (g.back g' ρ al').L b = g.L b) := by
    intro b q h
    have hL : ∀ p, g'.ow b = some p → (g.back g' ρ al').L b = g'.L b := by
      intro p hp
      simp only [Gh.back]
      rw [if_neg]
      intro hc
      simp only [Bool.and_eq_true, Option.isNone_iff_eq_none, Option.isSome_iff_exists] at hc
      obtain ⟨h0, q', hq'⟩ := hc
      rw [notIn b q' hq' h0] at hp; cases hp
    simp only [Gh.back] at h
    split at h
    · rename_i q' hq'
      cases hb : g'.ow b with
      | none => simp [hb] at hq'
      | some p => exact .inl ⟨p, rfl, hL p hb⟩
    · split at h
      · rename_i h0
        have h0' : (g.callee ρ).ow b = none := by simpa using h0
        refine .inr ⟨h, h0', ?_⟩
        simp only [Gh.back]
        rw [if_pos (by simp [h0', h])]
      · cases h
  have keepOw : ∀ b q, g.ow b = some q → (g.callee ρ).ow b = none → (g.back g' ρ al').ow b = some q ∧ w'.heap[b]? = w.heap[b]? ∧ (g.back g' ρ al').L b = g.L b := by
    intro b q hq h0
    refine ⟨?_, S.old b (R.s1 b q hq) h0, ?_⟩
    · simp only [Gh.back, notIn b q hq h0, Option.bind_none, h0, Option.isNone_none, if_true]; exact hq
    · simp only [Gh.back]; rw [if_pos (by simp [h0, hq])]
  have newOw : ∀ b q p, g'.ow b = some q → backPos ρ q = some p → (g.back g' ρ al').ow b = some p ∧ (g.back g' ρ al').L b = g'.L b := by
    intro b q p hq hp
    have h1 : (g.back g' ρ al').ow b = some p := by
      simp only [Gh.back, hq, Option.bind_some]
      split
      · rename_i p' hp'; rw [hp'] at hp; exact hp
      · rename_i h0; rw [h0] at hp; cases hp
    refine ⟨h1, ?_⟩
    rcases owCase h1 with ⟨_, _, h⟩ | ⟨h2, h3, _⟩
    · exact h
    · rw [notIn b p h2 h3] at hq; cases hq
  refine ⟨⟨{ s1 := ?_, s2 := ?_, s3 := Q.s3, sN := ⟨Q.sN.1, fun b q h => by
    rcases owCase h with ⟨p, hp, _⟩ | ⟨h1, _, _⟩
    · exact Q.sN.2.1 b p hp
    · exact R.sN.2.1 b q h1, Q.sN.2.2⟩, size := hlen.trans R.size, defers := R.defers, slot := ?_, obj := ?_, alive := ?_, s6 := ?_ }, ?_⟩, ?_⟩
  · intro b q h
    rcases owCase h with ⟨p, hp, _⟩ | ⟨h1, _, _⟩
    · exact Q.s1 b p hp
    · exact Nat.lt_of_lt_of_le (R.s1 b q h1) S.size
  · intro b q o h hK
    rcases owCase h with ⟨p, hp, hL⟩ | ⟨h1, h2, hL⟩
    · rw [hL]; exact Q.s2 b p o hp hK
    · rw [hL]
      rcases S.K' b o hK with h3 | h3 | h3
      · exact R.s2 b q o h1 h3
      · have := R.s1 b q h1; omega
      · exact absurd h2 h3
  · intro i x hx
    refine ARel.mono (g := { g with al := al' }) (g' := g.back g' ρ al') S.K S.kept (fun _ h => ⟨h, rfl⟩) (hslot i x hx) _ fun b q hq => keepOw b _ hq ?_
    have hq' : g.ow b = some ([0, i] ++ q) := hq
    simp [Gh.callee, hq']
  · intro id xs h
    obtain ⟨h, halid⟩ := hobs id xs h
    rcases getOb_obOut h with ⟨k, hm, hk⟩ | ⟨h1, h2⟩
    · obtain ⟨q1, q2, q3⟩ := idsOk_mem hρ hm
      refine ⟨halid, ?_⟩
      obtain ⟨cur, e, c1, c2, c3, c4, c5, c6, c7⟩ := (Q.obj k xs hk).2.ex
      have hmm : g'.m k = g.m id := by
        rw [S.m k q1]; simp [Gh.callee, q3]
      rw [hmm] at c1 c2 c3 c4 c5 c6 c7
      have now : ∀ b q, g'.ow b = some (1 :: k :: q) → (g.back g' ρ al').ow b = some (1 :: id :: q) ∧ (g.back g' ρ al').L b = g'.L b := fun b q hq => newOw b _ _ hq (by simp [backPos, q3])
      exact ⟨cur, e, (now _ _ c1).1, c2, by rw [show (g.back g' ρ al').m id = g.m id from rfl, (now _ _ c1).2]; exact c3, c4, c5, c6,
        fun i d j e hi hj => (c7 i d j e hi hj).mono (g := g') (g' := g.back g' ρ al') (fun _ _ h => h) (fun _ _ _ => rfl) _ fun b q hq => ⟨(now b _ hq).1, rfl, (now b _ hq).2⟩⟩
    · have hnone : asc ρ id = none := by
        cases ha : asc ρ id with
        | none => rfl
        | some k => exact absurd (h2 k (asc_mem ha)) (hob id k (asc_mem ha) halid)
      obtain ⟨h3, h4⟩ := R.obj id xs h1
      refine ⟨halid, ?_⟩
      obtain ⟨cur, e, c1, c2, c3, c4, c5, c6, c7⟩ := h4.ex
      have now : ∀ b q, g.ow b = some (1 :: id :: q) → (g.back g' ρ al').ow b = some (1 :: id :: q) ∧ w'.heap[b]? = w.heap[b]? ∧ (g.back g' ρ al').L b = g.L b := fun b q hq => keepOw b _ hq (by simp [Gh.callee, hq, hnone])
      exact ⟨cur, e, (now _ _ c1).1, (now _ _ c1).2.1.trans c2, by rw [show (g.back g' ρ al').m id = g.m id from rfl, (now _ _ c1).2.2]; exact c3, c4, c5, c6,
        fun i d j e hi hj => ORel.mono (g := g) (g' := g.back g' ρ al') S.K S.kept (c7 i d j e hi hj) _ fun b q hq => now b _ hq⟩
  · exact halive
  · intro b q o h ho
    rcases owCase h with ⟨p, hp, hL⟩ | ⟨h1, h2, hL⟩
    · rw [hL] at ho; exact Q.s6 b p o hp ho
    · rw [hL] at ho; exact S.K b o (R.s6 b q o h1 ho)
  · intro k u x hm
    simp only [List.mem_singleton, Prod.mk.injEq] at hm
    obtain ⟨rfl, rfl, rfl⟩ := hm
    exact Q.res.noIdsT hr _ (fun _ _ h => h) fun b q hq => newOw b _ _ hq rfl
  · refine ⟨S.os, S.tape, S.output, S.size, fun b hb h0 => S.old b hb (by simp [Gh.callee, h0]), S.kept, S.K, fun b o h => ?_, fun b h => ?_, fun _ _ => rfl⟩
    · rcases S.K' b o h with h1 | h1 | h1
      · exact .inl h1
      · exact .inr (.inl h1)
      · refine .inr (.inr fun h0 => h1 (by simp [Gh.callee, h0]))
    · cases hq : (g.back g' ρ al').ow b with
      | none => exact absurd hq h
      | some q =>
        rcases owCase hq with ⟨p, hp, _⟩ | ⟨h1, _, _⟩
        · rcases S.own b (by simp [hp]) with h2 | h2
          · exact .inl h2
          · exact .inr fun h0 => h2 (by simp [Gh.callee, h0])
        · exact .inr (by simp [h1])

theorem Rel.back' {g' : Gh} {w' : World} (R : Rel g s a w) (hρ : idsOk ρ = true) {v : Value} {r : AV} {ob' : List (Nat × List DV)} (hr : r.res = true)
    (Q : Post g' w' v r ob') (S : Stp (g.callee ρ) w g' w') : ∃ g2, RelH g2 (s.back ρ ob') a w' [(0, v, r)] ∧ Stp g w g2 w' := by
  have alOf : ∀ id xs, getOb (obOut ρ s.ob ob') id = some xs → g.al id := by
    intro id xs h
    have := mt getOb_obOut_none.2 (show getOb (obOut ρ s.ob ob') id ≠ none by rw [h]; simp)
    cases hg : getOb s.ob id with
    | none => exact absurd hg this
    | some ys => exact (R.obj id ys hg).1
  unfold St.back
  split
  · rename_i hall
    refine ⟨_, R.back hρ hr g.al (fun _ h => h) (fun c k hm _ => ?_) rfl (fun i y hy => R.slot i y hy) (fun id xs h => ⟨h, alOf id xs h⟩) (fun id h => mt getOb_obOut_none.1 (R.alive id h)) Q S⟩
    have := List.all_eq_true.1 hall _ hm
    simp only [Option.isSome_iff_ne_none] at this
    exact this
  · refine ⟨_, R.back hρ hr (fun id => g.al id ∧ (!isGone ρ ob' id) = true) (fun _ h => h.1) (fun c k hm h => ?_) (by simp [freezeAt_len]) (fun i y hy => ?_) (fun id xs h => ?_) (fun id h => ?_) Q S⟩
    · have := (idsOk_mem hρ hm).2.1
      have h2 := h.2
      simp only [isGone, this, Bool.not_eq_true', Option.isNone_eq_false_iff, Option.isSome_iff_ne_none] at h2
      exact h2
    · obtain ⟨x, hx, ⟨_, rfl⟩ | ⟨_, h | ⟨rfl, hok⟩⟩⟩ := freezeAt_get hy
      · exact .undef _ _
      · rw [h]; exact .undef _ _
      · exact (R.slot i y hx).cut hok fun id h1 h2 => ⟨h1, h2⟩
    · simp only [getOb_keep] at h
      split at h
      · rename_i hp; exact ⟨h, alOf id xs h, hp⟩
      · cases h
    · simp only [getOb_keep, h.2, if_true]
      exact mt getOb_obOut_none.1 (R.alive id h.1)

end
end Go.Vi
