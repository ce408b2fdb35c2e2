/- Values that are built of others: structs, rows, rows that grow. -/
import Derived.Test.YtbjkgeenjjfpdaaDoorVe
set_option linter.all false
set_option autoImplicit true
namespace Go.Vi
open Go Go.RowKit
variable [Bnd]
set_option linter.unusedVariables false

section
variable {P : Program} {g : Gh} {s : St} {a : Act} {w : World} {H : List (Nat × Value × AV)}

theorem getD_fold (vs : List Value) : ∀ (cs : Array Value) (off : Nat), off + vs.length ≤ cs.size →
    ((vs.zipIdx off).foldl (fun cs (p : Value × Nat) => cs.setIfInBounds p.2 p.1) cs).size = cs.size ∧
    ∀ n, ((vs.zipIdx off).foldl (fun cs (p : Value × Nat) => cs.setIfInBounds p.2 p.1) cs).getD n undef = if off ≤ n ∧ n < off + vs.length then vs.getD (n - off) undef else cs.getD n undef := by
  induction vs with
  | nil => intro cs off h; refine ⟨rfl, fun n => ?_⟩; simp; omega
  | cons v vs ih =>
    intro cs off h
    simp only [List.zipIdx_cons, List.foldl_cons]
    simp only [List.length_cons] at h
    obtain ⟨h1, h2⟩ := ih (cs.setIfInBounds off v) (off + 1) (by simp; omega)
    refine ⟨by rw [h1]; simp, fun n => ?_⟩
    rw [h2]
    by_cases hn : off + 1 ≤ n ∧ n < off + 1 + vs.length
    · rw [if_pos hn, if_pos (by simp only [List.length_cons]; omega)]
      rw [show n - off = (n - (off + 1)) + 1 by omega]
      simp
    · rw [if_neg hn]
      by_cases he : n = off
      · subst he
        rw [if_pos (by simp only [List.length_cons]; omega)]
        have : n < cs.size := by omega
        simp [this]
      · rw [if_neg (by simp only [List.length_cons]; omega)]
        simp [Array.getElem?_setIfInBounds_ne (fun e => he e.symm)]

theorem fill_cells (v : Value) (off : Nat) (cs : Array Value) :
    v.cells.zipIdx.foldl (fun cs (p : Value × Nat) => cs.setIfInBounds (off + p.2) p.1) cs = (v.cells.toList.zipIdx off).foldl (fun cs (p : Value × Nat) => cs.setIfInBounds p.2 p.1) cs := by
  rw [← Array.foldl_toList, Array.toList_zipIdx]
  generalize v.cells.toList = l
  have : ∀ (l : List Value) (k : Nat) (cs : Array Value), (l.zipIdx k).foldl (fun cs (p : Value × Nat) => cs.setIfInBounds (off + p.2) p.1) cs = (l.zipIdx (off + k)).foldl (fun cs (p : Value × Nat) => cs.setIfInBounds p.2 p.1) cs := by
    intro l
    induction l with
    | nil => intro k cs; rfl
    | cons x l ih => intro k cs; simp only [List.zipIdx_cons, List.foldl_cons]; rw [ih]; rfl
  simpa using this l 0 cs

def heldSeq (a : Act) (s : St) : Nat → List Operand → List (Nat × Value × AV)
  | _, [] => []
  | m, x :: r => (m, a.eval x, s.raw x) :: heldSeq a (s.wrs (s.left x)) (m + 1) r

theorem heldSeq_key {m : Nat} {l : List Operand} {y : Nat × Value × AV} : ∀ {s : St}, y ∈ heldSeq a s m l → m ≤ y.1 := by
  induction l generalizing m with
  | nil => intro s h; cases h
  | cons x r ih =>
    intro s h
    rcases List.mem_cons.1 h with h | h
    · subst h; exact Nat.le_refl _
    · exact Nat.le_trans (Nat.le_succ _) (ih h)

theorem RelH.perm (R : RelH g s a w H) {H' : List (Nat × Value × AV)} (h : ∀ y ∈ H', y ∈ H) : RelH g s a w H' := ⟨R.toRel, fun k v x hm => R.held k v x (h _ hm)⟩

theorem takeSeq : ∀ (l : List Operand) (g : Gh) (s : St) (m : Nat) (H : List (Nat × Value × AV)), RelH g s a w H → (∀ y ∈ H, y.1 < m) → (∀ x ∈ rawSeq s l, x.isTup = false) →
    ∃ g', RelH g' (s.wrs (leftSeq s l)) a w (heldSeq a s m l ++ H) ∧ Stp g w g' w := by
  intro l
  induction l with
  | nil => intro g s m H R _ _; exact ⟨g, R, Stp.refl _ _⟩
  | cons x l ih =>
    intro g s m H R hH ht
    obtain ⟨φ, R1⟩ := R.take x m (fun y hy => by have := hH y hy; omega) (ht _ (by simp [rawSeq]))
    obtain ⟨g', R2, S2⟩ := ih (g.re φ) (s.wrs (s.left x)) (m + 1) _ R1 (fun y hy => by
      rcases List.mem_cons.1 hy with rfl | hy
      · exact Nat.lt_succ_self _
      · have := hH y hy; omega) (fun y hy => ht y (by simp [rawSeq, hy]))
    refine ⟨g', ?_, (Stp.re _ _ φ).trans S2⟩
    simp only [leftSeq, wrs_append, heldSeq]
    refine R2.perm fun y hy => ?_
    simp only [List.mem_append, List.mem_cons, List.cons_append] at hy ⊢
    rcases hy with hy | hy | hy
    · exact .inr (.inl hy)
    · exact .inl hy
    · exact .inr (.inr hy)

def place' (c : Bool) (i : Nat) (r : List Nat) : List Nat := 2 :: 1 :: i :: (if c then 0 :: r else r)
/-- Parts that are held go to their places in a row; the row stands at 1. -/
theorem fillSeq (sz : Nat) (at_ : Nat → Option Nat) (place : Nat → Option (Nat × Nat)) (hat : ∀ f i, at_ f = some i → place f = some (i * sz, sz)) : ∀ (fs : List Nat) (l : List Operand) (g : Gh) (t s : St) (m : Nat) (H : List (Nat × Value × AV)) (cur : Array Value) (es es' : List DV),
    fs.length = l.length → RelH g s a w (heldSeq a t m l ++ H) → 2 ≤ m → (∀ y ∈ H, 2 ≤ y.1 ∧ y.1 < m) → Els g w [2, 1] cur sz es → fillRow sz at_ es (fs.zip (rawSeq t l)) = some es' →
    ∃ g' cur', Instr.fill place cur (fs.zip (l.map a.eval)) = some cur' ∧ RelH g' s a w H ∧ Els g' w [2, 1] cur' sz es' ∧ Stp g w g' w := by
  intro fs
  induction fs with
  | nil =>
    intro l g t s m H cur es es' hl R _ hH hE hf
    cases l with
    | cons x l => simp at hl
    | nil =>
      simp [fillRow] at hf
      subst hf
      exact ⟨g, cur, rfl, R, hE, Stp.refl _ _⟩
  | cons f fs ih =>
    intro l g t s m H cur es es' hl R hm hH hE hf
    cases l with
    | nil => simp at hl
    | cons x l =>
      simp only [rawSeq, List.zip_cons_cons, fillRow] at hf
      split at hf
      case h_2 => cases hf
      rename_i i e hi he
      split at hf
      case isFalse => cases hf
      rename_i hc
      obtain ⟨hil, hlen⟩ := hc
      have hv := (R.held m (a.eval x) (t.raw x) (by simp [heldSeq])).dv he
      obtain ⟨hc1, hc2⟩ := hv.cellsOf
      let φ : List Nat → Option (List Nat) := fun q => match q with
        | 2 :: k :: r => if k = m then some (place' e.isCell i r) else if k = 1 then (match r with
            | i' :: r' => if i' = i then none else some (2 :: 1 :: i' :: r')
            | [] => some [2, 1]) else some (2 :: k :: r)
        | q => some q
      have hR : RelH (g.re φ) s a w (heldSeq a (t.wrs (t.left x)) (m + 1) l ++ H) := by
        refine ⟨R.toRel.re' φ (fun _ _ => rfl) (fun _ _ => rfl), fun k v y hk => ?_⟩
        have hmem : (k, v, y) ∈ heldSeq a t m (x :: l) ++ H := by
          simp only [heldSeq, List.cons_append, List.mem_cons, List.mem_append] at hk ⊢
          exact .inr hk
        have hkm : k ≠ m ∧ k ≠ 1 := by
          rcases List.mem_append.1 hk with hk | hk
          · have := heldSeq_key hk; simp only at this; omega
          · have := hH _ hk; simp only at this; omega
        exact (R.held k v y hmem).re fun q => by simp [φ, hkm.1, hkm.2]
      let cur' := (a.eval x).cells.zipIdx.foldl (fun cs (p : Value × Nat) => cs.setIfInBounds (i * sz + p.2) p.1) cur
      have hrow : (i + 1) * sz ≤ es.length * sz := Nat.mul_le_mul_right _ (by omega)
      rw [Nat.add_mul, Nat.one_mul] at hrow
      obtain ⟨f1, f2⟩ := getD_fold (a.eval x).cells.toList cur (i * sz) (by rw [hE.size]; simp; omega)
      have hcur : cur' = ((a.eval x).cells.toList.zipIdx (i * sz)).foldl (fun cs (p : Value × Nat) => cs.setIfInBounds p.2 p.1) cur := fill_cells _ _ _
      have hE' : Els (g.re φ) w [2, 1] cur' sz (es.set i e) := by
        rw [hcur]
        refine ⟨by rw [f1, hE.size]; simp, fun i' d hd => ?_, fun i' d j c hd hj => ?_⟩
        · rw [List.getElem?_set] at hd
          split at hd
          · obtain rfl := Option.some.inj hd
            exact ⟨hlen, hc2⟩
          · exact hE.len i' d hd
        · rw [f2]
          rw [List.getElem?_set] at hd
          split at hd
          · rename_i hii
            subst hii
            obtain rfl := Option.some.inj hd
            have hjl : j < sz := by rw [← hlen]; exact (List.getElem?_eq_some_iff.1 hj).1
            rw [if_pos (by simp; omega), Nat.add_sub_cancel_left]
            have := hv.cellAt hj
            have hg : (a.eval x).cells.toList.getD j undef = (a.eval x).cells.getD j undef := by simp [List.getD_eq_getElem?_getD]
            rw [hg]
            refine this.re fun q => ?_
            unfold cpos
            cases hec : e.isCell with
            | true =>
              rw [cells_of_isCell hec] at hj
              have hj0 : j = 0 := by
                cases j with
                | zero => rfl
                | succ j => simp at hj
              subst hj0
              simp [φ, place', hec]
            | false => simp [φ, place', hec]
          · rename_i hii
            have hjl : j < sz := by rw [← (hE.len i' d hd).1]; exact (List.getElem?_eq_some_iff.1 hj).1
            have hne : ¬ (i * sz ≤ i' * sz + j ∧ i' * sz + j < i * sz + (a.eval x).cells.toList.length) := by
              simp only [Array.length_toList]
              rcases Nat.lt_or_gt_of_ne hii with h | h
              · have : (i + 1) * sz ≤ i' * sz := Nat.mul_le_mul_right _ h
                rw [Nat.add_mul, Nat.one_mul] at this
                omega
              · have : (i' + 1) * sz ≤ i * sz := Nat.mul_le_mul_right _ h
                rw [Nat.add_mul, Nat.one_mul] at this
                omega
            rw [if_neg hne]
            refine (hE.rel i' d j c hd hj).re fun q => ?_
            simp [φ, show (1 : Nat) ≠ m by omega, show i' ≠ i from fun e => hii e.symm]
      obtain ⟨g', cur'', h1, h2, h3, h4⟩ := ih l (g.re φ) (t.wrs (t.left x)) s (m + 1) H cur' (es.set i e) es' (by simpa using hl) hR (by omega) (fun y hy => by have := hH y hy; omega) hE' hf
      refine ⟨g', cur'', ?_, h2, h3, (Stp.re _ _ φ).trans h4⟩
      simp only [List.map_cons, List.zip_cons_cons, Instr.fill, hat f i hi]
      rw [if_neg (show ¬((decide ((a.eval x).cells.size ≠ sz) || decide (i * sz + (a.eval x).cells.size > cur.size)) = true) from by have := hE.size; simp; omega)]
      exact h1

theorem fillRow_tup {sz : Nat} {at_ : Nat → Option Nat} : ∀ {l : List (Nat × AV)} {es es' : List DV}, fillRow sz at_ es l = some es' → ∀ y ∈ l, y.2.isTup = false := by
  intro l
  induction l with
  | nil => intro es es' _ y hy; cases hy
  | cons p l ih =>
    intro es es' h y hy
    obtain ⟨f, x⟩ := p
    simp only [fillRow] at h
    split at h
    case h_2 => cases h
    rename_i i e hi he
    split at h
    case isFalse => cases h
    rcases List.mem_cons.1 hy with rfl | hy
    · exact isTup_of_dv he
    · exact ih h y hy

theorem rawSeq_length : ∀ (l : List Operand) (s : St), (rawSeq s l).length = l.length
  | [], _ => rfl
  | x :: l, s => by simp [rawSeq, rawSeq_length l]

theorem fillRow_length {sz : Nat} {at_ : Nat → Option Nat} : ∀ {l : List (Nat × AV)} {es es' : List DV}, fillRow sz at_ es l = some es' → es'.length = es.length := by
  intro l
  induction l with
  | nil => intro es es' h; simp [fillRow] at h; rw [h]
  | cons p l ih =>
    intro es es' h
    obtain ⟨f, x⟩ := p
    simp only [fillRow] at h
    split at h
    case h_2 => cases h
    split at h
    case isFalse => cases h
    rw [ih h]; simp

theorem parts_split (parts : Array (Nat × Operand)) (f : Operand → Value) : (parts.map fun p => (p.1, f p.2)).toList = (parts.toList.map (·.1)).zip ((parts.toList.map (·.2)).map f) := by
  rw [Array.toList_map]
  generalize parts.toList = l
  induction l with
  | nil => rfl
  | cons p l ih => simp [ih]

theorem build_place {t : TypeId} {ti : TI} {at_ : Nat → Option Nat} (hti : mkC P t = some ti) (hat : buildAt (mkC P) ti.td = some at_) :
    ti.td.isAgg = true ∧ ∃ place : Nat → Option (Nat × Nat), (∀ f i, at_ f = some i → place f = some (i * 1, 1)) ∧
      ∀ (it : TypeInfo) (z : Value), P.info? t = some it → it.zero = some z → ∀ parts, P.built t parts = Instr.fill place z.cells parts := by
  have hu := mkC_td hti
  unfold buildAt at hat
  split at hat
  · rename_i offs htd
    rw [htd] at hu
    obtain ⟨fs, hfs, hoffs⟩ := hu
    obtain rfl := Option.some.inj hat
    refine ⟨by rw [htd]; rfl, fun f => offs[f]?, fun f i hf => ?_, fun it z hi hz parts => ?_⟩
    · unfold offAt at hf
      split at hf
      case h_2 => cases hf
      rename_i o n ho
      split at hf
      case isFalse => cases hf
      rename_i hn
      obtain rfl := Option.some.inj hf
      subst hn
      simpa using ho
    · unfold Program.built
      simp only [hi, hfs, hz, hoffs, List.getElem?_toArray]
  · rename_i n e htd
    rw [htd] at hu
    simp only [tdOk] at hu
    split at hat
    case h_2 => cases hat
    rename_i te hte
    split at hat
    case isFalse => cases hat
    rename_i hs1
    obtain rfl := Option.some.inj hat
    obtain ⟨ie, _, hie, _, _, hsz, _⟩ := mkC_spec hte
    refine ⟨by rw [htd]; rfl, fun i => some (i * 1, 1), fun f i hf => by obtain rfl := Option.some.inj hf; rfl, fun it z hi hz parts => ?_⟩
    unfold Program.built
    simp only [hi, hu, hz, hie, hsz, hs1]
  · cases hat
theorem do_build (R : Rel g s a w) {t : TypeId} {ti : TI} {at_ : Nat → Option Nat} {cs : List DV} (hti : mkC P t = some ti) (hat : buildAt (mkC P) ti.td = some at_) (parts : Array (Nat × Operand)) (dst : Option Nat)
    (h : fillRow 1 at_ ti.zero ((parts.toList.map (·.1)).zip (rawSeq s (parts.toList.map (·.2)))) = some cs) (hall : cs.all DV.isCell = true) :
    Does P g (s.wrs (leftSeq s (parts.toList.map (·.2)) ++ wrDst dst (.ow (.agg cs)))) a w dst (Instr.build t (parts.map fun p => (p.1, a.eval p.2))) := by
  obtain ⟨it, z, hi, hz, hzs, hs1, _, hsz, _, hagg, _⟩ := mkC_spec hti
  obtain ⟨hA, place, hpl, hbuilt⟩ := build_place hti hat
  have hlen : (parts.toList.map (·.1)).length = (parts.toList.map (·.2)).length := by simp
  obtain ⟨g1, R1, S1⟩ := takeSeq (parts.toList.map (·.2)) g s 2 [] R.hold (by simp) (fun x hx => by
    obtain ⟨k, hk, rfl⟩ := List.getElem_of_mem hx
    have hk2 : k < (parts.toList.map (·.1)).length := by rw [hlen]; simpa [rawSeq_length] using hk
    exact fillRow_tup h ((parts.toList.map (·.1))[k], (rawSeq s (parts.toList.map (·.2)))[k]) (by
      rw [List.mem_iff_getElem]
      exact ⟨k, by simp [rawSeq_length] at hk hk2 ⊢; omega, by simp⟩))
  have hagg' : isAggV z = true := by rw [hagg, hA]
  obtain ⟨zs, rfl⟩ : ∃ zs, z = .agg zs := by cases z <;> first | exact ⟨_, rfl⟩ | simp [isAggV] at hagg'
  have hzero : Els g1 w [2, 1] zs 1 ti.zero := by
    obtain ⟨h1, h2, h3⟩ := zero_cells hzs hsz hagg
    have he : elemOf ti ti.zero = .agg ti.zero := by simp [elemOf, hA]
    rw [he] at h1 h2 h3
    simp only [DV.cells] at h1 h2 h3
    refine ⟨by rw [h1, Nat.mul_one]; exact hsz, fun i d hd => ?_, fun i d j e hd hj => ?_⟩
    · have hc := h2 d (List.mem_of_getElem? hd)
      rw [cells_of_isCell hc]
      exact ⟨rfl, by simpa using hc⟩
    · have hc := h2 d (List.mem_of_getElem? hd)
      rw [cells_of_isCell hc] at hj
      cases j with
      | succ j => simp at hj
      | zero =>
        simp at hj
        subst hj
        have := h3 g1 w ([2, 1] ++ [i, 0]) i d hd
        simpa [Value.cells] using this
  obtain ⟨g2, cur, h1, R2, E2, S2⟩ := fillSeq (w := w) 1 at_ place hpl _ _ g1 s _ 2 [] zs ti.zero cs hlen R1 (by omega) (by simp) hzero h
  -- the cells of the struct
  let φ : List Nat → Option (List Nat) := fun q => match q with
    | 2 :: k :: r => if k = 1 then (match r with
        | o :: 0 :: r' => some (2 :: 1 :: o :: r')
        | _ => none) else some (2 :: k :: r)
    | q => some q
  have hcs : cs.length = ti.zero.length := fillRow_length h
  have hcell : ∀ (j : Nat) (e : DV), cs[j]? = some e → e.isCell = true := fun j e he => List.all_eq_true.1 hall e (List.mem_of_getElem? he)
  have hO : ORel (g2.re φ) w [2, 1] (.agg cur) (.agg cs) := by
    refine .agg (by rw [E2.size, Nat.mul_one]) (fun e he => ?_) (fun j u e hu he => ?_)
    · obtain ⟨j, hj, rfl⟩ := List.getElem_of_mem he
      exact hcell j _ (List.getElem?_eq_getElem hj)
    · have hc := hcell j e he
      have := E2.rel j e 0 e he (by rw [cells_of_isCell hc]; rfl)
      have hu' : cur.getD (j * 1 + 0) undef = u := by
        rw [Nat.mul_one, Nat.add_zero, Array.getD_eq_getD_getElem?, hu]; rfl
      rw [hu'] at this
      exact this.re fun q => by simp [φ]
  have RH : RelH (g2.re φ) (s.wrs (leftSeq s (parts.toList.map (·.2)))) a w [(1, .agg cur, .ow (.agg cs))] :=
    ⟨R2.toRel.re' φ (fun _ _ => rfl) (fun _ _ => rfl), fun k v x hm => by simp at hm; obtain ⟨rfl, rfl, rfl⟩ := hm; exact .ow hO⟩
  obtain ⟨ψ, R3⟩ := RH.put (by simp) dst
  refine ⟨.agg cur, w, _, ?_, by rw [wrs_append]; exact R3.toRel, ((S1.trans S2).trans (Stp.re _ _ φ)).trans (Stp.re _ _ ψ)⟩
  refine run_build w t _ cur ?_
  rw [hbuilt it _ hi hz, parts_split]
  simp only [Value.cells]
  exact h1

/-- A row that stands at 1 becomes a block of its own, and goes into a slot. -/
theorem RelH.newRow (R : RelH g s a w H) (hH : ∀ y ∈ H, y.1 ≠ 1) (cur : Array Value) (T : TypeId) (sz c : Nat) (es : List DV) (hsz : 0 < sz) (pre : Array Value) (hpre : cur.size = c * sz) (hc : es.length ≤ c) (hm : c ≤ maxLen)
    (hE : Els g w [2, 1] pre sz es) (hcur : ∀ n, n < pre.size → cur.getD n undef = pre.getD n undef) (dst : Option Nat) :
    ∃ g', RelH g' (s.wrs (wrDst dst (.ow (.sl sz es)))) (a.put dst (.slice (some ⟨w.heap.size, 0, none⟩) es.length c)) (w.alloc (.cells cur T)) H ∧ Stp g w g' (w.alloc (.cells cur T)) := by
  let g1 := g.new w.heap.size [2, 1] (es.length * sz)
  have E1 := hE.new R.toSane (.cells cur T) [2, 1] (es.length * sz)
  have hO : ORel g1 (w.alloc (.cells cur T)) [2, 1] (.slice (some ⟨w.heap.size, 0, none⟩) es.length c) (.sl sz es) := by
    refine .sl (by simp [g1, Gh.new]) (heap_alloc_new w _) rfl hc hm hpre hsz (by simp [g1, Gh.new]) E1.len (fun i d j e hi hj => ?_)
    have hlt : i * sz + j < pre.size := by
      have h1 := (List.getElem?_eq_some_iff.1 hi).1
      have h2 : j < sz := by rw [← (hE.len i d hi).1]; exact (List.getElem?_eq_some_iff.1 hj).1
      have : (i + 1) * sz ≤ es.length * sz := Nat.mul_le_mul_right _ (by omega)
      rw [Nat.add_mul] at this
      rw [hE.size]; omega
    rw [hcur _ hlt]
    exact E1.rel i d j e hi hj
  have R1 : RelH g1 s a (w.alloc (.cells cur T)) ((1, .slice (some ⟨w.heap.size, 0, none⟩) es.length c, .ow (.sl sz es)) :: H) := by
    refine ⟨R.toRel.new (.cells cur T) [2, 1] (es.length * sz), fun k v x hk => ?_⟩
    rcases List.mem_cons.1 hk with hk | hk
    · injection hk with e1 e2
      injection e2 with e2 e3
      subst e1 e2 e3
      exact .ow hO
    · exact (R.held k v x hk).new R.toSane _ _ _
  obtain ⟨ψ, R2⟩ := R1.put hH dst
  exact ⟨_, R2, (Stp.new R.toSane (.cells cur T) [2, 1] (es.length * sz)).trans (Stp.re _ _ ψ)⟩

theorem do_buildSlice (R : Rel g s a w) {t e : TypeId} {ti te : TI} {es : List DV} {n : Nat} (hti : mkC P t = some ti) (htd : ti.td = .slice e) (hte : mkC P e = some te) (parts : Array (Nat × Operand)) (dst : Option Nat) (hsmall : n * te.size ≤ 16777216) (hpos : 0 < te.size)
    (h : fillRow te.size some (List.replicate n (elemOf te te.zero)) ((parts.toList.map (·.1)).zip (rawSeq s (parts.toList.map (·.2)))) = some es) :
    Does P g (s.wrs (leftSeq s (parts.toList.map (·.2)) ++ wrDst dst (.ow (.sl te.size es)))) a w dst (Instr.buildSlice t n (parts.map fun p => (p.1, a.eval p.2))) := by
  obtain ⟨it, z, hi, hz, hzs, hs1, _, hsz, _, hagg, _⟩ := mkC_spec hte
  have hu := mkC_td hti
  rw [htd] at hu
  simp only [tdOk] at hu
  have hlen : (parts.toList.map (·.1)).length = (parts.toList.map (·.2)).length := by simp
  obtain ⟨g1, R1, S1⟩ := takeSeq (parts.toList.map (·.2)) g s 2 [] R.hold (by simp) (fun x hx => by
    obtain ⟨k, hk, rfl⟩ := List.getElem_of_mem hx
    have hk2 : k < (parts.toList.map (·.1)).length := by rw [hlen]; simpa [rawSeq_length] using hk
    exact fillRow_tup h ((parts.toList.map (·.1))[k], (rawSeq s (parts.toList.map (·.2)))[k]) (by
      rw [List.mem_iff_getElem]
      exact ⟨k, by simp [rawSeq_length] at hk hk2 ⊢; omega, by simp⟩))
  have hzero := zero_els hzs hsz hagg hpos g1 w [2, 1] n
  obtain ⟨g2, cur, h1, R2, E2, S2⟩ := fillSeq (w := w) te.size some (fun i => some (i * te.size, te.size)) (fun f i hf => by obtain rfl := Option.some.inj hf; rfl) _ _ g1 s _ 2 [] _ _ es hlen R1 (by omega) (by simp) hzero h
  have hes : es.length = n := by rw [fillRow_length h]; simp
  have hn : n ≤ 16777216 := Nat.le_trans (Nat.le_mul_of_pos_right n hpos) hsmall
  obtain ⟨g3, R3, S3⟩ := R2.newRow (by simp) cur e te.size n es hpos cur (by rw [E2.size, hes]) (by omega) (by simp only [maxLen]; omega) E2 (fun _ _ => rfl) dst
  rw [hes] at R3
  refine ⟨_, _, g3, ?_, by rw [wrs_append]; exact R3.toRel, (S1.trans S2).trans S3⟩
  have fin : ∀ zc : Array Value, (Array.range (n * te.size)).map (zc[· % zc.size]!) = madeCells z.cells (n * te.size) → (match Instr.fill (fun i => some (i * te.size, te.size)) ((Array.range (n * te.size)).map fun x => zc[x % zc.size]!) (parts.map fun p => (p.1, a.eval p.2)).toList with
      | some cells => do
        let b ← newRow e cells
        pure (Value.slice (some b) n n)
      | x => stuck "buildSlice: a part of the wrong size" : Sem Value).run P w = .ok (.slice (some ⟨w.heap.size, 0, none⟩) n n) (w.alloc (.cells cur e)) := by
    intro zc hzc
    rw [hzc, parts_split, h1]
    simp [newRow, pure]
  unfold Instr.buildSlice
  simp only [Sem.run_bind, run_underlying hu, Result.andThen_ok, run_size hte]
  rw [if_neg (by omega)]
  split
  · rename_i h0
    exact fin #[] (by rw [h0]; simp [madeCells])
  · have hz0 : (zeroValue e).run P w = .ok z w := by simp [zeroValue, typeInfo, hi, hz, pure]
    simp only [Sem.run_bind, hz0, Result.andThen_ok, Sem.run_pure]
    exact fin z.cells rfl

end
end Go.Vi
