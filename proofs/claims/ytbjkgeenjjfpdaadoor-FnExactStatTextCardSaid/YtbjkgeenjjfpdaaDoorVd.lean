/- Operations that only compute: the machine's answer is what the pure step says, and memory stands. -/
import Derived.Test.YtbjkgeenjjfpdaaDoorVc
import Derived.Deep.MidRow
import Derived.Laws.StructEq
import Derived.Laws.BytesArg
set_option linter.all false
set_option autoImplicit true
namespace Go.Vi
open Go Go.RowKit
variable [Bnd]

def ZeroOk (z : Value) (ds : List DV) : Prop := z.cells.size = ds.length ∧ ∀ (i : Nat) (e : DV), ds[i]? = some e → e.isCell = true ∧ ∀ (g : Gh) (w : World) (p : List Nat), ORel g w p (z.cells.getD i undef) e
theorem mkC_spec {P : Program} {t : TypeId} {ti : TI} (h : mkC P t = some ti) : ∃ i z, P.info? t = some i ∧ i.zero = some z ∧ ZeroOk z ti.zero ∧
    i.size = ti.size ∧ i.bytes = ti.bytes ∧ z.cells.size = ti.size ∧ tdOf P t = some ti.td ∧ isAggV z = ti.td.isAgg ∧ (P.underlying t).isSome ∧ ti.eq = eqOk P t := by
  unfold mkC at h
  split at h <;> try cases h
  split at h <;> try cases h
  split at h <;> try cases h
  rename_i i td hi htd _ z hz _ ds hds
  split at h <;> try cases h
  rename_i hc
  obtain ⟨hs1, hs2⟩ := scalars_get hds
  refine ⟨i, z, hi, hz, ⟨by simpa using hs1, fun i e he => ⟨(hs2 i e he).1, fun g w p => by
    have := (hs2 i e he).2 g w p
    simpa [List.getD_eq_getElem?_getD] using this⟩⟩, rfl, rfl, hc.1, htd, hc.2, ?_, rfl⟩
  unfold tdOf at htd
  cases hu : P.underlying t with
  | none => simp [hu] at htd
  | some d => rfl
def tdOk (P : Program) (t : TypeId) : TD → Prop
    | .int k => P.underlying t = some (.int k)
    | .bool => P.underlying t = some .bool
    | .str => P.underlying t = some .string
    | .slice e => P.underlying t = some (.slice e)
    | .array n e => P.underlying t = some (.array n e)
    | .struct offs => ∃ fs, P.underlying t = some (.struct fs) ∧ fs.toList.mapM (fun f => (P.info? f.type).map fun i => (f.offset, i.size)) = some offs
    | .other => ∀ d, P.underlying t = some d → d.isRow = false
theorem tdOf_ok {P : Program} {t : TypeId} {td : TD} (h : tdOf P t = some td) : tdOk P t td := by
  unfold tdOf at h
  cases hu : P.underlying t with
  | none => simp [hu] at h
  | some d =>
    cases d <;> simp only [hu] at h <;> first | (obtain rfl := Option.some.inj h; simp [tdOk, hu]; done) | skip
    obtain ⟨offs, ho, rfl⟩ := Option.map_eq_some_iff.1 h
    exact ⟨_, hu, ho⟩
theorem mkC_td {P : Program} {t : TypeId} {ti : TI} (h : mkC P t = some ti) : tdOk P t ti.td := by
  obtain ⟨i, z, _, _, _, _, _, _, h7, _⟩ := mkC_spec h
  exact tdOf_ok h7

theorem ba_loop (bs : ByteArray) : ∀ (n i : Nat) (r : List UInt8), bs.size - i = n → ByteArray.toList.loop bs i r = r.reverse ++ bs.data.toList.drop i := by
  intro n
  induction n with
  | zero =>
    intro i r h
    unfold ByteArray.toList.loop
    rw [if_neg (by omega), List.drop_eq_nil_of_le (by simp; exact Nat.le_of_sub_eq_zero h)]
    simp
  | succ n ih =>
    intro i r h
    unfold ByteArray.toList.loop
    have hlt : i < bs.size := by omega
    rw [if_pos hlt, ih (i + 1) _ (by omega)]
    have hl : i < bs.data.toList.length := by simpa using hlt
    rw [List.drop_eq_getElem_cons hl]
    simp only [List.reverse_cons, List.append_assoc, List.singleton_append]
    congr 2
    simp [ByteArray.get!, getElem!_pos, hlt]
theorem ba_toList (bs : ByteArray) : bs.toList = bs.data.toList := by
  unfold ByteArray.toList
  rw [ba_loop bs _ 0 [] rfl]; simp

section
variable {P : Program} {g : Gh} {s : St} {a : Act} {w : World}

theorem isScalarTy_spec {t : TypeId} (h : isScalarTy P t = true) : (∃ k, P.underlying t = some (.int k)) ∨ P.underlying t = some .bool ∨ P.underlying t = some .string := by
  unfold isScalarTy at h
  split at h <;> first | cases h; done | skip
  · rename_i k hk; exact .inl ⟨k, hk⟩
  · rename_i hk; exact .inr (.inl hk)
  · rename_i hk; exact .inr (.inr hk)

theorem run_part {t : TypeId} (h : isScalarTy P t = true) {cs : Array Value} {off : Nat} {v : Value} (hv : cs[off]? = some v) : (part t cs off).run P w = .ok v w := by
  have : (isAgg t).run P w = .ok false w := by
    unfold isAgg
    rcases isScalarTy_spec h with ⟨k, h⟩ | h | h <;> rw [Sem.run_bind, run_underlying h w] <;> simp [pure]
  simp [part, Sem.run_bind, this, hv, pure]

theorem run_eqFields {K : Nat → Nat → Prop} {xs ys : Array Value} (d : Nat) : ∀ (fs : List Field) (as bs : List DV) (k : Nat) (r : Bool),
    (∀ i f, fs[i]? = some f → f.offset = k + i ∧ (f.name != "_") = true ∧ isScalarTy P f.type = true) →
    (∀ i e, as[i]? = some e → ∃ u, xs[k + i]? = some u ∧ SRel K w u e) → (∀ i e, bs[i]? = some e → ∃ u, ys[k + i]? = some u ∧ SRel K w u e) →
    eqCells (fs.map fun f => (tdOf P f.type).getD .other) as bs = some r → (Op.eqFields (d + 1) xs ys fs).run P w = .ok r w := by
  intro fs
  induction fs with
  | nil =>
    intro as bs k r _ _ _ h
    cases as <;> cases bs <;> simp [eqCells] at h
    subst h
    simp [Op.eqFields, pure]
  | cons f fs ih =>
    intro as bs k r hf ha hb h
    obtain ⟨ho, hn, ht⟩ := hf 0 f rfl
    cases as with
    | nil => simp [eqCells] at h
    | cons x as =>
    cases bs with
    | nil => simp [eqCells] at h
    | cons y bs =>
      obtain ⟨u, hu, hru⟩ := ha 0 x rfl
      obtain ⟨v, hv, hrv⟩ := hb 0 y rfl
      simp only [Nat.add_zero] at ho hu hv
      have step : ∀ (r1 r2 : Bool), (Op.equalIn (d + 1) f.type u v).run P w = .ok r1 w → eqCells (fs.map fun f => (tdOf P f.type).getD .other) as bs = some r2 → r = (r1 && r2) → (Op.eqFields (d + 1) xs ys (f :: fs)).run P w = .ok r w := by
        intro r1 r2 h1 h2 h3
        have hrest := ih as bs (k + 1) r2 (fun i f' hi => by have := hf (i + 1) f' (by simpa using hi); rw [← Nat.add_assoc, Nat.add_right_comm] at this; exact this)
          (fun i e hi => by have := ha (i + 1) e (by simpa using hi); rwa [← Nat.add_assoc, Nat.add_right_comm] at this)
          (fun i e hi => by have := hb (i + 1) e (by simpa using hi); rwa [← Nat.add_assoc, Nat.add_right_comm] at this) h2
        have hn' : f.name ≠ "_" := by simpa using hn
        rw [Op.eqFields]
        simp only [if_pos hn', Sem.run_bind, run_part ht (show xs[f.offset]? = some u by rw [ho]; exact hu), run_part ht (show ys[f.offset]? = some v by rw [ho]; exact hv), h1, Result.andThen_ok]
        cases r1
        · simp [h3, pure]
        · simpa [h3] using hrest
      rcases isScalarTy_spec ht with ⟨kk, h'⟩ | h' | h'
      · have htd : (tdOf P f.type).getD .other = .int kk := by simp [tdOf, h']
        simp only [List.map_cons, htd] at h
        cases x <;> cases y <;> simp only [eqCells] at h <;> first | cases h; done | skip
        split at h <;> first | cases h; done | skip
        rename_i hkk
        subst hkk
        obtain ⟨r2, h2, rfl⟩ := Option.map_eq_some_iff.1 h
        obtain rfl := hru.inv_int
        obtain rfl := hrv.inv_int
        exact step _ r2 (run_equalIn_int _ d f.type _ kk _ _ h') h2 rfl
      · have htd : (tdOf P f.type).getD .other = .bool := by simp [tdOf, h']
        simp only [List.map_cons, htd] at h
        cases x <;> cases y <;> simp only [eqCells] at h <;> first | cases h; done | skip
        obtain ⟨r2, h2, rfl⟩ := Option.map_eq_some_iff.1 h
        obtain rfl := hru.inv_bool
        obtain rfl := hrv.inv_bool
        exact step _ r2 (run_equalIn_bool' _ d f.type _ _ h') h2 rfl
      · have htd : (tdOf P f.type).getD .other = .str := by simp [tdOf, h']
        simp only [List.map_cons, htd] at h
        cases x <;> cases y <;> simp only [eqCells] at h <;> first | cases h; done | skip
        obtain ⟨r2, h2, rfl⟩ := Option.map_eq_some_iff.1 h
        obtain rfl := hru.inv_str
        obtain rfl := hrv.inv_str
        exact step _ r2 (by rw [run_equalIn_string _ d f.type _ _ h', ba_toList, ba_toList]) h2 rfl

theorem getElem?_of_toList {α : Type} {xs : Array α} {i : Nat} {x : α} (h : xs.toList[i]? = some x) : xs[i]? = some x := by simpa using h

theorem run_eqAgg {K : Nat → Nat → Prop} {d : Nat} {t : TypeId} {ti : TI} (ht : mkC P t = some ti) (hne : ti.eq.isEmpty = false) {u v : Value} {as bs : List DV} {r : Bool} (ha : SRel K w u (.agg as)) (hb : SRel K w v (.agg bs))
    (h : eqCells ti.eq as bs = some r) : (Op.equalIn (d + 2) t u v).run P w = .ok r w ∧ P.eqGuardType P.depth t = false := by
  obtain ⟨xs, rfl, hxs, _, hx⟩ := ha.inv_agg
  obtain ⟨ys, rfl, hys, _, hy⟩ := hb.inv_agg
  have heq : ti.eq = eqOk P t := by
    obtain ⟨_, _, _, _, _, _, _, _, _, _, _, he⟩ := mkC_spec ht
    exact he
  rw [heq] at h hne
  unfold eqOk at h hne
  split at h
  case h_2 => simp_all
  rename_i fs hfs
  split at h
  case isFalse => simp_all
  rename_i hok
  simp only [Bool.and_eq_true, Bool.not_eq_true', List.all_eq_true, beq_iff_eq] at hok
  obtain ⟨⟨h1, h2⟩, h3⟩ := hok
  have hoff : ∀ i f, fs.toList[i]? = some f → f.offset = 0 + i ∧ (f.name != "_") = true ∧ isScalarTy P f.type = true := by
    intro i f hi
    have hm := h2 f (List.mem_of_getElem? hi)
    have ho := congrArg (·[i]?) h3
    simp only [List.getElem?_map, hi, Option.map_some] at ho
    have hlt : i < fs.size := by simpa using (List.getElem?_eq_some_iff.1 hi).1
    rw [List.getElem?_range hlt] at ho
    injection ho with ho
    exact ⟨by omega, hm.1, hm.2⟩
  constructor
  · rw [run_equalIn_struct (P := P) w (d + 1) t xs ys (by simp [Program.fieldsOf, hfs]) h1]
    have : P.fieldsOf t = fs := by simp [Program.fieldsOf, hfs]
    rw [this]
    refine run_eqFields (K := K) d fs.toList as bs 0 r hoff (fun i e hi => ?_) (fun i e hi => ?_) h
    · have hlt : i < xs.size := by rw [hxs]; exact (List.getElem?_eq_some_iff.1 hi).1
      exact ⟨xs[i], by simp [hlt], hx i _ e (Array.getElem?_eq_getElem hlt) hi⟩
    · have hlt : i < ys.size := by rw [hys]; exact (List.getElem?_eq_some_iff.1 hi).1
      exact ⟨ys[i], by simp [hlt], hy i _ e (Array.getElem?_eq_getElem hlt) hi⟩
  · obtain ⟨n, hn⟩ : ∃ n, P.depth = n + 2 := ⟨2 * (P.types.size + Made.depth), by simp [Program.depth]⟩
    rw [hn, Program.eqGuardType, hfs]
    simp only [Array.any_eq_false']
    intro f hf
    have hsc := (h2 f (by simpa using hf)).2
    simp only [Bool.and_eq_true, not_and, Bool.not_eq_true]
    intro _
    rw [Program.eqGuardType]
    rcases isScalarTy_spec hsc with ⟨k, h'⟩ | h' | h' <;> simp [h']

/-- What an operation that only computes has done. -/
def Yld (P : Program) (g : Gh) (w : World) (x : Sem Value) (z : AV) : Prop := ∃ v, x.run P w = .ok v w ∧ ∀ p, ARel g w p v z

theorem Yld.flat {x : Sem Value} {z : AV} {v : Value} (h : x.run P w = .ok v w) (hz : ARel g w [] v z) (hf : z.flat = true) : Yld P g w x z := ⟨v, h, fun p => hz.flat hf p⟩

theorem yld_bin {op : BinOp} {t : TypeId} {X Y : Operand} {x y : Value} {ax ay z : AV} {p q : List Nat} (hx : ARel g w p x ax) (hy : ARel g w q y ay) (h : binAV (mkC P) op t ax ay = some z) :
    Yld P g w (do eqGuard op t X Y x y; binOp op t x y) z := by
  unfold binAV at h
  split at h
  · rename_i k m k' n
    have e1 := hx.inv_sh.inv_int
    have e2 := hy.inv_sh.inv_int
    subst e1 e2
    have hg : ∀ w, (eqGuard op t X Y (.int k m) (.int k' n)).run P w = .ok () w := by intro w; unfold eqGuard; cases op <;> simp [pure]
    obtain ⟨d, hd, rfl⟩ := Option.map_eq_some_iff.1 h
    have : ∃ v, (binOp op t (.int k m) (.int k' n)).run P w = .ok v w ∧ SRel g.K w v d := by
      cases op <;> simp only [shiftInt, binInt] at hd
      all_goals split at hd
      all_goals try (cases hd; done)
      case shl => 
        rename_i hn
        obtain rfl := Option.some.inj hd
        exact ⟨_, by simp [binOp, Op.shift, hn, pure], .int _ _⟩
      case shr =>
        rename_i hn
        obtain rfl := Option.some.inj hd
        exact ⟨_, by simp [binOp, Op.shift, hn, pure], .int _ _⟩
      case quo =>
        rename_i hk; subst hk
        split at hd <;> try cases hd
        rename_i hn
        exact ⟨_, by simp [binOp, Op.intDiv, hn, pure], .int _ _⟩
      case rem =>
        rename_i hk; subst hk
        split at hd <;> try cases hd
        rename_i hn
        exact ⟨_, by simp [binOp, Op.intDiv, hn, pure], .int _ _⟩
      all_goals rename_i hk; subst hk; obtain rfl := Option.some.inj hd
      all_goals first
        | (refine ⟨_, ?_, .int _ _⟩; simp [binOp, Op.intArith, pure]; done)
        | (refine ⟨_, ?_, .bool _⟩; simp [binOp, Op.intCmp, pure]; done)
    obtain ⟨v, hv, hr⟩ := this
    exact .flat (v := v) (by rw [Sem.run_bind, hg]; exact hv) (.sh _ hr) rfl
  · rename_i l m
    have e1 := hx.inv_sh.inv_str
    have e2 := hy.inv_sh.inv_str
    subst e1 e2
    have hg : ∀ w, (eqGuard op t X Y (.string ⟨⟨l⟩⟩) (.string ⟨⟨m⟩⟩)).run P w = .ok () w := by intro w; unfold eqGuard; cases op <;> simp [pure]
    obtain ⟨d, hd, rfl⟩ := Option.map_eq_some_iff.1 h
    have hl : ∀ l : List UInt8, (⟨⟨l⟩⟩ : ByteArray).toList = l := by
      intro l; exact ba_toList _
    have : ∃ v, (binOp op t (.string ⟨⟨l⟩⟩) (.string ⟨⟨m⟩⟩)).run P w = .ok v w ∧ SRel g.K w v d := by
      cases op <;> simp only [binStr] at hd
      case add =>
        split at hd <;> try cases hd
        rename_i hn
        refine ⟨.string ⟨⟨l ++ m⟩⟩, ?_, .str _⟩
        have hsz : ((⟨⟨l⟩⟩ : ByteArray).size + (⟨⟨m⟩⟩ : ByteArray).size : Nat) = l.length + m.length := rfl
        have hap : (⟨⟨l⟩⟩ : ByteArray) ++ (⟨⟨m⟩⟩ : ByteArray) = ⟨⟨l ++ m⟩⟩ := by
          apply ByteArray.ext
          simp
        have hmax : ¬ ((l.length + m.length : Nat) : Int) > IntKind.i64.max := by
          simp only [IntKind.max, IntKind.signed, IntKind.bits]
          omega
        simp only [binOp, Op.stringOp, hsz, if_neg hmax, hap]
        rfl
      all_goals try cases hd
      all_goals (refine ⟨_, ?_, .bool _⟩; simp [binOp, Op.stringOp, hl, pure, bytesLess]; done)
    obtain ⟨v, hv, hr⟩ := this
    exact .flat (v := v) (by rw [Sem.run_bind, hg]; exact hv) (.sh _ hr) rfl
  · rename_i l m
    have e1 := hx.inv_sh.inv_bool
    have e2 := hy.inv_sh.inv_bool
    subst e1 e2
    have hg : ∀ w, (eqGuard op t X Y (.bool l) (.bool m)).run P w = .ok () w := by intro w; unfold eqGuard; cases op <;> simp [pure]
    split at h
    · rename_i hti
      have hu := mkC_td hti
      simp only [tdOk] at hu
      obtain rfl := Option.some.inj h
      exact .flat (v := .bool (l == m)) (by rw [Sem.run_bind, hg]; simp only [binOp, Result.andThen_ok, Sem.run_bind, Op.equal]; rw [show Op.maxDepth = 9999 + 1 from rfl, run_equalIn_bool' _ _ t l m hu]; simp [pure]) (.sh _ (.bool _)) rfl
    · rename_i hti
      have hu := mkC_td hti
      simp only [tdOk] at hu
      obtain rfl := Option.some.inj h
      exact .flat (v := .bool (!(l == m))) (by rw [Sem.run_bind, hg]; simp only [binOp, Result.andThen_ok, Sem.run_bind, Op.equal]; rw [show Op.maxDepth = 9999 + 1 from rfl, run_equalIn_bool' _ _ t l m hu]; simp [pure]) (.sh _ (.bool _)) rfl
    · cases h
  · rename_i l m
    have ha := hx.inv_sh
    have hb := hy.inv_sh
    obtain ⟨us, rfl, _⟩ := ha.inv_agg
    obtain ⟨vs, rfl, _⟩ := hb.inv_agg
    split at h
    · rename_i ti hti
      split at h
      · cases h
      rename_i hne
      obtain ⟨r, hr, rfl⟩ := Option.map_eq_some_iff.1 h
      obtain ⟨h1, h2⟩ := run_eqAgg (d := 9998) hti (by simpa using hne) ha hb hr
      have hg : (eqGuard .eql t X Y (.agg us) (.agg vs)).run P w = .ok () w := by simp [eqGuard, program, Sem.run, h2, pure]
      exact .flat (v := .bool r) (by rw [Sem.run_bind, hg]; simp only [Result.andThen_ok, run_eql_struct]; rw [show (10000 : Nat) = 9998 + 2 from rfl, h1]; rfl) (.sh _ (.bool _)) rfl
    · rename_i ti hti
      split at h
      · cases h
      rename_i hne
      obtain ⟨r, hr, rfl⟩ := Option.map_eq_some_iff.1 h
      obtain ⟨h1, h2⟩ := run_eqAgg (d := 9998) hti (by simpa using hne) ha hb hr
      have hg : (eqGuard .neq t X Y (.agg us) (.agg vs)).run P w = .ok () w := by simp [eqGuard, program, Sem.run, h2, pure]
      exact .flat (v := .bool (!r)) (by rw [Sem.run_bind, hg]; simp only [Result.andThen_ok, run_neq_struct]; rw [show (10000 : Nat) = 9998 + 2 from rfl, h1]; rfl) (.sh _ (.bool _)) rfl
    · cases h
  · cases h

theorem yld_un {op : UnOp} {x : Value} {ax z : AV} {p : List Nat} (hx : ARel g w p x ax) (h : unAV op ax = some z) : Yld P g w (Op.unary op x) z := by
  unfold unAV at h
  split at h
  · obtain rfl := hx.inv_sh.inv_bool
    cases op <;> simp only at h <;> first | cases h; done | skip
    obtain rfl := Option.some.inj h
    exact .flat (by simp [Op.unary, pure]) (.sh _ (.bool _)) rfl
  · obtain rfl := hx.inv_sh.inv_int
    cases op <;> simp only at h <;> first | cases h; done | skip
    obtain rfl := Option.some.inj h
    exact .flat (by simp [Op.unary, Op.intArith, pure]) (.sh _ (.int _ _)) rfl
  · cases h

theorem yld_len {t ty : TypeId} {x : Value} {ax z : AV} {p : List Nat} (hx : ARel g w p x ax) (h : lenAV (mkC P) t ax = some z) : Yld P g w (Builtin.len_ #[t] ty #[x]) z := by
  unfold lenAV at h
  split at h
  · rename_i hti
    have hu := mkC_td hti
    simp only [tdOk] at hu
    obtain rfl := Option.some.inj h
    obtain ⟨A, c, us, b, o, sz, rfl, _⟩ := hx.inv_sh.inv_sl
    exact .flat (by simp [Builtin.len_, run_underlying hu, goInt, pure]) (.sh _ (.int _ _)) rfl
  · rename_i hti
    have hu := mkC_td hti
    simp only [tdOk] at hu
    obtain rfl := Option.some.inj h
    obtain rfl := hx.inv_sh.inv_str
    exact .flat (by simp [Builtin.len_, run_underlying hu, goInt, pure]; rfl) (.sh _ (.int _ _)) rfl
  · rename_i hti
    have hu := mkC_td hti
    simp only [tdOk] at hu
    obtain rfl := Option.some.inj h
    obtain ⟨_, rfl, _⟩ := hx.inv_os
    exact .flat (by simp [Builtin.len_, run_underlying hu, goInt, pure]) (.sh _ (.int _ _)) rfl
  · rename_i hti
    have hu := mkC_td hti
    simp only [tdOk] at hu
    obtain rfl := Option.some.inj h
    obtain ⟨_, rfl⟩ := hx.inv_ptr
    exact .flat (by simp [Builtin.len_, run_underlying hu, goInt, pure]) (.sh _ (.int _ _)) rfl
  · cases h

theorem ba_size (l : List UInt8) : (⟨⟨l⟩⟩ : ByteArray).size = l.length := rfl
theorem ba_extract (l : List UInt8) (i j : Nat) : (⟨⟨l⟩⟩ : ByteArray).extract i j = ⟨⟨(l.take j).drop i⟩⟩ := by
  apply ByteArray.ext
  rw [ByteArray.data_extract]
  apply Array.ext'
  simp [List.drop_take, List.extract_eq_take_drop]

theorem get_sub {xs : List DV} {l h i : Nat} {d : DV} (hi : ((xs.take h).drop l)[i]? = some d) : xs[l + i]? = some d := by
  rw [List.getElem?_drop, List.getElem?_take] at hi
  split at hi
  · exact hi
  · cases hi

theorem SRel.sub {K : Nat → Nat → Prop} {A : Option Addr} {n c l h m sz : Nat} {ex : Nat} {xs : List DV} (hr : SRel K w (.slice A n c) (.sl ex xs)) (hl : l ≤ h) (hh : h ≤ n) (hm : h ≤ m)
    (hsz : ∀ d ∈ xs, d.cells.length = sz) : SRel K w (.slice (if m = l then A else A.map (·.add (l * sz))) (h - l) (m - l)) (.sl ex ((xs.take h).drop l)) := by
  cases hr with
  | sl us b o sz' hn hc hA hd hcell hrr =>
    have hlen : ((xs.take h).drop l).length = h - l := by simp; omega
    refine .sl (fun i j => us (l + i) j) b (o + l * sz) sz hlen (by omega) (fun hp => ?_) (fun i d hi => ?_) (fun i d j e hi hj => ?_) (fun i d j e hi hj => hrr _ d j e (get_sub hi) hj)
    · rw [if_neg (by omega), hA (by omega)]
      simp [Addr.add_mid]
    · have h1 := get_sub hi
      exact ⟨hsz d (List.mem_of_getElem? h1), (hd _ d h1).2⟩
    · have h1 := get_sub hi
      have h2 := hcell _ d j e h1 hj
      have h3 : sz' = sz := (hd _ d h1).1.symm.trans (hsz d (List.mem_of_getElem? h1))
      subst h3
      rw [Nat.add_mul, ← Nat.add_assoc] at h2
      exact h2

theorem run_bound {k : IntKind} {n : Int} {y : Nat} {code : BoundsCode} (h0 : 0 ≤ n) (h1 : n ≤ y) : (Instr.sliceBound (.int k n) y code).run P w = .ok n.toNat w := by
  simp [Instr.sliceBound, asIntOf, pure, h0, h1]

theorem SRel.isInt {K : Nat → Nat → Prop} {v : Value} {k : IntKind} {n : Int} (h : SRel K w v (.int k n)) : v = .int k n := h.inv_int

/-- The bounds of a cut: what is written, or 0 and the length. -/
theorem run_bounds (sl : Bool) {len cap : Nat} {lo hi : Option Value} {l h : Int} (hl : match lo with | some v => ∃ k, v = .int k l | none => l = 0) (hh : match hi with | some v => ∃ k, v = .int k h | none => h = len)
    (h0 : 0 ≤ l) (h1 : l ≤ h) (h2 : h ≤ len) (hc : len ≤ cap) : (Instr.sliceBounds sl len cap lo hi none).run P w = .ok (l.toNat, h.toNat, cap) w := by
  cases lo with
  | none =>
    subst hl
    cases hi with
    | none => subst hh; simp [Instr.sliceBounds, pure]
    | some v =>
      obtain ⟨k, rfl⟩ := hh
      simp [Instr.sliceBounds, pure, run_bound (P := P) (w := w) (k := k) (show 0 ≤ h by omega) (show h ≤ (cap : Int) by omega)]
  | some u =>
    obtain ⟨k', rfl⟩ := hl
    cases hi with
    | none =>
      subst hh
      simp [Instr.sliceBounds, pure, run_bound (P := P) (w := w) (k := k') h0 h1]
    | some v =>
      obtain ⟨k, rfl⟩ := hh
      have : l ≤ ((h.toNat : Nat) : Int) := by omega
      simp [Instr.sliceBounds, pure, run_bound (P := P) (w := w) (k := k) (show 0 ≤ h by omega) (show h ≤ (cap : Int) by omega), run_bound (P := P) (w := w) (k := k') h0 this]

theorem yld_slice {t : TypeId} {x : Value} {ax al ah z : AV} {p : List Nat} {lo hi : Option Value} (hx : ARel g w p x ax)
    (hl : match lo with | some v => ∃ q, ARel g w q v al | none => al = .sh (.int .i64 0)) (hh : match hi with | some v => ∃ q, ARel g w q v ah | none => ah = lenInt ax)
    (h : sliceAV (mkC P) t ax al ah = some z) : Yld P g w (Instr.sliceAt t x lo hi none) z := by
  unfold sliceAV at h
  split at h
  · rename_i e sz by_ ze eq ex xs kl l kh hv hti
    have hu := mkC_td hti
    simp only [tdOk] at hu
    split at h
    case h_2 => cases h
    rename_i ti hti2
    split at h
    case isFalse => cases h
    rename_i hcond
    obtain ⟨h0, h1, h2, h3⟩ := hcond
    obtain rfl := Option.some.inj h
    have hsz : ∀ d ∈ xs, d.cells.length = ti.size := by
      intro d hd
      have := List.all_eq_true.1 h3 d hd
      simpa using this
    obtain ⟨A, c, us, b, o, sz', rfl, hc, _⟩ := hx.inv_sh.inv_sl
    have hb := run_bounds (P := P) (w := w) true (len := xs.length) (cap := c) (lo := lo) (hi := hi) (l := l) (h := hv)
      (by cases lo with
        | none => simp only at hl; injection hl with hl; injection hl with _ hl
        | some v => obtain ⟨q, hq⟩ := hl; exact ⟨kl, hq.inv_sh.inv_int⟩)
      (by cases hi with
        | none => simp only [lenInt] at hh; injection hh with hh; injection hh with _ hh
        | some v => obtain ⟨q, hq⟩ := hh; exact ⟨kh, hq.inv_sh.inv_int⟩) h0 h1 h2 hc
    obtain ⟨i, zz, hi1, _, _, hi2, _⟩ := mkC_spec hti2
    have hrel := hx.inv_sh.sub (l := l.toNat) (h := hv.toNat) (m := c) (by omega) (by omega) (by omega) hsz
    refine .flat ?_ (.sh _ hrel) rfl
    simp [Instr.sliceAt, Instr.slice, run_underlying hu, hb, sizeOf, typeInfo, program, Sem.run, hi1, hi2, pure]
  · rename_i sz by_ ze eq xs kl l kh hv hti
    have hu := mkC_td hti
    simp only [tdOk] at hu
    split at h
    case isFalse => cases h
    rename_i hcond
    obtain ⟨h0, h1, h2⟩ := hcond
    obtain rfl := Option.some.inj h
    obtain rfl := hx.inv_sh.inv_str
    have hb := run_bounds (P := P) (w := w) false (len := xs.length) (cap := xs.length) (lo := lo) (hi := hi) (l := l) (h := hv)
      (by cases lo with
        | none => simp only at hl; injection hl with hl; injection hl with _ hl
        | some v => obtain ⟨q, hq⟩ := hl; exact ⟨kl, hq.inv_sh.inv_int⟩)
      (by cases hi with
        | none => simp only [lenInt] at hh; injection hh with hh; injection hh with _ hh
        | some v => obtain ⟨q, hq⟩ := hh; exact ⟨kh, hq.inv_sh.inv_int⟩) h0 h1 h2 (Nat.le_refl _)
    refine .flat (v := .string ⟨⟨(xs.take hv.toNat).drop l.toNat⟩⟩) ?_ (.sh _ (.str _)) rfl
    rw [← ba_extract]
    simp [Instr.sliceAt, Instr.slice, run_underlying hu, ba_size, hb, pure]
  · cases h

theorem yld_field {t : TypeId} {f : Nat} {x : Value} {ax z : AV} {p : List Nat} (hx : ARel g w p x ax) (h : fieldAV (mkC P) t f ax = some z) : Yld P g w (Instr.fieldAt t x f) z := by
  have main : ∀ (ti : TI) (offs : List (Nat × Nat)) (o n : Nat), mkC P t = some ti → ti.td = .struct offs → offs[f]? = some (o, n) → n ≠ 0 → ∀ b q, x = .pointer (some ⟨b, q, none⟩) → (Instr.fieldAt t x f).run P w = .ok (.pointer (some ⟨b, q + o, none⟩)) w := by
    intro ti offs o n hti htd ho hn b q hxe
    have hu := mkC_td hti
    rw [htd] at hu
    obtain ⟨fs, hfs, hoffs⟩ := hu
    obtain ⟨hl, hg⟩ := mapM_get hoffs
    have hlt : f < fs.size := by have := (List.getElem?_eq_some_iff.1 ho).1; rw [← hl] at this; simpa using this
    obtain ⟨y, hy, hfy⟩ := hg f fs[f] (by simp [hlt])
    rw [ho] at hy
    obtain rfl := Option.some.inj hy
    obtain ⟨i, hi, he⟩ := Option.map_eq_some_iff.1 hfy
    injection he with he1 he2
    have hfd' : fs[f]? = some fs[f] := Array.getElem?_eq_getElem hlt
    have hsz : (sizeOf fs[f].type).run P w = .ok n w := by simp [sizeOf, typeInfo, hi, pure, he2]
    subst hxe
    simp [Instr.fieldAt, run_underlying hfs, hfd', Instr.sureAddr, fieldPlace, hsz, hn, he1, Addr.add_mid, pure]
  unfold fieldAV at h
  split at h
  · rename_i id i j
    split at h
    case h_2 => cases h
    rename_i offs sz by_ ze eq hti
    split at h
    case h_2 => cases h
    rename_i o n ho
    split at h
    · cases h
    rename_i hn
    obtain rfl := Option.some.inj h
    obtain ⟨ha, hv⟩ := hx.inv_ptr
    have := main _ offs o n hti rfl ho hn _ _ hv
    refine .flat this ?_ rfl
    rw [Nat.add_assoc]
    exact .ptr _ id i (j + o) ha
  · rename_i d j
    split at h
    case h_2 => cases h
    rename_i offs sz by_ ze eq hti
    split at h
    case h_2 => cases h
    rename_i o n ho
    split at h
    · cases h
    rename_i hn
    obtain rfl := Option.some.inj h
    obtain ⟨b, q, us, hv, h1, h2, h3⟩ := hx.inv_rp
    have := main _ offs o n hti rfl ho hn _ _ hv
    refine .flat this ?_ rfl
    rw [Nat.add_assoc]
    exact .rp _ us h1 h2 h3
  · cases h

theorem run_size {e : TypeId} {ti : TI} (h : mkC P e = some ti) (w : World) : (sizeOf e).run P w = .ok ti.size w := by
  obtain ⟨i, z, hi, _, _, hs, _⟩ := mkC_spec h
  simp [sizeOf, typeInfo, program, Sem.run, hi, hs, pure]

theorem yld_index {t : TypeId} {x y : Value} {ax ay z : AV} {p q : List Nat} {s : St} {a : Act} (R : Rel g s a w)
    (hx : ARel g w p x ax) (hy : ARel g w q y ay) (h : indexAV (mkC P) t s.ob ax ay = some z) : Yld P g w (Instr.indexAt t x y) z := by
  unfold indexAV at h
  split at h
  · rename_i e sz by_ ze eq ex xs k n hti
    have hu := mkC_td hti
    simp only [tdOk] at hu
    split at h
    case isFalse => cases h
    rename_i h0
    split at h
    case h_2 => cases h
    rename_i d ti hd hti2
    split at h
    case isFalse => cases h
    rename_i hsz
    obtain rfl := Option.some.inj h
    obtain rfl := hy.inv_sh.inv_int
    obtain ⟨A, c, us, b, o, sz', rfl, hc, hA, hdd, hcell, hr⟩ := hx.inv_sh.inv_sl
    have hlt := (List.getElem?_eq_some_iff.1 hd).1
    have hA' := hA (by omega)
    subst hA'
    have hs' : sz' = ti.size := (hdd _ d hd).1.symm.trans hsz
    subst hs'
    refine .flat (v := .pointer (some ⟨b, o + n.toNat * ti.size + 0, none⟩)) ?_ (.rp _ (fun j => us n.toNat j) (hdd _ d hd).2 (fun j e hj => hcell _ d j e hd hj) (fun j e hj => hr _ d j e hd hj)) rfl
    have hn2 : n < (xs.length : Int) := by omega
    simp [Instr.indexAt, asIntOf, run_underlying hu, run_size hti2, h0, hn2, Addr.add_mid, pure]
  · rename_i e sz by_ ze eq id m kk k n hti
    have hu := mkC_td hti
    simp only [tdOk] at hu
    split at h
    case isFalse => cases h
    rename_i hc
    obtain ⟨h0, h1⟩ := hc
    split at h
    case h_2 => cases h
    rename_i ys ti hys hti2
    split at h
    case h_2 => cases h
    rename_i d hd
    split at h
    case isFalse => cases h
    rename_i hsz0
    obtain rfl := Option.some.inj h
    obtain rfl := hy.inv_sh.inv_int
    obtain ⟨ha, rfl, _⟩ := hx.inv_os
    obtain ⟨_, _, _, _, _, _, _, h6, _⟩ := (R.obj id ys hys).2.ex
    have hsz : ti.size = (g.m id).2 := hsz0.symm.trans (h6 _ d hd).1
    refine .flat ?_ (.ptr _ id n.toNat 0 ha) rfl
    simp [Instr.indexAt, asIntOf, run_underlying hu, run_size hti2, h0, h1, hsz, Addr.add_mid, pure]
  · rename_i m e sz by_ ze eq id i j k n hti
    have hu := mkC_td hti
    simp only [tdOk] at hu
    split at h
    case isFalse => cases h
    rename_i hc
    obtain ⟨h0, h1⟩ := hc
    split at h
    case h_2 => cases h
    rename_i ti hti2
    obtain rfl := Option.some.inj h
    obtain rfl := hy.inv_sh.inv_int
    obtain ⟨ha, rfl⟩ := hx.inv_ptr
    refine .flat ?_ (.ptr _ id i (j + n.toNat * ti.size) ha) rfl
    simp [Instr.indexAt, asIntOf, run_underlying hu, run_size hti2, h0, h1, Instr.sureAddr, Addr.add_mid, Nat.add_assoc, pure]
  · cases h

theorem yld_byte {t : TypeId} {x y : Value} {ax ay z : AV} {p q : List Nat} (hx : ARel g w p x ax) (hy : ARel g w q y ay) (h : byteAV (mkC P) t ax ay = some z) : Yld P g w (Instr.index t x y) z := by
  unfold byteAV at h
  split at h
  · rename_i sz by_ ze eq l k n hti
    have hu := mkC_td hti
    simp only [tdOk] at hu
    split at h
    case isFalse => cases h
    rename_i h0
    obtain ⟨b, hb, rfl⟩ := Option.map_eq_some_iff.1 h
    obtain rfl := hy.inv_sh.inv_int
    obtain rfl := hx.inv_sh.inv_str
    have : (⟨⟨l⟩⟩ : ByteArray)[n.toNat]? = some b := by
      have hlt := (List.getElem?_eq_some_iff.1 hb).1
      rw [getElem?_pos (⟨⟨l⟩⟩ : ByteArray) n.toNat (show n.toNat < (⟨⟨l⟩⟩ : ByteArray).size from hlt)]
      rw [List.getElem?_eq_getElem hlt] at hb
      exact hb
    refine .flat (v := .int .u8 b.toNat) ?_ (.sh _ (.int _ _)) rfl
    simp [Instr.index, asIntOf, run_underlying hu, h0, this, pure]
  · cases h

theorem bytesIn_get : ∀ {xs : List DV} {l : List UInt8}, bytesIn xs = some l → xs.length = l.length ∧ ∀ (i : Nat) (d : DV), xs[i]? = some d → ∃ (n : Int) (b : UInt8), d = .int .u8 n ∧ l[i]? = some b ∧ b = UInt8.ofNat n.toNat
  | [], l, h => by simp [bytesIn] at h; subst h; simp
  | d :: xs, l, h => by
    simp only [bytesIn] at h
    split at h
    case h_2 => cases h
    rename_i b m hb hm
    obtain rfl := Option.some.inj h
    obtain ⟨h1, h2⟩ := bytesIn_get hm
    refine ⟨by simp [h1], fun i e he => ?_⟩
    cases i with
    | zero =>
      simp at he; subst he
      unfold byteOf at hb
      split at hb
      · rename_i n
        obtain rfl := Option.some.inj hb
        exact ⟨n, _, rfl, rfl, rfl⟩
      · cases hb
    | succ i => simpa using h2 i e (by simpa using he)

theorem yld_conv {t u : TypeId} {x : Value} {ax z : AV} {p : List Nat} (hx : ARel g w p x ax) (h : convAV (mkC P) t u ax = some z) : Yld P g w (convert t u x) z := by
  unfold convAV at h
  split at h
  · rename_i src k sz by_ ze eq k' n hti0 hti
    have hu := mkC_td hti
    simp only [tdOk] at hu
    obtain rfl := Option.some.inj h
    obtain rfl := hx.inv_sh.inv_int
    obtain ⟨_, _, _, _, _, _, _, _, _, _, hsome, _⟩ := mkC_spec hti0
    obtain ⟨d, hd⟩ := Option.isSome_iff_exists.1 hsome
    refine .flat (v := .int k (k.wrap n)) ?_ (.sh _ (.int _ _)) rfl
    simp [convert, run_underlying hu, run_underlying hd, Conv.intToInt, pure]
  · rename_i e sz by_ ze eq sz' by' ze' eq' ex xs hti hti2
    have hu := mkC_td hti
    have hu2 := mkC_td hti2
    simp only [tdOk] at hu hu2
    split at h
    case h_2 => cases h
    rename_i hti3
    have hu3 := mkC_td hti3
    simp only [tdOk] at hu3
    obtain ⟨l, hl, rfl⟩ := Option.map_eq_some_iff.1 h
    obtain ⟨h1, h2⟩ := bytesIn_get hl
    obtain ⟨A, c, us, b, o, sz2, rfl, hc, hA, hd, hcell, hr⟩ := hx.inv_sh.inv_sl
    let num : DV → Int := fun d => match d with | .int _ n => n | _ => 0
    have hl' : (strOfNums (xs.map num)) = ⟨⟨l⟩⟩ := by
      unfold strOfNums
      congr 2
      apply List.ext_getElem?
      intro i
      rw [List.map_map, List.getElem?_map]
      cases hi : xs[i]? with
      | none =>
        have : l.length ≤ i := by rw [← h1]; exact List.getElem?_eq_none_iff.1 hi
        simp [List.getElem?_eq_none this]
      | some d =>
        obtain ⟨n, b, rfl, hb, rfl⟩ := h2 i d hi
        simp [hb, num]
    refine .flat (v := .string ⟨⟨l⟩⟩) ?_ (.sh _ (.str _)) rfl
    rw [← hl']
    cases A with
    | none =>
      have h0 : xs = [] := by
        cases xs with
        | nil => rfl
        | cons d xs => have := hA (by simp); cases this
      subst h0
      exact run_convert_bytes_nil w t e hu hu3 0 c u hu2
    | some ad =>
      by_cases h0 : 0 < xs.length
      · have := hA h0
        injection this with this
        subst this
        refine run_convert_bytes_arg w t e hu hu3 b o xs.length c (xs.map num) (by simp) (fun i hi => ?_) u hu2
        have hxi := List.getElem?_eq_getElem hi
        obtain ⟨n, b', hd1, hb, _⟩ := h2 i _ hxi
        have hsz := (hd i _ hxi).1
        rw [hd1] at hsz
        have hs1 : sz2 = 1 := hsz.symm
        subst hs1
        have := hcell i _ 0 (.int .u8 n) hxi (by rw [hd1]; rfl)
        have hv := hr i _ 0 (.int .u8 n) hxi (by rw [hd1]; rfl)
        rw [hv.inv_int] at this
        have hget : (xs.map num).getD i 0 = n := by simp [List.getD_eq_getElem?_getD, hxi, hd1, num]
        rw [hget]
        simpa using this.2
      · have h0 : xs = [] := by
          cases xs with
          | nil => rfl
          | cons d xs => simp at h0
        subst h0
        refine run_convert_bytes_arg w t e hu hu3 ad.block ad.off 0 c [] rfl (fun i hi => by omega) u hu2 |> fun h => ?_
        have hz : (Conv.bytesToString (.slice (some ad) 0 c)).run P w = .ok (.string (strOfNums [])) w := by
          simp [Conv.bytesToString, loadCells, loadCellsFrom, pure, strOfNums]
          rfl
        simp [convert, run_underlying hu, run_underlying hu2, run_underlying hu3, hz]
  · cases h

theorem not_row {t : TypeId} {ti : TI} (h : mkC P t = some ti) (ha : ti.td.isAgg = false) (w : World) : (isAgg t).run P w = .ok false w := by
  obtain ⟨_, _, _, _, _, _, _, _, _, _, hsome, _⟩ := mkC_spec h
  obtain ⟨d, hd⟩ := Option.isSome_iff_exists.1 hsome
  have hu := mkC_td h
  unfold isAgg
  rw [Sem.run_bind, run_underlying hd w]
  cases htd : ti.td <;> rw [htd] at hu ha <;> simp only [tdOk] at hu <;> simp [TD.isAgg] at ha
  case other =>
    have := hu d hd
    cases d <;> simp_all [pure]
  all_goals (rw [hd] at hu; injection hu with hu; subst hu; simp [pure])
theorem is_row {t : TypeId} {ti : TI} (h : mkC P t = some ti) (ha : ti.td.isAgg = true) : ∃ d, P.underlying t = some d ∧ d.isRow = true := by
  have hu := mkC_td h
  cases htd : ti.td <;> rw [htd] at hu ha <;> simp only [tdOk] at hu <;> simp [TD.isAgg] at ha
  case array n e => exact ⟨_, hu, rfl⟩
  case struct offs => obtain ⟨fs, hfs, _⟩ := hu; exact ⟨_, hfs, rfl⟩
theorem info_size {t : TypeId} {ti : TI} (h : mkC P t = some ti) : (P.info? t).map (·.size) = some ti.size := by
  obtain ⟨i, z, hi, _, _, hs, _⟩ := mkC_spec h
  simp [hi, hs]

theorem load_part {K : Nat → Nat → Prop} {t : TypeId} {d z : DV} {b o j : Nat} (us : Nat → Value) (hic : ∀ e ∈ d.cells, e.isCell = true)
    (hcell : ∀ (j : Nat) (e : DV), d.cells[j]? = some e → w.cell? ⟨b, o + j, none⟩ = some (us j) ∧ SRel K w (us j) e) (h : partOf (mkC P) t d j = some z) :
    ∃ v, (Instr.loadAt t (.pointer (some ⟨b, o + j, none⟩))).run P w = .ok v w ∧ SRel K w v z := by
  unfold partOf at h
  split at h
  case h_2 => cases h
  rename_i ti hti
  split at h
  · rename_i hagg
    split at h
    case isFalse => cases h
    rename_i hle
    obtain rfl := Option.some.inj h
    obtain ⟨dd, hdd, hrow⟩ := is_row hti hagg
    have hget : ∀ k e, ((d.cells.drop j).take ti.size)[k]? = some e → d.cells[j + k]? = some e ∧ k < ti.size := by
      intro k e hk
      rw [List.getElem?_take] at hk
      split at hk
      · rename_i hlt; rw [List.getElem?_drop] at hk; exact ⟨hk, hlt⟩
      · cases hk
    refine ⟨_, run_loadAt_mid w b (o + j) t ((List.range ti.size).map fun k => us (j + k)) dd (fun k v hk => ?_) hdd hrow (by rw [info_size hti]; simp), ?_⟩
    · rw [List.getElem?_map] at hk
      obtain ⟨k', hk', rfl⟩ := Option.map_eq_some_iff.1 hk
      have hlt : k < ti.size := by
        have := (List.getElem?_eq_some_iff.1 hk').1
        simpa using this
      rw [List.getElem?_range hlt] at hk'
      injection hk' with hk'
      subst hk'
      have := (hcell (j + k) _ (List.getElem?_eq_getElem (show j + k < d.cells.length by omega))).1
      rwa [Nat.add_assoc]
    · refine .agg (by simp; omega) (fun e he => ?_) (fun k u e hu he => ?_)
      · obtain ⟨k, hk, rfl⟩ := List.getElem_of_mem he
        have := (hget k _ (List.getElem?_eq_getElem hk)).1
        exact hic _ (List.mem_of_getElem? this)
      · obtain ⟨h1, h2⟩ := hget k e he
        have : u = us (j + k) := by
          simp only [List.getElem?_toArray, List.getElem?_map, List.getElem?_range h2, Option.map_some] at hu
          exact (Option.some.inj hu).symm
        subst this
        exact (hcell _ e h1).2
  · rename_i hagg
    split at h
    case isFalse => cases h
    rename_i hs1
    obtain ⟨h1, h2⟩ := hcell j z h
    refine ⟨us j, ?_, h2⟩
    have := not_row hti (by simpa using hagg) w
    simp [Instr.loadAt, Instr.sureAddr, loadVar, this, load, Sem.run, h1, pure]

theorem yld_load {t : TypeId} {x : Value} {ax z : AV} {p : List Nat} {s : St} {a : Act} (R : Rel g s a w) (hx : ARel g w p x ax) (h : loadAV (mkC P) t s ax = some z) : Yld P g w (Instr.loadAt t x) z := by
  unfold loadAV at h
  split at h
  · rename_i d j
    obtain ⟨zd, hz, rfl⟩ := Option.map_eq_some_iff.1 h
    obtain ⟨b, o, us, rfl, h1, h2, h3⟩ := hx.inv_rp
    obtain ⟨v, hv, hr⟩ := load_part (K := g.K) us h1 (fun j e hj => ⟨(h2 j e hj).2, h3 j e hj⟩) hz
    exact .flat hv (.sh _ hr) rfl
  · rename_i id i j
    split at h
    case h_2 => cases h
    rename_i xs hxs
    split at h
    case h_2 => cases h
    rename_i d hd
    obtain ⟨zd, hz, rfl⟩ := Option.map_eq_some_iff.1 h
    obtain ⟨ha, rfl⟩ := hx.inv_ptr
    obtain ⟨cur, e, c1, c2, c3, c4, c5, c6, c7⟩ := (R.obj id xs hxs).2.ex
    have hlt : i < xs.length := (List.getElem?_eq_some_iff.1 hd).1
    obtain ⟨v, hv, hr⟩ := load_part (K := g.K) (b := (g.m id).1) (o := i * (g.m id).2) (fun j => cur.getD (i * (g.m id).2 + j) undef) (c6 i d hd).2 (fun j e hj => by
      have hj' : j < (g.m id).2 := by rw [← (c6 i d hd).1]; exact (List.getElem?_eq_some_iff.1 hj).1
      have hb : i * (g.m id).2 + j < cur.size := by
        have : (i + 1) * (g.m id).2 ≤ xs.length * (g.m id).2 := Nat.mul_le_mul_right _ (by omega)
        rw [Nat.add_mul] at this
        omega
      refine ⟨by simp [World.cell?, c2, hb], (c7 i d j e hd hj).view fun b q o hq => R.s6 b _ o hq⟩) hz
    exact .flat hv (.sh _ hr.strip) rfl
  · cases h

theorem yld_minmax {mx : Bool} {l : List AV} {vs : Array Value} {z : AV} {tys : Array TypeId} {ty : TypeId} (hl : vs.size = l.length) (hr : ∀ (i : Nat) (v : Value) (x : AV), vs[i]? = some v → l[i]? = some x → ∃ p, ARel g w p v x)
    (h : minmax mx l = some z) : Yld P g w (if mx then Builtin.max_ tys ty vs else Builtin.min_ tys ty vs) z := by
  unfold minmax at h
  split at h
  case h_2 => cases h
  rename_i a b
  obtain rfl := Option.some.inj h
  obtain ⟨vs⟩ := vs
  match vs, hl with
  | [u, v], _ =>
    obtain ⟨p, h1⟩ := hr 0 u _ rfl rfl
    obtain ⟨q, h2⟩ := hr 1 v _ rfl rfl
    obtain rfl := h1.inv_sh.inv_int
    obtain rfl := h2.inv_sh.inv_int
    cases mx
    · exact .flat (by simp [Builtin.min_, Builtin.min2, pure]) (.sh _ (.int _ _)) rfl
    · exact .flat (by simp [Builtin.max_, Builtin.max2, pure]) (.sh _ (.int _ _)) rfl

end
end Go.Vi
