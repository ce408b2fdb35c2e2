/- What it is that the machine's values and memory are as the pure state tells, and that this lives on while other memory turns. -/
import Derived.Test.YtbjkgeenjjfpdaaDoorVa
set_option linter.all false
set_option autoImplicit true
namespace Go.Vi
open Go Go.RowKit

/-- What is kept beside a world, of an object first: its block, of how many cells an element is, for how many it has room. K: cells that turn no more; ow: whose a block is; L: how many cells of an owned row are in use; m: where an object lies, and how many cells an element of it has; al: the objects that are there. -/
structure Ob3 where
  blk : Nat
  sz : Nat
  cap : Nat
structure Gh where
  K : Nat → Nat → Prop
  ow : Nat → Option (List Nat)
  L : Nat → Nat
  m : Nat → Ob3
  al : Nat → Prop

instance : Inhabited Gh := ⟨⟨fun _ _ => False, fun _ => none, fun _ => 0, fun _ => ⟨0, 0, 0⟩, fun _ => False⟩⟩

inductive SRel (K : Nat → Nat → Prop) (w : World) : Value → DV → Prop
  | int (k n) : SRel K w (.int k n) (.int k n)
  | bool (b) : SRel K w (.bool b) (.bool b)
  | str (l : List UInt8) : SRel K w (.string ⟨⟨l⟩⟩) (.str l)
  | sl {A : Option Addr} {n c : Nat} {ex : Nat} {xs : List DV} (us : Nat → Nat → Value) (b o sz : Nat)
      (hn : xs.length = n) (hc : n ≤ c) (hA : 0 < n → A = some ⟨b, o, none⟩)
      (hd : ∀ (i : Nat) (d : DV), xs[i]? = some d → d.cells.length = sz ∧ ∀ e ∈ d.cells, e.isCell = true)
      (hcell : ∀ (i : Nat) (d : DV) (j : Nat) (e : DV), xs[i]? = some d → d.cells[j]? = some e → K b (o + i * sz + j) ∧ w.cell? ⟨b, o + i * sz + j, none⟩ = some (us i j))
      (hr : ∀ (i : Nat) (d : DV) (j : Nat) (e : DV), xs[i]? = some d → d.cells[j]? = some e → SRel K w (us i j) e) : SRel K w (.slice A n c) (.sl ex xs)
  | agg {vs : Array Value} {ds : List DV} (hs : vs.size = ds.length) (hc : ∀ e ∈ ds, e.isCell = true)
      (hr : ∀ (j : Nat) (u : Value) (e : DV), vs[j]? = some u → ds[j]? = some e → SRel K w u e) : SRel K w (.agg vs) (.agg ds)

/-- Blocks below a bound are older than all that a law's run makes; what is read there stays. -/
class Bnd where
  N : Nat
  W0 : World
def stb : Nat := 1000000
variable [Bnd]
def Gh.K0 (g : Gh) (b o : Nat) : Prop := g.K b o ∧ b < Bnd.N

inductive ORel (g : Gh) (w : World) : List Nat → Value → DV → Prop
  | int (p k n) : ORel g w p (.int k n) (.int k n)
  | bool (p b) : ORel g w p (.bool b) (.bool b)
  | str (p) (l : List UInt8) : ORel g w p (.string ⟨⟨l⟩⟩) (.str l)
  | lock (p) {v : Value} {xs : List DV} (h : SRel g.K w v (.sl 0 xs)) : ORel g w p v (.sl 0 xs)
  | stab (p) {v : Value} {xs : List DV} (h : SRel g.K0 w v (.sl 0 xs)) : ORel g w p v (.sl stb xs)
  | nil (p k) : ORel g w p (.slice none 0 0) (.sl k [])
  | sl {p : List Nat} {b n c sz : Nat} {xs : List DV} {cur : Array Value} {e : TypeId}
      (ho : g.ow b = some p) (hb : w.heap[b]? = some (.cells cur e (0, 0))) (hn : xs.length = n) (hc : n ≤ c) (hm : c ≤ maxLen)
      (hs : cur.size = c * sz) (hsz : 0 < sz) (hL : g.L b = n * sz)
      (hd : ∀ (i : Nat) (d : DV), xs[i]? = some d → d.cells.length = sz ∧ ∀ e ∈ d.cells, e.isCell = true)
      (hr : ∀ (i : Nat) (d : DV) (j : Nat) (e : DV), xs[i]? = some d → d.cells[j]? = some e → ORel g w (p ++ [i, j]) (cur.getD (i * sz + j) undef) e) :
      ORel g w p (.slice (some ⟨b, 0, none⟩) n c) (.sl sz xs)
  | agg {p : List Nat} {vs : Array Value} {ds : List DV} (hs : vs.size = ds.length) (hc : ∀ e ∈ ds, e.isCell = true)
      (hr : ∀ (j : Nat) (u : Value) (e : DV), vs[j]? = some u → ds[j]? = some e → ORel g w (p ++ [j]) u e) : ORel g w p (.agg vs) (.agg ds)

inductive ARel (g : Gh) (w : World) : List Nat → Value → AV → Prop
  | undef (p v) : ARel g w p v .undef
  | gone (p) : ARel g w p undef .gone
  | sh (p) {v d} (h : SRel g.K w v d) : ARel g w p v (.sh d)
  | ow {p v d} (h : ORel g w p v d) : ARel g w p v (.ow d)
  | ptr (p id i j) (h : g.al id) : ARel g w p (.pointer (some ⟨(g.m id).1, i * (g.m id).2 + j, none⟩)) (.ptr id i j)
  | rp (p) {b o j : Nat} {d : DV} (us : Nat → Value) (hc : ∀ e ∈ d.cells, e.isCell = true)
      (hcell : ∀ (j : Nat) (e : DV), d.cells[j]? = some e → g.K b (o + j) ∧ w.cell? ⟨b, o + j, none⟩ = some (us j))
      (hr : ∀ (j : Nat) (e : DV), d.cells[j]? = some e → SRel g.K w (us j) e) : ARel g w p (.pointer (some ⟨b, o + j, none⟩)) (.rp d j)
  | os (p id n) (h : g.al id) : ARel g w p (.slice (some ⟨(g.m id).1, 0, none⟩) n (g.m id).3) (.os id n (g.m id).2)
  | tup {p : List Nat} {vs : Array Value} {l : List AV} (hs : vs.size = l.length)
      (hr : ∀ (i : Nat) (u : Value) (x : AV), vs[i]? = some u → l[i]? = some x → ARel g w (p ++ [i]) u x) : ARel g w p (.tuple vs) (.tup l)
  | fn {p : List Nat} {f : FuncId} {cs : Array Value} {l : List AV} (hs : cs.size = l.length) (hf : ∀ x ∈ l, x.flat = true)
      (hr : ∀ (i : Nat) (u : Value) (x : AV), cs[i]? = some u → l[i]? = some x → ARel g w (p ++ [i]) u x) : ARel g w p (.func (.func f) #[] cs) (.fn f l)

/-- An object: a block of the call's own whose cells may be written. -/
structure ObRel (g : Gh) (w : World) (id : Nat) (xs : List DV) : Prop where
  mk ::
  ex : ∃ cur e, g.ow (g.m id).1 = some [1, id] ∧ w.heap[(g.m id).1]? = some (.cells cur e (0, 0)) ∧ g.L (g.m id).1 = 0 ∧ 0 < (g.m id).2 ∧
    (xs.length * (g.m id).2 ≤ cur.size ∧ cur.size = (g.m id).3 * (g.m id).2 ∧ xs.length ≤ (g.m id).3 ∧ (g.m id).3 ≤ maxLen) ∧ (∀ (i : Nat) (d : DV), xs[i]? = some d → d.cells.length = (g.m id).2 ∧ ∀ e ∈ d.cells, e.isCell = true) ∧
    ∀ (i : Nat) (d : DV) (j : Nat) (e : DV), xs[i]? = some d → d.cells[j]? = some e → ORel g w [1, id, i, j] (cur.getD (i * (g.m id).2 + j) undef) e

structure Sane (g : Gh) (w : World) : Prop where
  s1 : ∀ b q, g.ow b = some q → b < w.heap.size
  s2 : ∀ b q o, g.ow b = some q → g.K b o → o < g.L b
  s3 : ∀ b o, g.K b o → b < w.heap.size
  sN : Bnd.N ≤ w.heap.size ∧ (∀ b q, g.ow b = some q → Bnd.N ≤ b) ∧ ∀ b, b < Bnd.N → w.heap[b]? = Bnd.W0.heap[b]?

structure Rel (g : Gh) (s : St) (a : Act) (w : World) : Prop extends Sane g w where
  size : s.fr.length = a.tmps.size
  defers : a.defers = []
  slot : ∀ i x, s.fr[i]? = some x → ARel g w [0, i] (a.tmps.getD i undef) x
  obj : ∀ id xs, getOb s.ob id = some xs → g.al id ∧ ObRel g w id xs
  alive : ∀ id, g.al id → getOb s.ob id ≠ none
  s6 : ∀ b q o, g.ow b = some q → o < g.L b → g.K b o

/-- From one world to a later one. -/
structure Stp (g : Gh) (w : World) (g' : Gh) (w' : World) : Prop where
  os : w'.os = w.os
  tape : w'.tape = w.tape
  output : w'.output = w.output
  size : w.heap.size ≤ w'.heap.size
  old : ∀ b, b < w.heap.size → g.ow b = none → w'.heap[b]? = w.heap[b]?
  kept : ∀ b o, g.K b o → w'.cell? ⟨b, o, none⟩ = w.cell? ⟨b, o, none⟩
  K : ∀ b o, g.K b o → g'.K b o
  K' : ∀ b o, g'.K b o → g.K b o ∨ w.heap.size ≤ b ∨ g.ow b ≠ none
  own : ∀ b, g'.ow b ≠ none → w.heap.size ≤ b ∨ g.ow b ≠ none
  m : ∀ id, 1000 ≤ id → g'.m id = g.m id

theorem Stp.refl (g : Gh) (w : World) : Stp g w g w :=
  ⟨rfl, rfl, rfl, Nat.le_refl _, fun _ _ _ => rfl, fun _ _ _ => rfl, fun _ _ h => h, fun _ _ h => .inl h, fun _ h => .inr h, fun _ _ => rfl⟩
theorem Stp.trans {g g1 g2 : Gh} {w w1 w2 : World} (h : Stp g w g1 w1) (k : Stp g1 w1 g2 w2) : Stp g w g2 w2 where
  os := k.os.trans h.os
  tape := k.tape.trans h.tape
  output := k.output.trans h.output
  size := Nat.le_trans h.size k.size
  old b hb hn := by
    have h1 := h.old b hb hn
    rw [← h1]
    refine k.old b (Nat.lt_of_lt_of_le hb h.size) ?_
    cases hq : g1.ow b with
    | none => rfl
    | some q => rcases h.own b (by simp [hq]) with h2 | h2
                · omega
                · exact absurd hn h2
  kept b o hK := (k.kept b o (h.K b o hK)).trans (h.kept b o hK)
  K b o hK := k.K b o (h.K b o hK)
  K' b o hK := by
    rcases k.K' b o hK with h1 | h1 | h1
    · exact h.K' b o h1
    · exact .inr (.inl (Nat.le_trans h.size h1))
    · rcases h.own b h1 with h2 | h2
      · exact .inr (.inl h2)
      · exact .inr (.inr h2)
  own b hn := by
    rcases k.own b hn with h1 | h1
    · exact .inl (Nat.le_trans h.size h1)
    · exact h.own b h1
  m id hi := (k.m id hi).trans (h.m id hi)

/-! ### what lives on -/
theorem SRel.mono {K K' : Nat → Nat → Prop} {w w' : World} (hK : ∀ b o, K b o → K' b o) (hw : ∀ b o, K b o → w'.cell? ⟨b, o, none⟩ = w.cell? ⟨b, o, none⟩)
    {v : Value} {d : DV} (h : SRel K w v d) : SRel K' w' v d := by
  induction h with
  | int k n => exact .int k n
  | bool b => exact .bool b
  | str l => exact .str l
  | sl us b o sz hn hc hA hd hcell hr ih =>
    refine .sl us b o sz hn hc hA hd (fun i d j e hi hj => ?_) ih
    obtain ⟨h1, h2⟩ := hcell i d j e hi hj
    exact ⟨hK _ _ h1, (hw _ _ h1).trans h2⟩
  | agg hs hc hr ih => exact .agg hs hc ih

theorem ORel.mono {g g' : Gh} {w w' : World} (hK : ∀ b o, g.K b o → g'.K b o) (hw : ∀ b o, g.K b o → w'.cell? ⟨b, o, none⟩ = w.cell? ⟨b, o, none⟩)
    {p : List Nat} {v : Value} {d : DV} (h : ORel g w p v d) : ∀ p', (∀ b q, g.ow b = some (p ++ q) → g'.ow b = some (p' ++ q) ∧ w'.heap[b]? = w.heap[b]? ∧ g'.L b = g.L b) → ORel g' w' p' v d := by
  induction h with
  | int p k n => exact fun _ _ => .int _ k n
  | bool p b => exact fun _ _ => .bool _ b
  | str p l => exact fun _ _ => .str _ l
  | lock p h => exact fun _ _ => .lock _ (h.mono hK hw)
  | stab p h => exact fun _ _ => .stab _ (h.mono (fun b o h => ⟨hK _ _ h.1, h.2⟩) fun b o h => hw _ _ h.1)
  | nil p k => exact fun _ _ => .nil _ k
  | @sl p b n c sz xs cur e ho hb hn hc hm hs hsz hL hd hr ih =>
    intro p' hp
    obtain ⟨h1, h2, h3⟩ := hp b [] (by simpa using ho)
    refine .sl (by simpa using h1) (h2.trans hb) hn hc hm hs hsz (h3.trans hL) hd (fun i d j e hi hj => ih i d j e hi hj _ fun b' q hq => ?_)
    have := hp b' ([i, j] ++ q) (by simpa using hq)
    simpa using this
  | @agg p vs ds hs hc hr ih =>
    intro p' hp
    refine .agg hs hc (fun j u e hu he => ih j u e hu he _ fun b' q hq => ?_)
    have := hp b' ([j] ++ q) (by simpa using hq)
    simpa using this

theorem ARel.mono {g g' : Gh} {w w' : World} (hK : ∀ b o, g.K b o → g'.K b o) (hw : ∀ b o, g.K b o → w'.cell? ⟨b, o, none⟩ = w.cell? ⟨b, o, none⟩)
    (hm : ∀ id, g.al id → g'.al id ∧ g'.m id = g.m id)
    {p : List Nat} {v : Value} {x : AV} (h : ARel g w p v x) : ∀ p', (∀ b q, g.ow b = some (p ++ q) → g'.ow b = some (p' ++ q) ∧ w'.heap[b]? = w.heap[b]? ∧ g'.L b = g.L b) → ARel g' w' p' v x := by
  induction h with
  | undef p v => exact fun _ _ => .undef _ v
  | gone p => exact fun _ _ => .gone _
  | sh p h => exact fun _ _ => .sh _ (h.mono hK hw)
  | ow h => exact fun p' hp => .ow (h.mono hK hw p' hp)
  | ptr p id i j h =>
    intro p' _
    obtain ⟨h1, h2⟩ := hm id h
    have := ARel.ptr (g := g') (w := w') p' id i j h1
    rwa [h2] at this
  | rp p us hc hcell hr =>
    intro p' _
    refine .rp p' us hc (fun j e hj => ?_) (fun j e hj => (hr j e hj).mono hK hw)
    obtain ⟨h1, h2⟩ := hcell j e hj
    exact ⟨hK _ _ h1, (hw _ _ h1).trans h2⟩
  | os p id n h =>
    intro p' _
    obtain ⟨h1, h2⟩ := hm id h
    have := ARel.os (g := g') (w := w') p' id n h1
    rwa [h2] at this
  | @tup p vs l hs hr ih =>
    intro p' hp
    refine .tup hs (fun i u x hu hx => ih i u x hu hx _ fun b q hq => ?_)
    have := hp b ([i] ++ q) (by simpa using hq)
    simpa using this
  | @fn p f cs l hs hf hr ih =>
    intro p' hp
    refine .fn hs hf (fun i u x hu hx => ih i u x hu hx _ fun b q hq => ?_)
    have := hp b ([i] ++ q) (by simpa using hq)
    simpa using this

/-- What is owned is read. -/
theorem ORel.view {g : Gh} {w : World} {p : List Nat} {v : Value} {d : DV} (h : ORel g w p v d) (hK : ∀ b q o, g.ow b = some (p ++ q) → o < g.L b → g.K b o) : SRel g.K w v d := by
  induction h with
  | int p k n => exact .int k n
  | bool p b => exact .bool b
  | str p l => exact .str l
  | lock p h => exact h
  | stab p h =>
    have := h.mono (K' := g.K) (w' := w) (fun b o h => h.1) (fun _ _ _ => rfl)
    cases this with
    | sl us b o sz hn hc hA hd hcell hr => exact .sl us b o sz hn hc hA hd hcell hr
  | nil p k => exact .sl (fun _ _ => undef) 0 0 0 rfl (Nat.le_refl _) (fun h => by omega) (by simp) (by simp) (by simp)
  | @sl p b n c sz xs cur e ho hb hn hc hm hs hsz hL hd hr ih =>
    have hlt : ∀ (i : Nat) (d : DV) (j : Nat) (e : DV), xs[i]? = some d → d.cells[j]? = some e → i * sz + j < n * sz := by
      intro i d j e hi hj
      have h1 := (List.getElem?_eq_some_iff.1 hi).1
      have h2 := (List.getElem?_eq_some_iff.1 hj).1
      rw [(hd i d hi).1] at h2
      have : (i + 1) * sz ≤ n * sz := Nat.mul_le_mul_right _ (by omega)
      rw [Nat.add_mul] at this
      omega
    refine .sl (fun i j => cur.getD (i * sz + j) undef) b 0 sz hn hc (fun _ => rfl) hd (fun i d j e hi hj => ?_) (fun i d j e hi hj => ?_)
    · have h1 := hlt i d j e hi hj
      refine ⟨hK b [] _ (by simpa using ho) (by omega), ?_⟩
      have hle : n * sz ≤ c * sz := Nat.mul_le_mul_right _ hc
      simp only [Nat.zero_add, World.cell?, hb, Option.isSome_none]
      rw [Array.getElem?_eq_getElem (by omega)]
      simp [Array.getElem?_eq_getElem (show i * sz + j < cur.size by omega)]
    · exact ih i d j e hi hj (fun b' q o hq ho => hK b' ([i, j] ++ q) o (by simpa using hq) ho)
  | @agg p vs ds hs hc hr ih =>
    exact .agg hs hc (fun j u e hu he => ih j u e hu he (fun b' q o hq ho => hK b' ([j] ++ q) o (by simpa using hq) ho))

/-- What is only read stands anywhere, locked. -/
theorem SRel.lockC {K : Nat → Nat → Prop} {w : World} {v : Value} {d : DV} (h : SRel K w v d) (hic : d.isCell = true) (g : Gh) (hg : g.K = K) (p : List Nat) : ORel g w p v d.lockC := by
  subst hg
  cases h with
  | int k n => exact .int _ k n
  | bool b => exact .bool _ b
  | str l => exact .str _ l
  | sl us b o sz hn hc hA hd hcell hr => exact .lock _ (.sl us b o sz hn hc hA hd hcell hr)
  | agg hs hc' hr => simp [DV.isCell] at hic

theorem isCell_lockC {d : DV} : d.lockC.isCell = d.isCell := by cases d <;> rfl
theorem cells_lock (d : DV) : d.lock.cells = d.cells.map DV.lockC := by cases d <;> rfl
theorem cells_of_isCell {d : DV} (h : d.isCell = true) : d.cells = [d] := by cases d <;> first | rfl | simp [DV.isCell] at h

theorem SRel.lock {g : Gh} {w : World} {v : Value} {d : DV} (h : SRel g.K w v d) (p : List Nat) : ORel g w p v d.lock := by
  cases d with
  | agg ds =>
    cases h with
    | @agg vs _ hs hc hr =>
      refine .agg (by simpa using hs) (fun e he => ?_) (fun j u e hu he => ?_)
      · simp only [List.mem_map] at he
        obtain ⟨a, ha, rfl⟩ := he
        rw [isCell_lockC]; exact hc a ha
      · simp only [List.getElem?_map, Option.map_eq_some_iff] at he
        obtain ⟨a, ha, rfl⟩ := he
        exact (hr j u a hu ha).lockC (hc a (List.mem_of_getElem? ha)) g rfl _
  | _ => exact h.lockC rfl g rfl p

theorem SRel.cells {K : Nat → Nat → Prop} {w : World} {v : Value} {d : DV} (h : SRel K w v d) : v.cells.size = d.cells.length ∧ (∀ e ∈ d.cells, e.isCell = true) ∧ ∀ (j : Nat) (u : Value) (e : DV), v.cells[j]? = some u → d.cells[j]? = some e → SRel K w u e := by
  cases h with
  | agg hs hc hr => exact ⟨hs, hc, hr⟩
  | int k n => exact ⟨rfl, by simp [DV.cells, DV.isCell], fun j u e hu he => by cases j <;> simp [Value.cells, DV.cells] at hu he; subst hu; subst he; exact .int k n⟩
  | bool b => exact ⟨rfl, by simp [DV.cells, DV.isCell], fun j u e hu he => by cases j <;> simp [Value.cells, DV.cells] at hu he; subst hu; subst he; exact .bool b⟩
  | str l => exact ⟨rfl, by simp [DV.cells, DV.isCell], fun j u e hu he => by cases j <;> simp [Value.cells, DV.cells] at hu he; subst hu; subst he; exact .str l⟩
  | sl us b o sz hn hc hA hd hcell hr => exact ⟨rfl, by simp [DV.cells, DV.isCell], fun j u e hu he => by cases j <;> simp [Value.cells, DV.cells] at hu he; subst hu; subst he; exact .sl us b o sz hn hc hA hd hcell hr⟩

theorem ORel.cellsOf {g : Gh} {w : World} {p : List Nat} {v : Value} {d : DV} (h : ORel g w p v d) :
    v.cells.size = d.cells.length ∧ (∀ e ∈ d.cells, e.isCell = true) := by
  cases h with
  | agg hs hc hr => exact ⟨hs, hc⟩
  | lock p h => exact ⟨h.cells.1, h.cells.2.1⟩
  | stab p h => exact ⟨h.cells.1, by simp [DV.cells, DV.isCell]⟩
  | _ => exact ⟨rfl, by simp [DV.cells, DV.isCell]⟩

theorem ARel.flat {g : Gh} {w : World} {p : List Nat} {v : Value} {x : AV} (h : ARel g w p v x) (hf : x.flat = true) (p' : List Nat) : ARel g w p' v x := by
  cases h with
  | undef p v => exact .undef _ v
  | gone p => exact .gone _
  | sh p h => exact .sh _ h
  | ow h => simp [AV.flat] at hf
  | ptr p id i j h => exact .ptr _ id i j h
  | rp p us hc hcell hr => exact .rp _ us hc hcell hr
  | os p id n h => exact .os _ id n h
  | tup hs hr => simp [AV.flat] at hf
  | fn hs hf' hr => simp [AV.flat] at hf

section
variable {g : Gh} {w : World} {p : List Nat} {v : Value}
theorem ARel.inv_ow {d : DV} (h : ARel g w p v (.ow d)) : ORel g w p v d := by cases h; assumption
theorem ARel.inv_sh {d : DV} (h : ARel g w p v (.sh d)) : SRel g.K w v d := by cases h; assumption
theorem ARel.inv_gone (h : ARel g w p v .gone) : v = Go.undef := by cases h; rfl
theorem ARel.inv_ptr {id i j : Nat} (h : ARel g w p v (.ptr id i j)) : g.al id ∧ v = .pointer (some ⟨(g.m id).1, i * (g.m id).2 + j, none⟩) := by cases h; exact ⟨by assumption, rfl⟩
theorem ARel.inv_os {id n k : Nat} (h : ARel g w p v (.os id n k)) : g.al id ∧ v = .slice (some ⟨(g.m id).1, 0, none⟩) n (g.m id).3 ∧ k = (g.m id).2 := by cases h; exact ⟨by assumption, rfl, rfl⟩
theorem ARel.inv_rp {d : DV} {j : Nat} (h : ARel g w p v (.rp d j)) : ∃ (b o : Nat) (us : Nat → Value), v = .pointer (some ⟨b, o + j, none⟩) ∧ (∀ e ∈ d.cells, e.isCell = true) ∧
    (∀ (j : Nat) (e : DV), d.cells[j]? = some e → g.K b (o + j) ∧ w.cell? ⟨b, o + j, none⟩ = some (us j)) ∧ ∀ (j : Nat) (e : DV), d.cells[j]? = some e → SRel g.K w (us j) e := by
  cases h with
  | rp p us hc hcell hr => exact ⟨_, _, us, rfl, hc, hcell, hr⟩
theorem ARel.inv_tup {l : List AV} (h : ARel g w p v (.tup l)) : ∃ vs : Array Value, v = .tuple vs ∧ vs.size = l.length ∧ ∀ (i : Nat) (u : Value) (x : AV), vs[i]? = some u → l[i]? = some x → ARel g w (p ++ [i]) u x := by
  cases h with
  | tup hs hr => exact ⟨_, rfl, hs, hr⟩
theorem ARel.inv_fn {f : FuncId} {l : List AV} (h : ARel g w p v (.fn f l)) : ∃ cs : Array Value, v = .func (.func f) #[] cs ∧ cs.size = l.length ∧ (∀ x ∈ l, x.flat = true) ∧ ∀ (i : Nat) (u : Value) (x : AV), cs[i]? = some u → l[i]? = some x → ARel g w (p ++ [i]) u x := by
  cases h with
  | fn hs hf hr => exact ⟨_, rfl, hs, hf, hr⟩
theorem SRel.inv_int {K : Nat → Nat → Prop} {k : IntKind} {n : Int} (h : SRel K w v (.int k n)) : v = .int k n := by cases h; rfl
theorem SRel.inv_bool {K : Nat → Nat → Prop} {b : Bool} (h : SRel K w v (.bool b)) : v = .bool b := by cases h; rfl
theorem SRel.inv_str {K : Nat → Nat → Prop} {l : List UInt8} (h : SRel K w v (.str l)) : v = .string ⟨⟨l⟩⟩ := by cases h; rfl
theorem SRel.inv_agg {K : Nat → Nat → Prop} {ds : List DV} (h : SRel K w v (.agg ds)) : ∃ vs : Array Value, v = .agg vs ∧ vs.size = ds.length ∧ (∀ e ∈ ds, e.isCell = true) ∧ ∀ (j : Nat) (u : Value) (e : DV), vs[j]? = some u → ds[j]? = some e → SRel K w u e := by
  cases h with
  | agg hs hc hr => exact ⟨_, rfl, hs, hc, hr⟩
theorem SRel.inv_sl {K : Nat → Nat → Prop} {ex : Nat} {xs : List DV} (h : SRel K w v (.sl ex xs)) : ∃ (A : Option Addr) (c : Nat) (us : Nat → Nat → Value) (b o sz : Nat), v = .slice A xs.length c ∧ xs.length ≤ c ∧ (0 < xs.length → A = some ⟨b, o, none⟩) ∧
    (∀ (i : Nat) (d : DV), xs[i]? = some d → d.cells.length = sz ∧ ∀ e ∈ d.cells, e.isCell = true) ∧
    (∀ (i : Nat) (d : DV) (j : Nat) (e : DV), xs[i]? = some d → d.cells[j]? = some e → K b (o + i * sz + j) ∧ w.cell? ⟨b, o + i * sz + j, none⟩ = some (us i j)) ∧
    ∀ (i : Nat) (d : DV) (j : Nat) (e : DV), xs[i]? = some d → d.cells[j]? = some e → SRel K w (us i j) e := by
  cases h with
  | sl us b o sz hn hc hA hd hcell hr => subst hn; exact ⟨_, _, us, b, o, sz, rfl, hc, hA, hd, hcell, hr⟩
end

theorem strip_go (l : List DV) : DV.strip.go l = l.map DV.strip := by
  induction l with
  | nil => rfl
  | cons x r ih => simp [DV.strip.go, ih]
theorem isCell_strip (d : DV) : d.strip.isCell = d.isCell := by cases d <;> rfl
theorem cells_strip (d : DV) : d.strip.cells = d.cells.map DV.strip := by cases d <;> simp [DV.strip, DV.cells, strip_go]
theorem SRel.strip {K : Nat → Nat → Prop} {w : World} {v : Value} {d : DV} (h : SRel K w v d) : SRel K w v d.strip := by
  induction h with
  | int k n => exact .int k n
  | bool b => exact .bool b
  | str l => exact .str l
  | sl us b o sz hn hc hA hd hcell hr ih =>
    simp only [DV.strip, strip_go]
    have get : ∀ {xs : List DV} {i : Nat} {d : DV}, (xs.map DV.strip)[i]? = some d → ∃ d', xs[i]? = some d' ∧ d = d'.strip := by
      intro xs i d h
      rw [List.getElem?_map] at h
      obtain ⟨d', h1, h2⟩ := Option.map_eq_some_iff.1 h
      exact ⟨d', h1, h2.symm⟩
    refine .sl us b o sz (by simpa using hn) hc hA (fun i d hi => ?_) (fun i d j e hi hj => ?_) (fun i d j e hi hj => ?_)
    · obtain ⟨d', hi', rfl⟩ := get hi
      rw [cells_strip]
      refine ⟨by simpa using (hd i d' hi').1, fun e he => ?_⟩
      obtain ⟨e', he', rfl⟩ := List.mem_map.1 he
      rw [isCell_strip]
      exact (hd i d' hi').2 e' he'
    · obtain ⟨d', hi', rfl⟩ := get hi
      rw [cells_strip] at hj
      obtain ⟨e', hj', rfl⟩ := get hj
      exact hcell i d' j e' hi' hj'
    · obtain ⟨d', hi', rfl⟩ := get hi
      rw [cells_strip] at hj
      obtain ⟨e', hj', rfl⟩ := get hj
      exact ih i d' j e' hi' hj'
  | agg hs hc hr ih =>
    simp only [DV.strip, strip_go]
    refine .agg (by simpa using hs) (fun e he => ?_) (fun j u e hu he => ?_)
    · obtain ⟨e', he', rfl⟩ := List.mem_map.1 he
      rw [isCell_strip]
      exact hc e' he'
    · rw [List.getElem?_map] at he
      obtain ⟨e', h1, rfl⟩ := Option.map_eq_some_iff.1 he
      exact ih j u e' hu h1

/-- Read from where it stands, it stands anywhere. -/
theorem ARel.plain {g : Gh} {w : World} {p : List Nat} {v : Value} {x : AV} (h : ARel g w p v x) (hK : ∀ b q o, g.ow b = some q → o < g.L b → g.K b o) (p' : List Nat) : ARel g w p' v x.plain := by
  cases h with
  | ow h => exact .sh _ (h.view fun b q o hq => hK b _ o hq).strip
  | tup hs hr => exact .undef _ _
  | fn hs hf hr => exact .fn hs hf fun i u x hu hx => (hr i u x hu hx).flat (hf x (List.mem_of_getElem? hx)) _
  | undef p v => exact .undef _ v
  | gone p => exact .gone _
  | sh p h => exact .sh _ h
  | ptr p id i j h => exact .ptr _ id i j h
  | rp p us hc hcell hr => exact .rp _ us hc hcell hr
  | os p id n h => exact .os _ id n h

end Go.Vi
