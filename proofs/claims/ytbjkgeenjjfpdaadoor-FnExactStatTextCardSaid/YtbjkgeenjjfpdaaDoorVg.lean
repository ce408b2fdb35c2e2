/- Rows that grow. -/
import Derived.Test.YtbjkgeenjjfpdaaDoorVf
set_option linter.all false
set_option autoImplicit true
namespace Go.Vi
open Go Go.RowKit
variable [Bnd]
set_option linter.unusedVariables false

section
variable {P : Program} {g : Gh} {s : St} {a : Act} {w : World} {H : List (Nat × Value × AV)}

theorem ORel.inv_sl {p : List Nat} {v : Value} {k : Nat} {xs : List DV} (h : ORel g w p v (.sl k xs)) : ((k = 0 ∨ k = stb) ∧ SRel g.K w v (.sl 0 xs)) ∨ (v = .slice none 0 0 ∧ xs = []) ∨
    ∃ (b c : Nat) (cur : Array Value) (e : TypeId), v = .slice (some ⟨b, 0, none⟩) xs.length c ∧ g.ow b = some p ∧ w.heap[b]? = some (.cells cur e (0, 0)) ∧ xs.length ≤ c ∧ c ≤ maxLen ∧ cur.size = c * k ∧ 0 < k ∧ g.L b = xs.length * k ∧
      (∀ (i : Nat) (d : DV), xs[i]? = some d → d.cells.length = k ∧ ∀ e ∈ d.cells, e.isCell = true) ∧
      ∀ (i : Nat) (d : DV) (j : Nat) (e : DV), xs[i]? = some d → d.cells[j]? = some e → ORel g w (p ++ [i, j]) (cur.getD (i * k + j) undef) e := by
  cases h with
  | lock p h => exact .inl ⟨.inl rfl, h⟩
  | stab p h => exact .inl ⟨.inr rfl, h.mono (fun b o h => h.1) fun _ _ _ => rfl⟩
  | nil p k => exact .inr (.inl ⟨rfl, rfl⟩)
  | sl ho hb hn hc hm hs hsz hL hd hr => subst hn; exact .inr (.inr ⟨_, _, _, _, rfl, ho, hb, hc, hm, hs, hsz, hL, hd, hr⟩)

/-- What an append takes: the cells of m elements, which stand at 1. -/
structure Src (g : Gh) (w : World) (v : Value) (sz : Nat) (ys : List DV) : Prop where
  ex : ∃ (A : Option Addr) (c b o : Nat) (u : Nat → Nat → Value), v = .slice A ys.length c ∧ (0 < ys.length → A = some ⟨b, o, none⟩) ∧
    (∀ (i : Nat) (d : DV), ys[i]? = some d → d.cells.length = sz ∧ ∀ e ∈ d.cells, e.isCell = true) ∧
    (∀ (i : Nat) (d : DV) (j : Nat) (e : DV), ys[i]? = some d → d.cells[j]? = some e → w.cell? ⟨b, o + i * sz + j, none⟩ = some (u i j)) ∧
    ∀ (i : Nat) (d : DV) (j : Nat) (e : DV), ys[i]? = some d → d.cells[j]? = some e → ORel g w [2, 1, i, j] (u i j) e

theorem lock_cells_len (d : DV) : d.lock.cells.length = d.cells.length := by rw [cells_lock]; simp

theorem Rel.src_of (_R : Rel g s a w) (R : RelH g s a w H) {v : Value} {y : AV} {ys : List DV} {sz : Nat} (hv : (1, v, y) ∈ H) (h : rowOf s y = some ys) (hsz : ∀ d ∈ ys, d.cells.length = sz) : Src g w v sz ys := by
  have hr := R.held 1 v y hv
  have shared : ∀ (xs : List DV) (k : Nat), SRel g.K w v (.sl k xs) → ys = xs.map DV.lock → Src g w v sz ys := by
    intro xs k hs he
    subst he
    obtain ⟨A, c, us, b, o, sz', rfl, hc, hA, hd, hcell, hrr⟩ := hs.inv_sl
    have hlen : ∀ (i : Nat) (d : DV), xs[i]? = some d → sz' = sz := by
      intro i d hi
      have h1 := hsz d.lock (List.mem_map_of_mem (List.mem_of_getElem? hi))
      rw [lock_cells_len] at h1
      exact (hd i d hi).1.symm.trans h1
    refine ⟨A, c, b, o, us, by simp, by simpa using hA, fun i d hi => ?_, fun i d j e hi hj => ?_, fun i d j e hi hj => ?_⟩
    · refine ⟨hsz d (List.mem_of_getElem? hi), fun e he => ?_⟩
      rw [List.getElem?_map] at hi
      obtain ⟨d0, h0, rfl⟩ := Option.map_eq_some_iff.1 hi
      rw [cells_lock] at he
      obtain ⟨e0, he0, rfl⟩ := List.mem_map.1 he
      rw [isCell_lockC]
      exact (hd i d0 h0).2 e0 he0
    · rw [List.getElem?_map] at hi
      obtain ⟨d0, h0, rfl⟩ := Option.map_eq_some_iff.1 hi
      rw [cells_lock, List.getElem?_map] at hj
      obtain ⟨e0, he0, rfl⟩ := Option.map_eq_some_iff.1 hj
      have := (hcell i d0 j e0 h0 he0).2
      rwa [hlen i d0 h0] at this
    · rw [List.getElem?_map] at hi
      obtain ⟨d0, h0, rfl⟩ := Option.map_eq_some_iff.1 hi
      rw [cells_lock, List.getElem?_map] at hj
      obtain ⟨e0, he0, rfl⟩ := Option.map_eq_some_iff.1 hj
      exact (hrr i d0 j e0 h0 he0).lockC ((hd i d0 h0).2 e0 (List.mem_of_getElem? he0)) g rfl _
  unfold rowOf at h
  split at h
  · rename_i k xs
    have ho := hr.inv_ow
    split at h
    · rename_i hk
      obtain rfl := Option.some.inj h
      exact shared xs k (ho.view fun b q o hq => R.s6 b _ o hq) rfl
    · rename_i hk
      obtain rfl := Option.some.inj h
      cases ho with
      | lock p h => exact absurd (.inl rfl) hk
      | stab p h => exact absurd (.inr rfl) hk
      | nil p k => exact ⟨none, 0, 0, 0, fun _ _ => undef, rfl, fun h => by simp at h, by simp, by simp, by simp⟩
      | @sl p b n c _ _ cur e ho hb hn hc hm hs hsz' hL hd hrr =>
        subst hn
        have hlen : ∀ (i : Nat) (d : DV), xs[i]? = some d → k = sz := fun i d hi => (hd i d hi).1.symm.trans (hsz d (List.mem_of_getElem? hi))
        refine ⟨_, c, b, 0, fun i j => cur.getD (i * k + j) undef, rfl, fun _ => rfl, fun i d hi => ⟨hsz d (List.mem_of_getElem? hi), (hd i d hi).2⟩, fun i d j e hi hj => ?_, fun i d j e hi hj => hrr i d j e hi hj⟩
        have hk' := hlen i d hi
        subst hk'
        have h1 := (List.getElem?_eq_some_iff.1 hi).1
        have h2 : j < k := by rw [← (hd i d hi).1]; exact (List.getElem?_eq_some_iff.1 hj).1
        have : (i + 1) * k ≤ c * k := Nat.mul_le_mul_right _ (by omega)
        rw [Nat.add_mul] at this
        have hlt : i * k + j < cur.size := by omega
        simp [World.cell?, hb, hlt]
  · rename_i k xs
    obtain rfl := Option.some.inj h
    exact shared xs k hr.inv_sh rfl
  · rename_i id n kk
    split at h
    case h_2 => cases h
    rename_i xs hxs
    split at h
    case isFalse => cases h
    rename_i hn
    obtain rfl := Option.some.inj h
    obtain ⟨_, rfl, rfl⟩ := hr.inv_os
    obtain ⟨cur, T, c1, c2, c3, c4, c5, c6, c7⟩ := (R.obj id xs hxs).2.ex
    have hlen : ∀ (i : Nat) (d : DV), xs[i]? = some d → (g.m id).2 = sz := by
      intro i d hi
      have h1 := hsz d.lock (List.mem_map_of_mem (List.mem_of_getElem? hi))
      rw [lock_cells_len] at h1
      exact (c6 i d hi).1.symm.trans h1
    refine ⟨_, (g.m id).3, (g.m id).1, 0, fun i j => cur.getD (i * (g.m id).2 + j) undef, by simp [hn], fun _ => rfl, fun i d hi => ?_, fun i d j e hi hj => ?_, fun i d j e hi hj => ?_⟩
    · refine ⟨hsz d (List.mem_of_getElem? hi), fun e he => ?_⟩
      rw [List.getElem?_map] at hi
      obtain ⟨d0, h0, rfl⟩ := Option.map_eq_some_iff.1 hi
      rw [cells_lock] at he
      obtain ⟨e0, he0, rfl⟩ := List.mem_map.1 he
      rw [isCell_lockC]
      exact (c6 i d0 h0).2 e0 he0
    · rw [List.getElem?_map] at hi
      obtain ⟨d0, h0, rfl⟩ := Option.map_eq_some_iff.1 hi
      rw [cells_lock, List.getElem?_map] at hj
      obtain ⟨e0, he0, rfl⟩ := Option.map_eq_some_iff.1 hj
      have hk' := hlen i d0 h0
      have h1 := (List.getElem?_eq_some_iff.1 h0).1
      have h2 : j < (g.m id).2 := by rw [← (c6 i d0 h0).1]; exact (List.getElem?_eq_some_iff.1 he0).1
      have : (i + 1) * (g.m id).2 ≤ xs.length * (g.m id).2 := Nat.mul_le_mul_right _ (by omega)
      rw [Nat.add_mul] at this
      have hlt : i * (g.m id).2 + j < cur.size := by omega
      rw [← hk']
      simp [World.cell?, c2, hlt]
    · rw [List.getElem?_map] at hi
      obtain ⟨d0, h0, rfl⟩ := Option.map_eq_some_iff.1 hi
      rw [cells_lock, List.getElem?_map] at hj
      obtain ⟨e0, he0, rfl⟩ := Option.map_eq_some_iff.1 hj
      exact ((c7 i d0 j e0 h0 he0).view fun b q o hq => R.s6 b _ o hq).lockC ((c6 i d0 h0).2 e0 (List.mem_of_getElem? he0)) g rfl _
  · cases h

/-- The cells of a source, in order. -/
def srcCells (sz m : Nat) (u : Nat → Nat → Value) : List Value := (List.range (m * sz)).map fun k => u (k / sz) (k % sz)
theorem srcCells_len (sz m : Nat) (u : Nat → Nat → Value) : (srcCells sz m u).length = m * sz := by simp [srcCells]
theorem srcCells_get {sz m : Nat} {u : Nat → Nat → Value} {i j : Nat} (hi : i < m) (hj : j < sz) : (srcCells sz m u)[i * sz + j]? = some (u i j) := by
  have hlt : i * sz + j < m * sz := by
    have : (i + 1) * sz ≤ m * sz := Nat.mul_le_mul_right _ hi
    rw [Nat.add_mul] at this; omega
  have h1 : (i * sz + j) / sz = i := by
    rw [Nat.add_comm, Nat.add_mul_div_right _ _ (by omega), Nat.div_eq_of_lt hj]; omega
  have h2 : (i * sz + j) % sz = j := by rw [Nat.add_comm, Nat.add_mul_mod_self_right, Nat.mod_eq_of_lt hj]
  simp [srcCells, hlt, h1, h2]

theorem run_append_zero (w : World) {t e ty : TypeId} {i : TypeInfo} (ht : P.underlying t = some (.slice e)) (hi : P.info? e = some i) (b A : Option Addr) (n c c' : Nat) (hc : n ≤ c) :
    (Builtin.append_ #[t, t] ty #[.slice b n c, .slice A 0 c']).run P w = .ok (.slice b n c) w := by
  cases b <;> cases A <;> simp [Builtin.append_, run_underlying ht, sizeOf, typeInfo, hi, Builtin.lenOf, Builtin.firstCells, loadCells, loadCellsFrom, storeCells, hc, pure]

theorem run_append_fits (w : World) {t e ty T : TypeId} {i : TypeInfo} (ht : P.underlying t = some (.slice e)) (hi : P.info? e = some i) (gb n c : Nat) (cur : Array Value) (hb : w.heap[gb]? = some (.cells cur T (0, 0))) (ad : Addr) (m c' : Nat) (news : List Value)
    (hl : news.length = m * i.size) (hnews : ∀ j u, news[j]? = some u → w.cell? (ad.add j) = some u) (h1 : ∀ u ∈ news, u.oneCell' = true) (hroom : n + m ≤ c) (hfit : n * i.size + news.length ≤ cur.size) :
    (Builtin.append_ #[t, t] ty #[.slice (some ⟨gb, 0, none⟩) n c, .slice (some ad) m c']).run P w =
      .ok (.slice (some ⟨gb, 0, none⟩) (n + m) c) (w.setRow gb (cur.toList.take (n * i.size) ++ news ++ cur.toList.drop (n * i.size + news.length)).toArray) := by
  have hf := run_firstCells_some (P := P) w i.size m ad m c' news hl hnews
  have hst := run_storeCells_at P gb (n * i.size) T news 0 cur w hb (by simpa using hfit) h1
  simp only [Nat.add_zero] at hst
  simp [Builtin.append_, run_underlying ht, sizeOf, typeInfo, hi, Builtin.lenOf, hroom, hf, Addr.add_lit, hst, pure]

theorem RelH.drew (R : RelH g s a w H) : RelH g s a w.drew H ∧ Stp g w g w.drew := by
  refine ⟨⟨⟨⟨R.s1, R.s2, R.s3, R.sN⟩, R.size, R.defers, fun i x hx => ?_, fun id xs hx => ?_, R.alive, R.s6⟩, fun k v x hm => ?_⟩, ⟨rfl, rfl, rfl, Nat.le_refl _, fun _ _ _ => rfl, fun _ _ _ => rfl, fun _ _ h => h, fun _ _ h => .inl h, fun _ h => .inr h, fun _ _ => rfl⟩⟩
  · exact ARel.mono (g := g) (g' := g) (w := w) (w' := w.drew) (fun _ _ h => h) (fun _ _ _ => rfl) (fun _ h => ⟨h, rfl⟩) (R.slot i x hx) _ fun _ _ h => ⟨h, rfl, rfl⟩
  · obtain ⟨h1, h2⟩ := R.obj id xs hx
    obtain ⟨cur, e, c1, c2, c3, c4, c5, c6, c7⟩ := h2.ex
    exact ⟨h1, ⟨cur, e, c1, c2, c3, c4, c5, c6, fun i d j e hi hj => ORel.mono (g := g) (g' := g) (w := w) (w' := w.drew) (fun _ _ h => h) (fun _ _ _ => rfl) (c7 i d j e hi hj) _ fun _ _ h => ⟨h, rfl, rfl⟩⟩⟩
  · exact ARel.mono (g := g) (g' := g) (w := w) (w' := w.drew) (fun _ _ h => h) (fun _ _ _ => rfl) (fun _ h => ⟨h, rfl⟩) (R.held k v x hm) _ fun _ _ h => ⟨h, rfl, rfl⟩

theorem ORel.drew {p : List Nat} {v : Value} {d : DV} (h : ORel g w p v d) : ORel g w.drew p v d :=
  ORel.mono (g := g) (g' := g) (w := w) (w' := w.drew) (fun _ _ h => h) (fun _ _ _ => rfl) h _ fun _ _ h => ⟨h, rfl, rfl⟩

/-- A row that stands at 0 has grown in its own block; it then stands at 1. -/
def Gh.gr (g : Gh) (φ : List Nat → Option (List Nat)) (b len : Nat) : Gh :=
  { g with ow := fun b => (g.ow b).bind φ, L := fun b' => if b' = b then len else g.L b', K := fun b' o => g.K b' o ∨ (b' = b ∧ o < len) }

theorem gr_ow {φ : List Nat → Option (List Nat)} {b0 len b : Nat} {q : List Nat} (h : (g.gr φ b0 len).ow b = some q) : ∃ r, g.ow b = some r ∧ φ r = some q := re_ow (g := g) (φ := φ) h

theorem RelH.grow (R : RelH g s a w H) (hH : ∀ y ∈ H, y.1 ≠ 0 ∧ y.1 ≠ 1) {b0 : Nat} (hb0 : g.ow b0 = some [2, 0]) (len : Nat) (hlen : g.L b0 ≤ len) {φ : List Nat → Option (List Nat)} (hφ0 : ∀ i q, φ (0 :: i :: q) = some (0 :: i :: q))
    (hφ1 : ∀ i q, φ (1 :: i :: q) = some (1 :: i :: q)) (hφ2 : ∀ k q, k ≠ 0 → k ≠ 1 → φ (2 :: k :: q) = some (2 :: k :: q))
    {w' : World} (hos : w'.os = w.os) (htape : w'.tape = w.tape) (hout : w'.output = w.output) (hsize : w'.heap.size = w.heap.size)
    (hblk : ∀ k, k ≠ b0 → w'.heap[k]? = w.heap[k]?) (hkeep : ∀ o, o < g.L b0 → w'.cell? ⟨b0, o, none⟩ = w.cell? ⟨b0, o, none⟩) :
    RelH (g.gr φ b0 len) s a w' H ∧ Stp g w (g.gr φ b0 len) w' := by
  have hK : ∀ b o, g.K b o → w'.cell? ⟨b, o, none⟩ = w.cell? ⟨b, o, none⟩ := by
    intro b o hk
    by_cases hb : b = b0
    · subst hb
      exact hkeep o (R.s2 _ _ o hb0 hk)
    · exact cell_other hblk hb o
  have hKK : ∀ b o, g.K b o → (g.gr φ b0 len).K b o := fun b o h => .inl h
  have hown : ∀ p : List Nat, (∀ r, p ++ r ≠ [2, 0]) → (∀ q, φ (p ++ q) = some (p ++ q)) → ∀ b q, g.ow b = some (p ++ q) → (g.gr φ b0 len).ow b = some (p ++ q) ∧ w'.heap[b]? = w.heap[b]? ∧ (g.gr φ b0 len).L b = g.L b := by
    intro p hp hφ b q hq
    have hne : b ≠ b0 := by
      intro e
      subst e
      rw [hb0] at hq
      injection hq with hq
      exact hp q hq.symm
    exact ⟨by simp [Gh.gr, hq, hφ q], hblk b hne, by simp [Gh.gr, hne]⟩
  have hlt0 := R.s1 _ _ hb0
  refine ⟨⟨⟨⟨fun b q h => by obtain ⟨r, hr, _⟩ := gr_ow h; rw [hsize]; exact R.s1 b r hr, fun b q o h hk => ?_, fun b o h => ?_, ⟨by rw [hsize]; exact R.sN.1, fun b q h => by obtain ⟨r, hr, _⟩ := gr_ow h; exact R.sN.2.1 b r hr, fun b hb => (hblk b fun e => by subst e; exact absurd (R.sN.2.1 _ _ hb0) (by omega)).trans (R.sN.2.2 b hb)⟩⟩, R.size, R.defers, fun i x hx => ?_, fun id xs hx => ?_, R.alive, fun b q o h ho => ?_⟩, fun k v x hm => ?_⟩,
    ⟨hos, htape, hout, by omega, fun b _ hn => hblk b (fun e => by subst e; rw [hb0] at hn; cases hn), hK, hKK, fun b o h => ?_, fun b h => .inr fun h0 => h (by simp [Gh.gr, h0]), fun _ _ => rfl⟩⟩
  · obtain ⟨r, hr, _⟩ := gr_ow h
    simp only [Gh.gr] at hk ⊢
    split
    · rename_i hb
      subst hb
      rcases hk with hk | hk
      · have := R.s2 _ _ o hr hk; omega
      · exact hk.2
    · rename_i hb
      rcases hk with hk | hk
      · exact R.s2 b r o hr hk
      · exact absurd hk.1 hb
  · rw [hsize]
    rcases h with h | h
    · exact R.s3 b o h
    · omega
  · exact ARel.mono (g := g) (g' := g.gr φ b0 len) hKK hK (fun _ h => ⟨h, rfl⟩) (R.slot i x hx) _ (hown _ (by simp) (fun q => hφ0 i q))
  · obtain ⟨h1, h2⟩ := R.obj id xs hx
    obtain ⟨cur, e, c1, c2, c3, c4, c5, c6, c7⟩ := h2.ex
    obtain ⟨d1, d2, d3⟩ := hown [1, id] (by simp) (fun q => hφ1 id q) _ [] (by simpa using c1)
    exact ⟨h1, ⟨cur, e, (by simpa using d1 : (g.gr φ b0 len).ow (g.m id).1 = some [1, id]), d2.trans c2, d3.trans c3, c4, c5, c6, fun i' d j e hi' hj => ORel.mono (g := g) (g' := g.gr φ b0 len) hKK hK (c7 i' d j e hi' hj) _ (hown _ (by simp) (fun q => hφ1 id _))⟩⟩
  · obtain ⟨r, hr, _⟩ := gr_ow h
    simp only [Gh.gr] at ho ⊢
    split at ho
    · rename_i hb; exact .inr ⟨hb, ho⟩
    · exact .inl (R.s6 b r o hr ho)
  · obtain ⟨h0, h1⟩ := hH _ hm
    exact ARel.mono (g := g) (g' := g.gr φ b0 len) hKK hK (fun _ h => ⟨h, rfl⟩) (R.held k v x hm) _ (hown _ (by simp; exact fun h => absurd h h0) (fun q => hφ2 k q h0 h1))
  · rcases h with h | h
    · exact .inl h
    · exact .inr (.inr (by rw [h.1, hb0]; simp))

theorem do_append (R : Rel g s a w) {t ty : TypeId} (x y : Operand) (dst : Option Nat) {d : DV} (h : appendAV (mkC P) t s (s.raw x) ((s.wrs (s.left x)).raw y) = some d) :
    Does P g (s.wrs (s.left x ++ ((s.wrs (s.left x)).left y ++ wrDst dst (.ow d)))) a w dst (Builtin.append_ #[t, t] ty #[a.eval x, a.eval y]) := by
  unfold appendAV at h
  split at h
  case h_2 => cases h
  rename_i e sz0 by0 ze0 eq0 k xs hti hx
  split at h
  case h_2 => cases h
  rename_i te ys hte hys
  split at h
  case isFalse => cases h
  rename_i hc
  obtain ⟨rfl, ⟨hpos, hst⟩, hbpos, hall, hbytes⟩ := hc
  obtain rfl := Option.some.inj h
  have hu := mkC_td hti
  simp only [tdOk] at hu
  obtain ⟨i, z, hi, hz, hzs, hs1, hb1, hsz, _, hagg, _⟩ := mkC_spec hte
  have hsz' : ∀ d ∈ ys, d.cells.length = te.size := fun d hd => by simpa using List.all_eq_true.1 hall d hd
  obtain ⟨φ1, R1⟩ := R.hold.take x 0 (by simp) (by rw [hx]; rfl)
  obtain ⟨φ2, R2⟩ := R1.take y 1 (by simp) (by
    cases hy : (s.wrs (s.left x)).raw y <;> first | rfl | (rw [hy] at hys; simp [rowOf] at hys))
  have S2 : Stp g w ((g.re φ1).re φ2) w := (Stp.re _ _ φ1).trans (Stp.re _ _ φ2)
  generalize hg2 : (g.re φ1).re φ2 = g2 at R2 S2
  have hob : ((s.wrs (s.left x)).wrs ((s.wrs (s.left x)).left y)).ob = s.ob := by rw [left_ob, left_ob]
  generalize hs2 : (s.wrs (s.left x)).wrs ((s.wrs (s.left x)).left y) = s2 at R2 hob
  have hsrc : Src g2 w (a.eval y) te.size ys := R2.toRel.src_of R2 (y := (s.wrs (s.left x)).raw y) (by simp) (by
    have : ∀ z, rowOf s2 z = rowOf s z := by intro z; unfold rowOf; rw [hob]
    rw [this]; exact hys) hsz'
  have hbase := (R2.held 0 (a.eval x) (s.raw x) (by simp))
  rw [hx] at hbase
  have hbase := hbase.inv_ow
  have hstate : s.wrs (s.left x ++ ((s.wrs (s.left x)).left y ++ wrDst dst (.ow (.sl te.size (xs ++ ys))))) = s2.wrs (wrDst dst (.ow (.sl te.size (xs ++ ys)))) := by rw [wrs_append, wrs_append, hs2]
  rw [hstate]
  have hm47 : (xs.length + ys.length) ≤ 140737488355328 := Nat.le_trans (Nat.le_mul_of_pos_right _ hbpos) hbytes
  have hmax : xs.length + ys.length ≤ maxLen := by simp only [maxLen]; omega
  obtain ⟨A, c', b, o, u, hv, hA, hd, hcell, hrel⟩ := hsrc.ex
  rw [hv]
  by_cases hm : ys.length = 0
  · -- nothing comes
    have hy0 : ys = [] := List.eq_nil_of_length_eq_zero hm
    subst hy0
    simp only [List.append_nil]
    obtain ⟨ψ, R3⟩ := (R2.perm (H' := [(0, a.eval x, .ow (.sl te.size xs))]) (by intro y hy; simp at hy; subst hy; simp [hx])).put (by simp) dst
    refine ⟨a.eval x, w, _, ?_, R3.toRel, S2.trans (Stp.re _ _ ψ)⟩
    have hshape : ∃ B c, a.eval x = .slice B xs.length c ∧ xs.length ≤ c := by
      rcases hbase.inv_sl with ⟨h | h, _⟩ | ⟨h1, h2⟩ | ⟨b, c, cur, e, h1, _, _, h4, _⟩
      · omega
      · simp only [stb] at h; omega
      · subst h2; exact ⟨none, 0, h1, Nat.le_refl _⟩
      · exact ⟨_, _, h1, h4⟩
    obtain ⟨B, c, hB, hcle⟩ := hshape
    rw [hB]
    exact run_append_zero w hu hi B A _ c c' hcle
  · have hA' := hA (by omega)
    subst hA'
    -- the cells that come
    have hnews : ∀ j v, (srcCells te.size ys.length u)[j]? = some v → w.cell? ((⟨b, o, none⟩ : Addr).add j) = some v := by
      intro j v hj
      rw [Addr.add_mid]
      have hlt : j < ys.length * te.size := by rw [← srcCells_len te.size ys.length u]; exact (List.getElem?_eq_some_iff.1 hj).1
      have hi1 : j / te.size < ys.length := by rw [Nat.div_lt_iff_lt_mul hpos]; exact hlt
      have hj1 : j % te.size < te.size := Nat.mod_lt _ hpos
      have hdm : j / te.size * te.size + j % te.size = j := by rw [Nat.mul_comm]; exact Nat.div_add_mod j te.size
      have h1 := List.getElem?_eq_getElem hi1
      have h2 : (ys[j / te.size]).cells[j % te.size]? = some _ := List.getElem?_eq_getElem (by rw [(hd _ _ h1).1]; exact hj1)
      have h3 := hcell _ _ _ _ h1 h2
      rw [Nat.add_assoc, hdm] at h3
      have h4 := srcCells_get (u := u) hi1 hj1
      rw [hdm, hj] at h4
      rw [h3]; exact h4.symm
    have hone : ∀ v ∈ srcCells te.size ys.length u, v.oneCell' = true := by
      intro v hv
      obtain ⟨j, hj, rfl⟩ := List.getElem_of_mem hv
      have hlt : j < ys.length * te.size := by rw [← srcCells_len te.size ys.length u]; exact hj
      have hi1 : j / te.size < ys.length := by rw [Nat.div_lt_iff_lt_mul hpos]; exact hlt
      have hj1 : j % te.size < te.size := Nat.mod_lt _ hpos
      have hdm : j / te.size * te.size + j % te.size = j := by rw [Nat.mul_comm]; exact Nat.div_add_mod j te.size
      have h1 := List.getElem?_eq_getElem hi1
      have h2 : (ys[j / te.size]).cells[j % te.size]? = some _ := List.getElem?_eq_getElem (by rw [(hd _ _ h1).1]; exact hj1)
      have h3 := (hrel _ _ _ _ h1 h2).oneCell ((hd _ _ h1).2 _ (List.mem_of_getElem? h2))
      have h4 := srcCells_get (u := u) hi1 hj1
      rw [hdm, List.getElem?_eq_getElem hj] at h4
      rw [Option.some.inj h4]
      exact h3
    have hyE : ∀ (i : Nat) (d : DV) (j : Nat) (e : DV), ys[i]? = some d → d.cells[j]? = some e → i < ys.length ∧ j < te.size := fun i d j e hi hj =>
      ⟨(List.getElem?_eq_some_iff.1 hi).1, by rw [← (hd i d hi).1]; exact (List.getElem?_eq_some_iff.1 hj).1⟩
    rcases hbase.inv_sl with ⟨h | h, _⟩ | ⟨h1, h2⟩ | ⟨gb, c, cur, T, h1, h2, h3, h4, h5, h6, h7, h8, h9, h10⟩
    · omega
    · simp only [stb] at h; omega
    · -- the first elements
      subst h2
      rw [h1]
      simp only [List.nil_append, List.length_nil, Nat.zero_add] at *
      have hr := run_append_nil (P := P) w t ty e i z hu hi hz ⟨b, o, none⟩ ys.length c' (srcCells te.size ys.length u) (by rw [srcCells_len, hs1]) hnews (by omega) (by omega) (by rw [hb1]; omega)
      obtain ⟨R3, S3⟩ := (R2.perm (H' := []) (by simp)).drew
      have hge := grownCap_ge w ys.length 0 e
      have hcm := grownCap_le_maxLen w ys.length 0 e hmax
      have hE : Els g2 w.drew [2, 1] (srcCells te.size ys.length u).toArray te.size ys := by
        refine ⟨by simp [srcCells_len], hd, fun i d j e hi hj => ?_⟩
        obtain ⟨hi', hj'⟩ := hyE i d j e hi hj
        have := (hrel i d j e hi hj).drew
        have hg : (srcCells te.size ys.length u).toArray.getD (i * te.size + j) undef = u i j := by simp [srcCells_get hi' hj']
        rw [hg]; exact this
      obtain ⟨g', R4, S4⟩ := R3.newRow (by simp) ((srcCells te.size ys.length u).toArray ++ Builtin.zeroCells z.cells (grownCap w ys.length 0 e - ys.length)) e te.size (grownCap w ys.length 0 e) ys hpos (srcCells te.size ys.length u).toArray
        (by simp only [Array.size_append, List.size_toArray, srcCells_len, size_zeroCells, hsz, ← Nat.add_mul]; congr 1; omega) hge hcm hE (fun n hn => by
          simp only [List.size_toArray] at hn
          rw [Array.getD_eq_getD_getElem?, Array.getD_eq_getD_getElem?, Array.getElem?_append_left (by simpa using hn)]) dst
      exact ⟨_, _, g', hr, R4.toRel, (S2.trans S3).trans S4⟩
    · rw [h1]
      by_cases hroom : xs.length + ys.length ≤ c
      · -- in place
        have hnl : xs.length * te.size ≤ (xs.length + ys.length) * te.size := Nat.mul_le_mul_right _ (by omega)
        have hcl : (xs.length + ys.length) * te.size ≤ c * te.size := Nat.mul_le_mul_right _ hroom
        have hadd : (xs.length + ys.length) * te.size = xs.length * te.size + ys.length * te.size := Nat.add_mul _ _ _
        have hr := run_append_fits (P := P) w (ty := ty) hu hi gb xs.length c cur h3 ⟨b, o, none⟩ ys.length c' (srcCells te.size ys.length u) (by rw [srcCells_len, hs1]) hnews hone hroom (by rw [srcCells_len, hs1]; omega)
        rw [hs1, srcCells_len] at hr
        let cur' : Array Value := (cur.toList.take (xs.length * te.size) ++ srcCells te.size ys.length u ++ cur.toList.drop (xs.length * te.size + ys.length * te.size)).toArray
        have hml : (cur.toList.take (xs.length * te.size)).length = xs.length * te.size := by simp; omega
        have hcs : cur'.size = c * te.size := by simp [cur', srcCells_len]; omega
        have hold : ∀ n, n < xs.length * te.size → cur'[n]? = cur[n]? := by
          intro n hn
          simp only [cur', List.getElem?_toArray]
          rw [List.append_assoc, List.getElem?_append_left (by omega), List.getElem?_take, if_pos hn]
          simp
        have hnew : ∀ n, n < ys.length * te.size → cur'[xs.length * te.size + n]? = (srcCells te.size ys.length u)[n]? := by
          intro n hn
          simp only [cur', List.getElem?_toArray]
          rw [List.append_assoc, List.getElem?_append_right (by omega), hml, List.getElem?_append_left (by rw [srcCells_len]; omega), Nat.add_sub_cancel_left]
        let φ : List Nat → Option (List Nat) := fun q => match q with
          | 2 :: k :: r => if k = 0 then some (2 :: 1 :: r) else if k = 1 then (match r with
              | i :: r' => some (2 :: 1 :: (xs.length + i) :: r')
              | [] => none) else some (2 :: k :: r)
          | q => some q
        have hblk : ∀ k, k ≠ gb → (w.setRow gb cur').heap[k]? = w.heap[k]? := fun k hk => setRow_other w gb k _ hk
        have hheap : (w.setRow gb cur').heap[gb]? = some (.cells cur' T (0, 0)) := setRow_heap w gb cur cur' T (0, 0) h3
        have hkeep : ∀ o, o < g2.L gb → (w.setRow gb cur').cell? ⟨gb, o, none⟩ = w.cell? ⟨gb, o, none⟩ := by
          intro o ho
          rw [h8] at ho
          simp [World.cell?, hheap, h3, hold o ho]
        obtain ⟨R3, S3⟩ := (R2.perm (H' := []) (by simp)).grow (by simp) h2 ((xs.length + ys.length) * te.size) (by rw [h8]; exact hnl) (φ := φ) (fun _ _ => rfl) (fun _ _ => rfl) (fun k q hk0 hk1 => by simp [φ, hk0, hk1]) (w' := w.setRow gb cur') rfl rfl rfl (setRow_size w gb _) hblk hkeep
        have hKK : ∀ b o, g2.K b o → (w.setRow gb cur').cell? ⟨b, o, none⟩ = w.cell? ⟨b, o, none⟩ := S3.kept
        have hmv : ∀ (p p' : List Nat) (v : Value) (f : DV), ORel g2 w p v f → (∀ r, p ++ r ≠ [2, 0]) → (∀ q, φ (p ++ q) = some (p' ++ q)) → ORel (g2.gr φ gb ((xs.length + ys.length) * te.size)) (w.setRow gb cur') p' v f := by
          intro p p' v f hf hp hφ
          refine ORel.mono (g := g2) (g' := g2.gr φ gb _) (fun _ _ h => .inl h) hKK hf p' fun b q hq => ?_
          have hne : b ≠ gb := by
            intro e
            subst e
            rw [h2] at hq
            injection hq with hq
            exact hp q hq.symm
          exact ⟨by simp [Gh.gr, hq, hφ q], hblk b hne, by simp [Gh.gr, hne]⟩
        have hO : ORel (g2.gr φ gb ((xs.length + ys.length) * te.size)) (w.setRow gb cur') [2, 1] (.slice (some ⟨gb, 0, none⟩) (xs.length + ys.length) c) (.sl te.size (xs ++ ys)) := by
          refine .sl (by simp [Gh.gr, h2, φ]) hheap (by simp) hroom h5 hcs h7 (by simp [Gh.gr]) (fun i d hi => ?_) (fun i d j e hi hj => ?_)
          · rw [List.getElem?_append] at hi
            split at hi
            · exact h9 i d hi
            · exact hd _ d hi
          · rw [List.getElem?_append] at hi
            split at hi
            · rename_i hlt
              have hj' : j < te.size := by rw [← (h9 i d hi).1]; exact (List.getElem?_eq_some_iff.1 hj).1
              have hin : i * te.size + j < xs.length * te.size := by
                have : (i + 1) * te.size ≤ xs.length * te.size := Nat.mul_le_mul_right _ hlt
                rw [Nat.add_mul] at this; omega
              rw [Array.getD_eq_getD_getElem?, hold _ hin, ← Array.getD_eq_getD_getElem?]
              exact hmv _ _ _ _ (h10 i d j e hi hj) (by simp) fun q => by simp [φ]
            · rename_i hge'
              obtain ⟨hi', hj'⟩ := hyE _ d j e hi hj
              have hidx : i * te.size + j = xs.length * te.size + ((i - xs.length) * te.size + j) := by
                have : xs.length * te.size ≤ i * te.size := Nat.mul_le_mul_right _ (by omega)
                rw [Nat.sub_mul]; omega
              have hin : (i - xs.length) * te.size + j < ys.length * te.size := by
                have : (i - xs.length + 1) * te.size ≤ ys.length * te.size := Nat.mul_le_mul_right _ hi'
                rw [Nat.add_mul] at this; omega
              rw [Array.getD_eq_getD_getElem?, hidx, hnew _ hin, srcCells_get hi' hj']
              refine hmv [2, 1, i - xs.length, j] _ _ _ (hrel _ d j e hi hj) (by simp) fun q => ?_
              simp [φ]
              omega
        have RH : RelH (g2.gr φ gb ((xs.length + ys.length) * te.size)) s2 a (w.setRow gb cur') [(1, .slice (some ⟨gb, 0, none⟩) (xs.length + ys.length) c, .ow (.sl te.size (xs ++ ys)))] :=
          ⟨R3.toRel, fun k v x hm => by simp at hm; obtain ⟨rfl, rfl, rfl⟩ := hm; exact .ow hO⟩
        obtain ⟨ψ, R4⟩ := RH.put (by simp) dst
        exact ⟨_, _, _, hr, R4.toRel, (S2.trans S3).trans (Stp.re _ _ ψ)⟩
      · -- a new block
        have hxcells : ∀ j v, (cur.toList.take (xs.length * te.size))[j]? = some v → w.cell? ((⟨gb, 0, none⟩ : Addr).add j) = some v := by
          intro j v hj
          rw [Addr.add_mid, Nat.zero_add]
          rw [List.getElem?_take] at hj
          split at hj
          · simp [World.cell?, h3]; simpa using hj
          · cases hj
        have hxl : xs.length * te.size ≤ cur.size := by rw [h6]; exact Nat.mul_le_mul_right _ h4
        have hr := run_append_grow (P := P) w t ty e i z hu hi hz ⟨gb, 0, none⟩ xs.length c (cur.toList.take (xs.length * te.size)) (by rw [hs1]; simp; omega) hxcells ⟨b, o, none⟩ ys.length c' (srcCells te.size ys.length u) (by rw [srcCells_len, hs1]) hnews (by omega) (by omega)
          (growslice_fits (by omega) (by rw [hb1]; exact hbytes))
        let φ : List Nat → Option (List Nat) := fun q => match q with
          | 2 :: k :: r => if k = 0 then (match r with
              | i :: r' => some (2 :: 1 :: i :: r')
              | [] => none) else if k = 1 then (match r with
              | i :: r' => some (2 :: 1 :: (xs.length + i) :: r')
              | [] => none) else none
          | q => some q
        obtain ⟨R3, S3⟩ := (R2.perm (H' := []) (by simp)).drew
        have R4 : RelH (g2.re φ) s2 a w.drew [] := ⟨R3.toRel.re' φ (fun _ _ => rfl) (fun _ _ => rfl), fun _ _ _ h => by cases h⟩
        have hge := grownCap_ge w (xs.length + ys.length) c e
        have hcm := grownCap_le_maxLen w (xs.length + ys.length) c e hmax
        have hE : Els (g2.re φ) w.drew [2, 1] (cur.toList.take (xs.length * te.size) ++ srcCells te.size ys.length u).toArray te.size (xs ++ ys) := by
          refine ⟨by simp [srcCells_len, Nat.add_mul]; omega, fun i d hi => ?_, fun i d j e hi hj => ?_⟩
          · rw [List.getElem?_append] at hi
            split at hi
            · exact h9 i d hi
            · exact hd _ d hi
          · rw [List.getElem?_append] at hi
            split at hi
            · rename_i hlt
              have hj' : j < te.size := by rw [← (h9 i d hi).1]; exact (List.getElem?_eq_some_iff.1 hj).1
              have hin : i * te.size + j < xs.length * te.size := by
                have : (i + 1) * te.size ≤ xs.length * te.size := Nat.mul_le_mul_right _ hlt
                rw [Nat.add_mul] at this; omega
              have hg : (cur.toList.take (xs.length * te.size) ++ srcCells te.size ys.length u).toArray.getD (i * te.size + j) undef = cur.getD (i * te.size + j) undef := by
                simp only [Array.getD_eq_getD_getElem?, List.getElem?_toArray]
                rw [List.getElem?_append_left (by simp; omega), List.getElem?_take, if_pos hin]
                simp
              rw [hg]
              exact ((h10 i d j e hi hj).drew).re fun q => by simp [φ]
            · rename_i hge'
              obtain ⟨hi', hj'⟩ := hyE _ d j e hi hj
              have hg : (cur.toList.take (xs.length * te.size) ++ srcCells te.size ys.length u).toArray.getD (i * te.size + j) undef = u (i - xs.length) j := by
                simp only [Array.getD_eq_getD_getElem?, List.getElem?_toArray]
                have hml : (cur.toList.take (xs.length * te.size)).length = xs.length * te.size := by simp; omega
                have hile : xs.length * te.size ≤ i * te.size := Nat.mul_le_mul_right _ (by omega)
                rw [List.getElem?_append_right (by rw [hml]; omega), hml]
                have hidx : i * te.size + j - xs.length * te.size = (i - xs.length) * te.size + j := by rw [Nat.sub_mul]; omega
                rw [hidx, srcCells_get hi' hj']
                rfl
              rw [hg]
              refine ((hrel _ d j e hi hj).drew).re fun q => ?_
              simp [φ]
              omega
        obtain ⟨g', R5, S5⟩ := R4.newRow (by simp) ((cur.toList.take (xs.length * te.size)).toArray ++ (srcCells te.size ys.length u).toArray ++ Builtin.zeroCells z.cells (grownCap w (xs.length + ys.length) c e - (xs.length + ys.length))) e te.size (grownCap w (xs.length + ys.length) c e) (xs ++ ys) hpos
          (cur.toList.take (xs.length * te.size) ++ srcCells te.size ys.length u).toArray
          (by
            have hml : (cur.toList.take (xs.length * te.size)).length = xs.length * te.size := by simp; omega
            simp only [Array.size_append, List.size_toArray, srcCells_len, size_zeroCells, hsz, hml, ← Nat.add_mul]; congr 1; omega) (by simpa using hge) hcm hE (fun n hn => by
            simp only [List.size_toArray] at hn
            rw [Array.getD_eq_getD_getElem?, Array.getD_eq_getD_getElem?, Array.getElem?_append_left (by simpa using hn)]
            simp) dst
        rw [List.length_append] at R5
        exact ⟨_, _, g', hr, R5.toRel, ((S2.trans S3).trans (Stp.re _ _ φ)).trans S5⟩

end
end Go.Vi
