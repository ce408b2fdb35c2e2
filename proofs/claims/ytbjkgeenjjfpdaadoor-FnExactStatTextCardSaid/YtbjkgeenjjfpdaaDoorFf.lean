/- Contracts of functions of the seat. No statement is proved in this text. -/
import Derived.Test.YtbjkgeenjjfpdaaDoorBa
import Derived.Test.YtbjkgeenjjfpdaaDoorPb
set_option linter.all false
set_option autoImplicit true
namespace Go.Vi
open Go Go.Proofs
set_option maxRecDepth 100000
set_option maxHeartbeats 4000000
set_option linter.unusedVariables false
set_option linter.unusedSimpArgs false
theorem nm_laws_szRow : (Tryd.f80.name == "runtime.NumGoroutine") = false := by kernel_rfl
theorem spec_laws_szRow (r : Row) (n : Int) (h0 : 0 ≤ n) (h1 : n ≤ 1048576) (hr : r.Line.length ≤ 9223372036854775807) :
    Spec Tryd.prog 80 [.sh (dRow r), .sh (.int .i64 n)] [] (.sh (.int .i64 (lft1 n (szRow r)))) [] := by
  refine spec_of_awp hm (tkT [4000]) Tryd.func80 rfl nm_laws_szRow ?_
  rw [Tryd.ntmps80, Sp_start (by simp)]
  simp only [go_sem, Nat.reduceAdd, Nat.reduceMul, Nat.reduceEqDiff, Nat.reduceLT, Nat.reduceLeDiff, Nat.reduceBEq]
  refine a_rs fun K hK => ?_   -- region 0
  simp (disch := omega) only [go_sem, Nat.reduceAdd, Nat.reduceMul, Nat.reduceEqDiff, Nat.reduceLT, Nat.reduceLeDiff, Nat.reduceBEq, w64, chk_pos]
  refine hK _ ?_
  clear hK K
  refine a_rs fun K hK => ?_   -- region 1
  simp (disch := omega) only [go_sem, Nat.reduceAdd, Nat.reduceMul, Nat.reduceEqDiff, Nat.reduceLT, Nat.reduceLeDiff, Nat.reduceBEq, w64, chk_pos]
  refine hK _ ?_
  clear hK K
  refine a_seqK fun K1 hK1 => ?_
  refine a_rs fun K hK => ?_   -- region 2
  simp only [go_sem, Nat.reduceAdd, Nat.reduceMul, Nat.reduceEqDiff, Nat.reduceLT, Nat.reduceLeDiff, Nat.reduceBEq]
  refine hK _ ?_
  clear hK K
  refine a_cond rfl (fun h1 => ?_) (fun h1 => ?_)   -- if t11
  · try simp only [Bool.not_eq_true', Bool.not_eq_false', Bool.not_not, Bool.not_eq_eq_eq_not, Bool.not_true, Bool.not_false] at h1
    have h1' := h1
    try simp [inr] at h1'
    refine a_rs fun K hK => ?_   -- region 3
    simp only [go_sem, Nat.reduceAdd, Nat.reduceMul, Nat.reduceEqDiff, Nat.reduceLT, Nat.reduceLeDiff, Nat.reduceBEq, h1]
    refine hK _ ?_
    clear hK K
    refine a_ret ⟨trivial, [.keep [4] []], ?_⟩
    simp only [go_sem, Nat.reduceAdd, Nat.reduceMul, Nat.reduceEqDiff, Nat.reduceLT, Nat.reduceLeDiff, Nat.reduceBEq, h1]
    refine ⟨_, _, rfl, rfl, rfl, ?_, rfl⟩
    simp only [go_sem, Nat.reduceAdd, Nat.reduceMul, Nat.reduceEqDiff, Nat.reduceLT, Nat.reduceLeDiff, Nat.reduceBEq, h1]
    all_goals
      rw [lft1_neg (by simp only [szRow]; omega)]
  try simp only [Bool.not_eq_true', Bool.not_eq_false', Bool.not_not, Bool.not_eq_eq_eq_not, Bool.not_true, Bool.not_false] at h1
  have h1' := h1
  try simp [inr] at h1'
  refine a_skip ?_
  refine hK1 _ ?_
  clear hK1 K1
  refine a_rs fun K hK => ?_   -- region 4
  simp only [go_sem, Nat.reduceAdd, Nat.reduceMul, Nat.reduceEqDiff, Nat.reduceLT, Nat.reduceLeDiff, Nat.reduceBEq, h1]
  refine hK _ ?_
  clear hK K
  refine a_ret ⟨trivial, [.keep [4] []], ?_⟩
  simp only [go_sem, Nat.reduceAdd, Nat.reduceMul, Nat.reduceEqDiff, Nat.reduceLT, Nat.reduceLeDiff, Nat.reduceBEq, h1]
  refine ⟨_, _, rfl, rfl, rfl, ?_, rfl⟩
  simp only [go_sem, Nat.reduceAdd, Nat.reduceMul, Nat.reduceEqDiff, Nat.reduceLT, Nat.reduceLeDiff, Nat.reduceBEq, h1]
  all_goals
    rw [lft1_pos (by simp only [szRow]; omega)]; rfl

theorem nm_laws_szRowS : (Tryd.f59.name == "runtime.NumGoroutine") = false := by kernel_rfl
theorem spec_laws_szRowS (l : List Row) (n : Int) (h0 : 0 ≤ n) (hn : n ≤ 1048576) (hl : l.length ≤ 9223372036854775807) (hr : ∀ r ∈ l, r.Line.length ≤ 9223372036854775807) :
    Spec Tryd.prog 59 [.sh (.sl 0 (l.map dRow)), .sh (.int .i64 n)] [] (.sh (.int .i64 (lft1 n (szRows l)))) [] := by
  refine spec_of_awp hm (tkT [10000]) Tryd.func59 rfl nm_laws_szRowS ?_
  rw [Tryd.ntmps59, Sp_start (by simp)]
  simp only [go_sem, Nat.reduceAdd, Nat.reduceMul, Nat.reduceEqDiff, Nat.reduceLT, Nat.reduceLeDiff, Nat.reduceBEq]
  refine a_rs fun K hK => ?_   -- region 0
  simp only [go_sem, Nat.reduceAdd, Nat.reduceMul, Nat.reduceEqDiff, Nat.reduceLT, Nat.reduceLeDiff, Nat.reduceBEq]
  refine hK _ ?_
  clear hK K
  refine a_rs fun K hK => ?_   -- region 1
  simp (disch := omega) only [go_sem, Nat.reduceAdd, Nat.reduceMul, Nat.reduceEqDiff, Nat.reduceLT, Nat.reduceLeDiff, Nat.reduceBEq, w64, chk_pos]
  refine hK _ ?_
  clear hK K
  refine a_seqK fun K1 hK1 => ?_
  refine a_rs fun K hK => ?_   -- region 2
  simp only [go_sem, Nat.reduceAdd, Nat.reduceMul, Nat.reduceEqDiff, Nat.reduceLT, Nat.reduceLeDiff, Nat.reduceBEq]
  refine hK _ ?_
  clear hK K
  refine a_cond rfl (fun h1 => ?_) (fun h1 => ?_)   -- if t11
  · try simp only [Bool.not_eq_true', Bool.not_eq_false', Bool.not_not, Bool.not_eq_eq_eq_not, Bool.not_true, Bool.not_false] at h1
    have h1' := h1
    try simp [inr] at h1'
    refine a_rs fun K hK => ?_   -- region 3
    simp only [go_sem, Nat.reduceAdd, Nat.reduceMul, Nat.reduceEqDiff, Nat.reduceLT, Nat.reduceLeDiff, Nat.reduceBEq, h1]
    refine hK _ ?_
    clear hK K
    refine a_ret ⟨trivial, [.keep [4] []], ?_⟩
    simp only [go_sem, Nat.reduceAdd, Nat.reduceMul, Nat.reduceEqDiff, Nat.reduceLT, Nat.reduceLeDiff, Nat.reduceBEq, h1]
    refine ⟨_, _, rfl, rfl, rfl, ?_, rfl⟩
    simp only [go_sem, Nat.reduceAdd, Nat.reduceMul, Nat.reduceEqDiff, Nat.reduceLT, Nat.reduceLeDiff, Nat.reduceBEq, h1]
    all_goals
      rw [lft1_neg (by unfold szRows; omega)]
  try simp only [Bool.not_eq_true', Bool.not_eq_false', Bool.not_not, Bool.not_eq_eq_eq_not, Bool.not_true, Bool.not_false] at h1
  have h1' := h1
  try simp [inr] at h1'
  refine a_skip ?_
  refine hK1 _ ?_
  clear hK1 K1
  refine a_seqK fun K2 hK2 => ?_
  refine a_rs fun K hK => ?_   -- region 4
  simp only [go_sem, Nat.reduceAdd, Nat.reduceMul, Nat.reduceEqDiff, Nat.reduceLT, Nat.reduceLeDiff, Nat.reduceBEq, h1]
  refine hK _ ?_
  clear hK K
  refine a_block ?_   -- block 0
  refine a_loopU (ι := Nat × Int) [0] [] (fun (i, m) => [(1, .sh (.int .i64 m)), (5, .sh (.int .i64 i))]) (fun (i, m) => []) (fun (i, m) => i ≤ l.length ∧ 0 ≤ m ∧ m ≤ 1048576 ∧ m - sumBy szRow (l.drop i) = n - szRows l) (fun (i, m) => l.length - i) (0, n - l.length) ?_ ?_ ?_
  · try simp (disch := omega) only [go_sem, Nat.reduceAdd, Nat.reduceMul, Nat.reduceEqDiff, Nat.reduceLT, Nat.reduceLeDiff, Nat.reduceBEq, w64, chk_pos, h1]
    try rfl
  · exact ⟨by omega, by omega, by omega, by simp only [szRows, List.drop_zero]; omega⟩
  rintro ⟨i, m⟩ hi
  simp only [] at hi
  simp only [go_sem, Nat.reduceAdd, Nat.reduceMul, Nat.reduceEqDiff, Nat.reduceLT, Nat.reduceLeDiff, Nat.reduceBEq, h1]
  refine a_seqK fun K3 hK3 => ?_
  refine a_rs fun K hK => ?_   -- region 5
  simp (disch := omega) only [go_sem, Nat.reduceAdd, Nat.reduceMul, Nat.reduceEqDiff, Nat.reduceLT, Nat.reduceLeDiff, Nat.reduceBEq, w64, chk_pos, h1]
  refine hK _ ?_
  clear hK K
  refine a_cond rfl (fun h2 => ?_) (fun h2 => ?_)   -- if t15
  · try simp only [Bool.not_eq_true', Bool.not_eq_false', Bool.not_not, Bool.not_eq_eq_eq_not, Bool.not_true, Bool.not_false] at h2
    have h2' := h2
    try simp [inr] at h2'
    obtain ⟨x, hx⟩ : ∃ x, l[i]? = some x := ⟨_, List.getElem?_eq_getElem h2'⟩
    have hd := sumBy_drop (f := szRow) hx
    have hm := List.mem_of_getElem? hx
    refine a_skip ?_
    refine hK3 _ ?_
    clear hK3 K3
    refine a_seqK fun K4 hK4 => ?_
    refine a_block ?_   -- block 1
    refine a_rs fun K hK => ?_   -- region 7
    simp (disch := omega) only [go_sem, Nat.reduceAdd, Nat.reduceMul, Nat.reduceEqDiff, Nat.reduceLT, Nat.reduceLeDiff, Nat.reduceBEq, w64, chk_pos, h1, h2, hx]
    refine r_callT rfl rfl rfl rfl rfl (spec_laws_szRow x m hi.2.1 hi.2.2.1 (hr x hm)) (by first | rfl | (simp only [go_sem, Nat.reduceAdd, Nat.reduceMul, Nat.reduceEqDiff, Nat.reduceLT, Nat.reduceLeDiff, Nat.reduceBEq, h1, h2, hx]; done) | (simp only [go_sem, Nat.reduceAdd, Nat.reduceMul, Nat.reduceEqDiff, Nat.reduceLT, Nat.reduceLeDiff, Nat.reduceBEq, h1, h2, hx]; rfl)) (by first | rfl | (simp [AV.okIds, AV.ok1]; done)) (by rfl) ?_
    simp only [go_sem, Nat.reduceAdd, Nat.reduceMul, Nat.reduceEqDiff, Nat.reduceLT, Nat.reduceLeDiff, Nat.reduceBEq, h1, h2, hx]
    refine hK _ ?_
    clear hK K
    refine a_rs fun K hK => ?_   -- region 8
    simp only [go_sem, Nat.reduceAdd, Nat.reduceMul, Nat.reduceEqDiff, Nat.reduceLT, Nat.reduceLeDiff, Nat.reduceBEq, h1, h2, hx]
    refine hK _ ?_
    clear hK K
    refine a_cond rfl (fun h3 => ?_) (fun h3 => ?_)   -- if t25
    · try simp only [Bool.not_eq_true', Bool.not_eq_false', Bool.not_not, Bool.not_eq_eq_eq_not, Bool.not_true, Bool.not_false] at h3
      have h3' := h3
      try simp [inr] at h3'
      refine a_rs fun K hK => ?_   -- region 9
      simp only [go_sem, Nat.reduceAdd, Nat.reduceMul, Nat.reduceEqDiff, Nat.reduceLT, Nat.reduceLeDiff, Nat.reduceBEq, h1, h2, hx, h3]
      refine hK _ ?_
      clear hK K
      refine a_ret ⟨trivial, [.keep [4] []], ?_⟩
      simp only [go_sem, Nat.reduceAdd, Nat.reduceMul, Nat.reduceEqDiff, Nat.reduceLT, Nat.reduceLeDiff, Nat.reduceBEq, h1, h2, hx, h3]
      refine ⟨_, _, rfl, rfl, rfl, ?_, rfl⟩
      simp only [go_sem, Nat.reduceAdd, Nat.reduceMul, Nat.reduceEqDiff, Nat.reduceLT, Nat.reduceLeDiff, Nat.reduceBEq, h1, h2, hx, h3]
      all_goals
        rw [lft1_neg]; have h3n := (lft1_lt (a := szRow x) hi.2.1).symm.trans h3; simp at h3n; omega
    try simp only [Bool.not_eq_true', Bool.not_eq_false', Bool.not_not, Bool.not_eq_eq_eq_not, Bool.not_true, Bool.not_false] at h3
    have h3' := h3
    try simp [inr] at h3'
    refine a_skip ?_
    refine hK4 _ ?_
    clear hK4 K4
    refine a_regP ?_
    simp (disch := omega) only [go_sem, Nat.reduceAdd, Nat.reduceMul, Nat.reduceEqDiff, Nat.reduceLT, Nat.reduceLeDiff, Nat.reduceBEq, w64, chk_pos, h1, h2, hx, h3]
    refine ⟨(i + 1, lft1 m (szRow x)), ?_, ?_, ?_⟩   -- round E1
    · try simp (disch := omega) only [go_sem, Nat.reduceAdd, Nat.reduceMul, Nat.reduceEqDiff, Nat.reduceLT, Nat.reduceLeDiff, Nat.reduceBEq, w64, chk_pos, h1, h2, hx, h3]
      try rfl
    all_goals try dsimp only
    · have hge := lft1_ge (a := szRow x) hi.2.1 (by simpa using h3)
      rw [lft1_pos hge]
      exact ⟨by omega, by omega, by omega, by omega⟩
    · omega
  try simp only [Bool.not_eq_true', Bool.not_eq_false', Bool.not_not, Bool.not_eq_eq_eq_not, Bool.not_true, Bool.not_false] at h2
  have h2' := h2
  try simp [inr] at h2'
  refine a_exit ?_
  simp only [go_sem, Nat.reduceAdd, Nat.reduceMul, Nat.reduceEqDiff, Nat.reduceLT, Nat.reduceLeDiff, Nat.reduceBEq, h1, h2]
  clear hK3 K3
  refine hK2 _ ?_
  clear hK2 K2
  refine a_rs fun K hK => ?_   -- region 10
  simp only [go_sem, Nat.reduceAdd, Nat.reduceMul, Nat.reduceEqDiff, Nat.reduceLT, Nat.reduceLeDiff, Nat.reduceBEq, h1, h2]
  refine hK _ ?_
  clear hK K
  refine a_ret ⟨trivial, [.keep [4] []], ?_⟩
  simp only [go_sem, Nat.reduceAdd, Nat.reduceMul, Nat.reduceEqDiff, Nat.reduceLT, Nat.reduceLeDiff, Nat.reduceBEq, h1, h2]
  refine ⟨_, _, rfl, rfl, rfl, ?_, rfl⟩
  simp only [go_sem, Nat.reduceAdd, Nat.reduceMul, Nat.reduceEqDiff, Nat.reduceLT, Nat.reduceLeDiff, Nat.reduceBEq, h1, h2]
  all_goals
    rw [lft1_pos]
    all_goals
      have e : l.drop i = [] := List.drop_eq_nil_iff.2 (by omega)
      have hz := hi.2.2.2
      rw [e] at hz
      simp only [sumBy] at hz
      first | omega | (congr 3; omega)

theorem nm_laws_szGroup : (Tryd.f42.name == "runtime.NumGoroutine") = false := by kernel_rfl
theorem spec_laws_szGroup (g : Group) (n : Int) (h0 : 0 ≤ n) (hn : n ≤ 1048576) (hl : g.Rows.length ≤ 9223372036854775807) (hr : ∀ r ∈ g.Rows, r.Line.length ≤ 9223372036854775807) :
    Spec Tryd.prog 42 [.sh (dGroup tS g), .sh (.int .i64 n)] [] (.sh (.int .i64 (lft1 n (szGroup g)))) [] := by
  refine spec_of_awp hm (tkT [4000]) Tryd.func42 rfl nm_laws_szGroup ?_
  rw [Tryd.ntmps42, Sp_start (by simp)]
  simp only [go_sem, Nat.reduceAdd, Nat.reduceMul, Nat.reduceEqDiff, Nat.reduceLT, Nat.reduceLeDiff, Nat.reduceBEq]
  refine a_rs fun K hK => ?_   -- region 0
  simp (disch := omega) only [go_sem, Nat.reduceAdd, Nat.reduceMul, Nat.reduceEqDiff, Nat.reduceLT, Nat.reduceLeDiff, Nat.reduceBEq, w64, chk_pos]
  refine hK _ ?_
  clear hK K
  refine a_rs fun K hK => ?_   -- region 1
  simp only [go_sem, Nat.reduceAdd, Nat.reduceMul, Nat.reduceEqDiff, Nat.reduceLT, Nat.reduceLeDiff, Nat.reduceBEq]
  refine r_callT rfl rfl rfl rfl rfl (spec_laws_szRowS g.Rows n h0 hn hl hr) (by first | rfl | (simp only [go_sem, Nat.reduceAdd, Nat.reduceMul, Nat.reduceEqDiff, Nat.reduceLT, Nat.reduceLeDiff, Nat.reduceBEq]; done) | (simp only [go_sem, Nat.reduceAdd, Nat.reduceMul, Nat.reduceEqDiff, Nat.reduceLT, Nat.reduceLeDiff, Nat.reduceBEq]; rfl)) (by first | rfl | (simp [AV.okIds, AV.ok1]; done)) (by rfl) ?_
  simp only [go_sem, Nat.reduceAdd, Nat.reduceMul, Nat.reduceEqDiff, Nat.reduceLT, Nat.reduceLeDiff, Nat.reduceBEq]
  refine hK _ ?_
  clear hK K
  refine a_seqK fun K1 hK1 => ?_
  refine a_rs fun K hK => ?_   -- region 2
  simp only [go_sem, Nat.reduceAdd, Nat.reduceMul, Nat.reduceEqDiff, Nat.reduceLT, Nat.reduceLeDiff, Nat.reduceBEq]
  refine hK _ ?_
  clear hK K
  refine a_cond rfl (fun h1 => ?_) (fun h1 => ?_)   -- if t10
  · try simp only [Bool.not_eq_true', Bool.not_eq_false', Bool.not_not, Bool.not_eq_eq_eq_not, Bool.not_true, Bool.not_false] at h1
    have h1' := h1
    try simp [inr] at h1'
    refine a_rs fun K hK => ?_   -- region 3
    simp only [go_sem, Nat.reduceAdd, Nat.reduceMul, Nat.reduceEqDiff, Nat.reduceLT, Nat.reduceLeDiff, Nat.reduceBEq, h1]
    refine hK _ ?_
    clear hK K
    refine a_ret ⟨trivial, [.keep [4] []], ?_⟩
    simp only [go_sem, Nat.reduceAdd, Nat.reduceMul, Nat.reduceEqDiff, Nat.reduceLT, Nat.reduceLeDiff, Nat.reduceBEq, h1]
    refine ⟨_, _, rfl, rfl, rfl, ?_, rfl⟩
    simp only [go_sem, Nat.reduceAdd, Nat.reduceMul, Nat.reduceEqDiff, Nat.reduceLT, Nat.reduceLeDiff, Nat.reduceBEq, h1]
    all_goals
      have h1n := (lft1_lt (a := szRows g.Rows) h0).symm.trans h1; simp at h1n
      rw [lft1_neg (by simp only [szGroup]; omega)]
  try simp only [Bool.not_eq_true', Bool.not_eq_false', Bool.not_not, Bool.not_eq_eq_eq_not, Bool.not_true, Bool.not_false] at h1
  have h1' := h1
  try simp [inr] at h1'
  refine a_skip ?_
  refine hK1 _ ?_
  clear hK1 K1
  refine a_rs fun K hK => ?_   -- region 4
  simp only [go_sem, Nat.reduceAdd, Nat.reduceMul, Nat.reduceEqDiff, Nat.reduceLT, Nat.reduceLeDiff, Nat.reduceBEq, h1]
  refine hK _ ?_
  clear hK K
  refine a_ret ⟨trivial, [.keep [4] []], ?_⟩
  simp only [go_sem, Nat.reduceAdd, Nat.reduceMul, Nat.reduceEqDiff, Nat.reduceLT, Nat.reduceLeDiff, Nat.reduceBEq, h1]
  refine ⟨_, _, rfl, rfl, rfl, ?_, rfl⟩
  simp only [go_sem, Nat.reduceAdd, Nat.reduceMul, Nat.reduceEqDiff, Nat.reduceLT, Nat.reduceLeDiff, Nat.reduceBEq, h1]
  all_goals
    rfl

theorem nm_laws_szGroupS : (Tryd.f29.name == "runtime.NumGoroutine") = false := by kernel_rfl
theorem spec_laws_szGroupS (l : List Group) (n : Int) (h0 : 0 ≤ n) (hn : n ≤ 1048576) (hl : l.length ≤ 9223372036854775807) (hg : ∀ g ∈ l, g.Rows.length ≤ 9223372036854775807) (hr : ∀ g ∈ l, ∀ r ∈ g.Rows, r.Line.length ≤ 9223372036854775807) :
    Spec Tryd.prog 29 [.sh (.sl 0 (l.map (dGroup tS))), .sh (.int .i64 n)] [] (.sh (.int .i64 (lft1 n (szGroups l)))) [] := by
  refine spec_of_awp hm (tkT [10000]) Tryd.func29 rfl nm_laws_szGroupS ?_
  rw [Tryd.ntmps29, Sp_start (by simp)]
  simp only [go_sem, Nat.reduceAdd, Nat.reduceMul, Nat.reduceEqDiff, Nat.reduceLT, Nat.reduceLeDiff, Nat.reduceBEq]
  refine a_rs fun K hK => ?_   -- region 0
  simp only [go_sem, Nat.reduceAdd, Nat.reduceMul, Nat.reduceEqDiff, Nat.reduceLT, Nat.reduceLeDiff, Nat.reduceBEq]
  refine hK _ ?_
  clear hK K
  refine a_rs fun K hK => ?_   -- region 1
  simp (disch := omega) only [go_sem, Nat.reduceAdd, Nat.reduceMul, Nat.reduceEqDiff, Nat.reduceLT, Nat.reduceLeDiff, Nat.reduceBEq, w64, chk_pos]
  refine hK _ ?_
  clear hK K
  refine a_seqK fun K1 hK1 => ?_
  refine a_rs fun K hK => ?_   -- region 2
  simp only [go_sem, Nat.reduceAdd, Nat.reduceMul, Nat.reduceEqDiff, Nat.reduceLT, Nat.reduceLeDiff, Nat.reduceBEq]
  refine hK _ ?_
  clear hK K
  refine a_cond rfl (fun h1 => ?_) (fun h1 => ?_)   -- if t11
  · try simp only [Bool.not_eq_true', Bool.not_eq_false', Bool.not_not, Bool.not_eq_eq_eq_not, Bool.not_true, Bool.not_false] at h1
    have h1' := h1
    try simp [inr] at h1'
    refine a_rs fun K hK => ?_   -- region 3
    simp only [go_sem, Nat.reduceAdd, Nat.reduceMul, Nat.reduceEqDiff, Nat.reduceLT, Nat.reduceLeDiff, Nat.reduceBEq, h1]
    refine hK _ ?_
    clear hK K
    refine a_ret ⟨trivial, [.keep [4] []], ?_⟩
    simp only [go_sem, Nat.reduceAdd, Nat.reduceMul, Nat.reduceEqDiff, Nat.reduceLT, Nat.reduceLeDiff, Nat.reduceBEq, h1]
    refine ⟨_, _, rfl, rfl, rfl, ?_, rfl⟩
    simp only [go_sem, Nat.reduceAdd, Nat.reduceMul, Nat.reduceEqDiff, Nat.reduceLT, Nat.reduceLeDiff, Nat.reduceBEq, h1]
    all_goals
      rw [lft1_neg (by unfold szGroups; omega)]
  try simp only [Bool.not_eq_true', Bool.not_eq_false', Bool.not_not, Bool.not_eq_eq_eq_not, Bool.not_true, Bool.not_false] at h1
  have h1' := h1
  try simp [inr] at h1'
  refine a_skip ?_
  refine hK1 _ ?_
  clear hK1 K1
  refine a_seqK fun K2 hK2 => ?_
  refine a_rs fun K hK => ?_   -- region 4
  simp only [go_sem, Nat.reduceAdd, Nat.reduceMul, Nat.reduceEqDiff, Nat.reduceLT, Nat.reduceLeDiff, Nat.reduceBEq, h1]
  refine hK _ ?_
  clear hK K
  refine a_block ?_   -- block 0
  refine a_loopU (ι := Nat × Int) [0] [] (fun (i, m) => [(1, .sh (.int .i64 m)), (5, .sh (.int .i64 i))]) (fun (i, m) => []) (fun (i, m) => i ≤ l.length ∧ 0 ≤ m ∧ m ≤ 1048576 ∧ m - sumBy szGroup (l.drop i) = n - szGroups l) (fun (i, m) => l.length - i) (0, n - l.length) ?_ ?_ ?_
  · try simp (disch := omega) only [go_sem, Nat.reduceAdd, Nat.reduceMul, Nat.reduceEqDiff, Nat.reduceLT, Nat.reduceLeDiff, Nat.reduceBEq, w64, chk_pos, h1]
    try rfl
  · exact ⟨by omega, by omega, by omega, by simp only [szGroups, List.drop_zero]; omega⟩
  rintro ⟨i, m⟩ hi
  simp only [] at hi
  simp only [go_sem, Nat.reduceAdd, Nat.reduceMul, Nat.reduceEqDiff, Nat.reduceLT, Nat.reduceLeDiff, Nat.reduceBEq, h1]
  refine a_seqK fun K3 hK3 => ?_
  refine a_rs fun K hK => ?_   -- region 5
  simp (disch := omega) only [go_sem, Nat.reduceAdd, Nat.reduceMul, Nat.reduceEqDiff, Nat.reduceLT, Nat.reduceLeDiff, Nat.reduceBEq, w64, chk_pos, h1]
  refine hK _ ?_
  clear hK K
  refine a_cond rfl (fun h2 => ?_) (fun h2 => ?_)   -- if t15
  · try simp only [Bool.not_eq_true', Bool.not_eq_false', Bool.not_not, Bool.not_eq_eq_eq_not, Bool.not_true, Bool.not_false] at h2
    have h2' := h2
    try simp [inr] at h2'
    obtain ⟨x, hx⟩ : ∃ x, l[i]? = some x := ⟨_, List.getElem?_eq_getElem h2'⟩
    have hd := sumBy_drop (f := szGroup) hx
    have hm := List.mem_of_getElem? hx
    refine a_skip ?_
    refine hK3 _ ?_
    clear hK3 K3
    refine a_seqK fun K4 hK4 => ?_
    refine a_block ?_   -- block 1
    refine a_rs fun K hK => ?_   -- region 7
    simp (disch := omega) only [go_sem, Nat.reduceAdd, Nat.reduceMul, Nat.reduceEqDiff, Nat.reduceLT, Nat.reduceLeDiff, Nat.reduceBEq, w64, chk_pos, h1, h2, hx]
    refine r_callT rfl rfl rfl rfl rfl (spec_laws_szGroup x m hi.2.1 hi.2.2.1 (hg x hm) (hr x hm)) (by first | rfl | (simp only [go_sem, Nat.reduceAdd, Nat.reduceMul, Nat.reduceEqDiff, Nat.reduceLT, Nat.reduceLeDiff, Nat.reduceBEq, h1, h2, hx]; done) | (simp only [go_sem, Nat.reduceAdd, Nat.reduceMul, Nat.reduceEqDiff, Nat.reduceLT, Nat.reduceLeDiff, Nat.reduceBEq, h1, h2, hx]; rfl)) (by first | rfl | (simp [AV.okIds, AV.ok1]; done)) (by rfl) ?_
    simp only [go_sem, Nat.reduceAdd, Nat.reduceMul, Nat.reduceEqDiff, Nat.reduceLT, Nat.reduceLeDiff, Nat.reduceBEq, h1, h2, hx]
    refine hK _ ?_
    clear hK K
    refine a_rs fun K hK => ?_   -- region 8
    simp only [go_sem, Nat.reduceAdd, Nat.reduceMul, Nat.reduceEqDiff, Nat.reduceLT, Nat.reduceLeDiff, Nat.reduceBEq, h1, h2, hx]
    refine hK _ ?_
    clear hK K
    refine a_cond rfl (fun h3 => ?_) (fun h3 => ?_)   -- if t25
    · try simp only [Bool.not_eq_true', Bool.not_eq_false', Bool.not_not, Bool.not_eq_eq_eq_not, Bool.not_true, Bool.not_false] at h3
      have h3' := h3
      try simp [inr] at h3'
      refine a_rs fun K hK => ?_   -- region 9
      simp only [go_sem, Nat.reduceAdd, Nat.reduceMul, Nat.reduceEqDiff, Nat.reduceLT, Nat.reduceLeDiff, Nat.reduceBEq, h1, h2, hx, h3]
      refine hK _ ?_
      clear hK K
      refine a_ret ⟨trivial, [.keep [4] []], ?_⟩
      simp only [go_sem, Nat.reduceAdd, Nat.reduceMul, Nat.reduceEqDiff, Nat.reduceLT, Nat.reduceLeDiff, Nat.reduceBEq, h1, h2, hx, h3]
      refine ⟨_, _, rfl, rfl, rfl, ?_, rfl⟩
      simp only [go_sem, Nat.reduceAdd, Nat.reduceMul, Nat.reduceEqDiff, Nat.reduceLT, Nat.reduceLeDiff, Nat.reduceBEq, h1, h2, hx, h3]
      all_goals
        rw [lft1_neg]; have h3n := (lft1_lt (a := szGroup x) hi.2.1).symm.trans h3; simp at h3n; omega
    try simp only [Bool.not_eq_true', Bool.not_eq_false', Bool.not_not, Bool.not_eq_eq_eq_not, Bool.not_true, Bool.not_false] at h3
    have h3' := h3
    try simp [inr] at h3'
    refine a_skip ?_
    refine hK4 _ ?_
    clear hK4 K4
    refine a_regP ?_
    simp (disch := omega) only [go_sem, Nat.reduceAdd, Nat.reduceMul, Nat.reduceEqDiff, Nat.reduceLT, Nat.reduceLeDiff, Nat.reduceBEq, w64, chk_pos, h1, h2, hx, h3]
    refine ⟨(i + 1, lft1 m (szGroup x)), ?_, ?_, ?_⟩   -- round E1
    · try simp (disch := omega) only [go_sem, Nat.reduceAdd, Nat.reduceMul, Nat.reduceEqDiff, Nat.reduceLT, Nat.reduceLeDiff, Nat.reduceBEq, w64, chk_pos, h1, h2, hx, h3]
      try rfl
    all_goals try dsimp only
    · have hge := lft1_ge (a := szGroup x) hi.2.1 (by simpa using h3)
      rw [lft1_pos hge]
      exact ⟨by omega, by omega, by omega, by omega⟩
    · omega
  try simp only [Bool.not_eq_true', Bool.not_eq_false', Bool.not_not, Bool.not_eq_eq_eq_not, Bool.not_true, Bool.not_false] at h2
  have h2' := h2
  try simp [inr] at h2'
  refine a_exit ?_
  simp only [go_sem, Nat.reduceAdd, Nat.reduceMul, Nat.reduceEqDiff, Nat.reduceLT, Nat.reduceLeDiff, Nat.reduceBEq, h1, h2]
  clear hK3 K3
  refine hK2 _ ?_
  clear hK2 K2
  refine a_rs fun K hK => ?_   -- region 10
  simp only [go_sem, Nat.reduceAdd, Nat.reduceMul, Nat.reduceEqDiff, Nat.reduceLT, Nat.reduceLeDiff, Nat.reduceBEq, h1, h2]
  refine hK _ ?_
  clear hK K
  refine a_ret ⟨trivial, [.keep [4] []], ?_⟩
  simp only [go_sem, Nat.reduceAdd, Nat.reduceMul, Nat.reduceEqDiff, Nat.reduceLT, Nat.reduceLeDiff, Nat.reduceBEq, h1, h2]
  refine ⟨_, _, rfl, rfl, rfl, ?_, rfl⟩
  simp only [go_sem, Nat.reduceAdd, Nat.reduceMul, Nat.reduceEqDiff, Nat.reduceLT, Nat.reduceLeDiff, Nat.reduceBEq, h1, h2]
  all_goals
    rw [lft1_pos]
    all_goals
      have e : l.drop i = [] := List.drop_eq_nil_iff.2 (by omega)
      have hz := hi.2.2.2
      rw [e] at hz
      simp only [sumBy] at hz
      first | omega | (congr 3; omega)

theorem nm_laws_szFileDiff : (Tryd.f17.name == "runtime.NumGoroutine") = false := by kernel_rfl
theorem spec_laws_szFileDiff (d : FDiff) (n : Int) (h0 : 0 ≤ n) (hn : n ≤ 1048576) (hd : FDmax d) :
    Spec Tryd.prog 17 [.sh (dFD tS d), .sh (.int .i64 n)] [] (.sh (.int .i64 (lft1 n (szFD d)))) [] := by
  obtain ⟨hd1, hd2, hd3, hd4⟩ := hd
  refine spec_of_awp hm (tkT [7000]) Tryd.func17 rfl nm_laws_szFileDiff ?_
  rw [Tryd.ntmps17, Sp_start (by simp)]
  simp only [go_sem, Nat.reduceAdd, Nat.reduceMul, Nat.reduceEqDiff, Nat.reduceLT, Nat.reduceLeDiff, Nat.reduceBEq]
  refine a_rs fun K hK => ?_   -- region 0
  simp (disch := omega) only [go_sem, Nat.reduceAdd, Nat.reduceMul, Nat.reduceEqDiff, Nat.reduceLT, Nat.reduceLeDiff, Nat.reduceBEq, w64, chk_pos]
  refine hK _ ?_
  clear hK K
  refine a_rs fun K hK => ?_   -- region 1
  simp (disch := omega) only [go_sem, Nat.reduceAdd, Nat.reduceMul, Nat.reduceEqDiff, Nat.reduceLT, Nat.reduceLeDiff, Nat.reduceBEq, w64, chk_pos]
  refine hK _ ?_
  clear hK K
  refine a_seqK fun K1 hK1 => ?_
  refine a_rs fun K hK => ?_   -- region 2
  simp only [go_sem, Nat.reduceAdd, Nat.reduceMul, Nat.reduceEqDiff, Nat.reduceLT, Nat.reduceLeDiff, Nat.reduceBEq]
  refine hK _ ?_
  clear hK K
  refine a_cond rfl (fun h1 => ?_) (fun h1 => ?_)   -- if t11
  · try simp only [Bool.not_eq_true', Bool.not_eq_false', Bool.not_not, Bool.not_eq_eq_eq_not, Bool.not_true, Bool.not_false] at h1
    have h1' := h1
    try simp [inr] at h1'
    refine a_rs fun K hK => ?_   -- region 3
    simp only [go_sem, Nat.reduceAdd, Nat.reduceMul, Nat.reduceEqDiff, Nat.reduceLT, Nat.reduceLeDiff, Nat.reduceBEq, h1]
    refine hK _ ?_
    clear hK K
    refine a_ret ⟨trivial, [.keep [4] []], ?_⟩
    simp only [go_sem, Nat.reduceAdd, Nat.reduceMul, Nat.reduceEqDiff, Nat.reduceLT, Nat.reduceLeDiff, Nat.reduceBEq, h1]
    refine ⟨_, _, rfl, rfl, rfl, ?_, rfl⟩
    simp only [go_sem, Nat.reduceAdd, Nat.reduceMul, Nat.reduceEqDiff, Nat.reduceLT, Nat.reduceLeDiff, Nat.reduceBEq, h1]
    all_goals
      rw [lft1_neg (by simp only [szFD]; omega)]
  try simp only [Bool.not_eq_true', Bool.not_eq_false', Bool.not_not, Bool.not_eq_eq_eq_not, Bool.not_true, Bool.not_false] at h1
  have h1' := h1
  try simp [inr] at h1'
  refine a_skip ?_
  refine hK1 _ ?_
  clear hK1 K1
  refine a_rs fun K hK => ?_   -- region 4
  simp only [go_sem, Nat.reduceAdd, Nat.reduceMul, Nat.reduceEqDiff, Nat.reduceLT, Nat.reduceLeDiff, Nat.reduceBEq, h1]
  refine r_callT rfl rfl rfl rfl rfl (spec_laws_szGroupS d.Part (n - d.Name.length) (by omega) (by omega) hd2 hd3 hd4) (by first | rfl | (simp only [go_sem, Nat.reduceAdd, Nat.reduceMul, Nat.reduceEqDiff, Nat.reduceLT, Nat.reduceLeDiff, Nat.reduceBEq, h1]; done) | (simp only [go_sem, Nat.reduceAdd, Nat.reduceMul, Nat.reduceEqDiff, Nat.reduceLT, Nat.reduceLeDiff, Nat.reduceBEq, h1]; rfl)) (by first | rfl | (simp [AV.okIds, AV.ok1]; done)) (by rfl) ?_
  simp only [go_sem, Nat.reduceAdd, Nat.reduceMul, Nat.reduceEqDiff, Nat.reduceLT, Nat.reduceLeDiff, Nat.reduceBEq, h1]
  refine hK _ ?_
  clear hK K
  refine a_seqK fun K2 hK2 => ?_
  refine a_rs fun K hK => ?_   -- region 5
  simp only [go_sem, Nat.reduceAdd, Nat.reduceMul, Nat.reduceEqDiff, Nat.reduceLT, Nat.reduceLeDiff, Nat.reduceBEq, h1]
  refine hK _ ?_
  clear hK K
  refine a_cond rfl (fun h2 => ?_) (fun h2 => ?_)   -- if t17
  · try simp only [Bool.not_eq_true', Bool.not_eq_false', Bool.not_not, Bool.not_eq_eq_eq_not, Bool.not_true, Bool.not_false] at h2
    have h2' := h2
    try simp [inr] at h2'
    refine a_rs fun K hK => ?_   -- region 6
    simp only [go_sem, Nat.reduceAdd, Nat.reduceMul, Nat.reduceEqDiff, Nat.reduceLT, Nat.reduceLeDiff, Nat.reduceBEq, h1, h2]
    refine hK _ ?_
    clear hK K
    refine a_ret ⟨trivial, [.keep [4] []], ?_⟩
    simp only [go_sem, Nat.reduceAdd, Nat.reduceMul, Nat.reduceEqDiff, Nat.reduceLT, Nat.reduceLeDiff, Nat.reduceBEq, h1, h2]
    refine ⟨_, _, rfl, rfl, rfl, ?_, rfl⟩
    simp only [go_sem, Nat.reduceAdd, Nat.reduceMul, Nat.reduceEqDiff, Nat.reduceLT, Nat.reduceLeDiff, Nat.reduceBEq, h1, h2]
    all_goals
      have h2n := (lft1_lt (a := szGroups d.Part) (n := n - d.Name.length) (by omega)).symm.trans h2; simp at h2n
      rw [lft1_neg (by simp only [szFD]; omega)]
  try simp only [Bool.not_eq_true', Bool.not_eq_false', Bool.not_not, Bool.not_eq_eq_eq_not, Bool.not_true, Bool.not_false] at h2
  have h2' := h2
  try simp [inr] at h2'
  refine a_skip ?_
  refine hK2 _ ?_
  clear hK2 K2
  refine a_rs fun K hK => ?_   -- region 7
  simp only [go_sem, Nat.reduceAdd, Nat.reduceMul, Nat.reduceEqDiff, Nat.reduceLT, Nat.reduceLeDiff, Nat.reduceBEq, h1, h2]
  refine hK _ ?_
  clear hK K
  refine a_ret ⟨trivial, [.keep [4] []], ?_⟩
  simp only [go_sem, Nat.reduceAdd, Nat.reduceMul, Nat.reduceEqDiff, Nat.reduceLT, Nat.reduceLeDiff, Nat.reduceBEq, h1, h2]
  refine ⟨_, _, rfl, rfl, rfl, ?_, rfl⟩
  simp only [go_sem, Nat.reduceAdd, Nat.reduceMul, Nat.reduceEqDiff, Nat.reduceLT, Nat.reduceLeDiff, Nat.reduceBEq, h1, h2]
  all_goals
    have h2n := lft1_ge (a := szGroups d.Part) (n := n - d.Name.length) (by omega) (by simpa using h2)
    have e : n - d.Name.length - (szGroups d.Part : Nat) = n - (szFD d : Nat) := by simp only [szFD]; omega
    rw [lft1_pos h2n, lft1_pos (by simp only [szFD]; omega), e]

theorem nm_laws_szFileDiffS : (Tryd.f6.name == "runtime.NumGoroutine") = false := by kernel_rfl
theorem spec_laws_szFileDiffS (l : List FDiff) (n : Int) (h0 : 0 ≤ n) (hn : n ≤ 1048576) (hl : l.length ≤ 9223372036854775807) (hd0 : ∀ d ∈ l, FDmax d) :
    Spec Tryd.prog 6 [.sh (.sl 0 (l.map (dFD tS))), .sh (.int .i64 n)] [] (.sh (.int .i64 (lft1 n (szFDs l)))) [] := by
  refine spec_of_awp hm (tkT [10000]) Tryd.func6 rfl nm_laws_szFileDiffS ?_
  rw [Tryd.ntmps6, Sp_start (by simp)]
  simp only [go_sem, Nat.reduceAdd, Nat.reduceMul, Nat.reduceEqDiff, Nat.reduceLT, Nat.reduceLeDiff, Nat.reduceBEq]
  refine a_rs fun K hK => ?_   -- region 0
  simp only [go_sem, Nat.reduceAdd, Nat.reduceMul, Nat.reduceEqDiff, Nat.reduceLT, Nat.reduceLeDiff, Nat.reduceBEq]
  refine hK _ ?_
  clear hK K
  refine a_rs fun K hK => ?_   -- region 1
  simp (disch := omega) only [go_sem, Nat.reduceAdd, Nat.reduceMul, Nat.reduceEqDiff, Nat.reduceLT, Nat.reduceLeDiff, Nat.reduceBEq, w64, chk_pos]
  refine hK _ ?_
  clear hK K
  refine a_seqK fun K1 hK1 => ?_
  refine a_rs fun K hK => ?_   -- region 2
  simp only [go_sem, Nat.reduceAdd, Nat.reduceMul, Nat.reduceEqDiff, Nat.reduceLT, Nat.reduceLeDiff, Nat.reduceBEq]
  refine hK _ ?_
  clear hK K
  refine a_cond rfl (fun h1 => ?_) (fun h1 => ?_)   -- if t11
  · try simp only [Bool.not_eq_true', Bool.not_eq_false', Bool.not_not, Bool.not_eq_eq_eq_not, Bool.not_true, Bool.not_false] at h1
    have h1' := h1
    try simp [inr] at h1'
    refine a_rs fun K hK => ?_   -- region 3
    simp only [go_sem, Nat.reduceAdd, Nat.reduceMul, Nat.reduceEqDiff, Nat.reduceLT, Nat.reduceLeDiff, Nat.reduceBEq, h1]
    refine hK _ ?_
    clear hK K
    refine a_ret ⟨trivial, [.keep [4] []], ?_⟩
    simp only [go_sem, Nat.reduceAdd, Nat.reduceMul, Nat.reduceEqDiff, Nat.reduceLT, Nat.reduceLeDiff, Nat.reduceBEq, h1]
    refine ⟨_, _, rfl, rfl, rfl, ?_, rfl⟩
    simp only [go_sem, Nat.reduceAdd, Nat.reduceMul, Nat.reduceEqDiff, Nat.reduceLT, Nat.reduceLeDiff, Nat.reduceBEq, h1]
    all_goals
      rw [lft1_neg (by unfold szFDs; omega)]
  try simp only [Bool.not_eq_true', Bool.not_eq_false', Bool.not_not, Bool.not_eq_eq_eq_not, Bool.not_true, Bool.not_false] at h1
  have h1' := h1
  try simp [inr] at h1'
  refine a_skip ?_
  refine hK1 _ ?_
  clear hK1 K1
  refine a_seqK fun K2 hK2 => ?_
  refine a_rs fun K hK => ?_   -- region 4
  simp only [go_sem, Nat.reduceAdd, Nat.reduceMul, Nat.reduceEqDiff, Nat.reduceLT, Nat.reduceLeDiff, Nat.reduceBEq, h1]
  refine hK _ ?_
  clear hK K
  refine a_block ?_   -- block 0
  refine a_loopU (ι := Nat × Int) [0] [] (fun (i, m) => [(1, .sh (.int .i64 m)), (5, .sh (.int .i64 i))]) (fun (i, m) => []) (fun (i, m) => i ≤ l.length ∧ 0 ≤ m ∧ m ≤ 1048576 ∧ m - sumBy szFD (l.drop i) = n - szFDs l) (fun (i, m) => l.length - i) (0, n - l.length) ?_ ?_ ?_
  · try simp (disch := omega) only [go_sem, Nat.reduceAdd, Nat.reduceMul, Nat.reduceEqDiff, Nat.reduceLT, Nat.reduceLeDiff, Nat.reduceBEq, w64, chk_pos, h1]
    try rfl
  · exact ⟨by omega, by omega, by omega, by simp only [szFDs, List.drop_zero]; omega⟩
  rintro ⟨i, m⟩ hi
  simp only [] at hi
  simp only [go_sem, Nat.reduceAdd, Nat.reduceMul, Nat.reduceEqDiff, Nat.reduceLT, Nat.reduceLeDiff, Nat.reduceBEq, h1]
  refine a_seqK fun K3 hK3 => ?_
  refine a_rs fun K hK => ?_   -- region 5
  simp (disch := omega) only [go_sem, Nat.reduceAdd, Nat.reduceMul, Nat.reduceEqDiff, Nat.reduceLT, Nat.reduceLeDiff, Nat.reduceBEq, w64, chk_pos, h1]
  refine hK _ ?_
  clear hK K
  refine a_cond rfl (fun h2 => ?_) (fun h2 => ?_)   -- if t15
  · try simp only [Bool.not_eq_true', Bool.not_eq_false', Bool.not_not, Bool.not_eq_eq_eq_not, Bool.not_true, Bool.not_false] at h2
    have h2' := h2
    try simp [inr] at h2'
    obtain ⟨x, hx⟩ : ∃ x, l[i]? = some x := ⟨_, List.getElem?_eq_getElem h2'⟩
    have hd := sumBy_drop (f := szFD) hx
    have hm := List.mem_of_getElem? hx
    refine a_skip ?_
    refine hK3 _ ?_
    clear hK3 K3
    refine a_seqK fun K4 hK4 => ?_
    refine a_block ?_   -- block 1
    refine a_rs fun K hK => ?_   -- region 7
    simp (disch := omega) only [go_sem, Nat.reduceAdd, Nat.reduceMul, Nat.reduceEqDiff, Nat.reduceLT, Nat.reduceLeDiff, Nat.reduceBEq, w64, chk_pos, h1, h2, hx]
    refine r_callT rfl rfl rfl rfl rfl (spec_laws_szFileDiff x m hi.2.1 hi.2.2.1 (hd0 x hm)) (by first | rfl | (simp only [go_sem, Nat.reduceAdd, Nat.reduceMul, Nat.reduceEqDiff, Nat.reduceLT, Nat.reduceLeDiff, Nat.reduceBEq, h1, h2, hx]; done) | (simp only [go_sem, Nat.reduceAdd, Nat.reduceMul, Nat.reduceEqDiff, Nat.reduceLT, Nat.reduceLeDiff, Nat.reduceBEq, h1, h2, hx]; rfl)) (by first | rfl | (simp [AV.okIds, AV.ok1]; done)) (by rfl) ?_
    simp only [go_sem, Nat.reduceAdd, Nat.reduceMul, Nat.reduceEqDiff, Nat.reduceLT, Nat.reduceLeDiff, Nat.reduceBEq, h1, h2, hx]
    refine hK _ ?_
    clear hK K
    refine a_rs fun K hK => ?_   -- region 8
    simp only [go_sem, Nat.reduceAdd, Nat.reduceMul, Nat.reduceEqDiff, Nat.reduceLT, Nat.reduceLeDiff, Nat.reduceBEq, h1, h2, hx]
    refine hK _ ?_
    clear hK K
    refine a_cond rfl (fun h3 => ?_) (fun h3 => ?_)   -- if t25
    · try simp only [Bool.not_eq_true', Bool.not_eq_false', Bool.not_not, Bool.not_eq_eq_eq_not, Bool.not_true, Bool.not_false] at h3
      have h3' := h3
      try simp [inr] at h3'
      refine a_rs fun K hK => ?_   -- region 9
      simp only [go_sem, Nat.reduceAdd, Nat.reduceMul, Nat.reduceEqDiff, Nat.reduceLT, Nat.reduceLeDiff, Nat.reduceBEq, h1, h2, hx, h3]
      refine hK _ ?_
      clear hK K
      refine a_ret ⟨trivial, [.keep [4] []], ?_⟩
      simp only [go_sem, Nat.reduceAdd, Nat.reduceMul, Nat.reduceEqDiff, Nat.reduceLT, Nat.reduceLeDiff, Nat.reduceBEq, h1, h2, hx, h3]
      refine ⟨_, _, rfl, rfl, rfl, ?_, rfl⟩
      simp only [go_sem, Nat.reduceAdd, Nat.reduceMul, Nat.reduceEqDiff, Nat.reduceLT, Nat.reduceLeDiff, Nat.reduceBEq, h1, h2, hx, h3]
      all_goals
        rw [lft1_neg]; have h3n := (lft1_lt (a := szFD x) hi.2.1).symm.trans h3; simp at h3n; omega
    try simp only [Bool.not_eq_true', Bool.not_eq_false', Bool.not_not, Bool.not_eq_eq_eq_not, Bool.not_true, Bool.not_false] at h3
    have h3' := h3
    try simp [inr] at h3'
    refine a_skip ?_
    refine hK4 _ ?_
    clear hK4 K4
    refine a_regP ?_
    simp (disch := omega) only [go_sem, Nat.reduceAdd, Nat.reduceMul, Nat.reduceEqDiff, Nat.reduceLT, Nat.reduceLeDiff, Nat.reduceBEq, w64, chk_pos, h1, h2, hx, h3]
    refine ⟨(i + 1, lft1 m (szFD x)), ?_, ?_, ?_⟩   -- round E1
    · try simp (disch := omega) only [go_sem, Nat.reduceAdd, Nat.reduceMul, Nat.reduceEqDiff, Nat.reduceLT, Nat.reduceLeDiff, Nat.reduceBEq, w64, chk_pos, h1, h2, hx, h3]
      try rfl
    all_goals try dsimp only
    · have hge := lft1_ge (a := szFD x) hi.2.1 (by simpa using h3)
      rw [lft1_pos hge]
      exact ⟨by omega, by omega, by omega, by omega⟩
    · omega
  try simp only [Bool.not_eq_true', Bool.not_eq_false', Bool.not_not, Bool.not_eq_eq_eq_not, Bool.not_true, Bool.not_false] at h2
  have h2' := h2
  try simp [inr] at h2'
  refine a_exit ?_
  simp only [go_sem, Nat.reduceAdd, Nat.reduceMul, Nat.reduceEqDiff, Nat.reduceLT, Nat.reduceLeDiff, Nat.reduceBEq, h1, h2]
  clear hK3 K3
  refine hK2 _ ?_
  clear hK2 K2
  refine a_rs fun K hK => ?_   -- region 10
  simp only [go_sem, Nat.reduceAdd, Nat.reduceMul, Nat.reduceEqDiff, Nat.reduceLT, Nat.reduceLeDiff, Nat.reduceBEq, h1, h2]
  refine hK _ ?_
  clear hK K
  refine a_ret ⟨trivial, [.keep [4] []], ?_⟩
  simp only [go_sem, Nat.reduceAdd, Nat.reduceMul, Nat.reduceEqDiff, Nat.reduceLT, Nat.reduceLeDiff, Nat.reduceBEq, h1, h2]
  refine ⟨_, _, rfl, rfl, rfl, ?_, rfl⟩
  simp only [go_sem, Nat.reduceAdd, Nat.reduceMul, Nat.reduceEqDiff, Nat.reduceLT, Nat.reduceLeDiff, Nat.reduceBEq, h1, h2]
  all_goals
    rw [lft1_pos]
    all_goals
      have e : l.drop i = [] := List.drop_eq_nil_iff.2 (by omega)
      have hz := hi.2.2.2
      rw [e] at hz
      simp only [sumBy] at hz
      first | omega | (congr 3; omega)

theorem nm_laws_eqRow : (Tryd.f89.name == "runtime.NumGoroutine") = false := by kernel_rfl
theorem spec_laws_eqRow (a b : Row) :
    Spec Tryd.prog 89 [.sh (dRow a), .sh (dRow b)] [] (.sh (.bool (decide (a = b)))) [] := by
  refine spec_of_awp hm (fun _ _ => {}) Tryd.func89 rfl nm_laws_eqRow ?_
  rw [Tryd.ntmps89, Sp_start (by simp)]
  simp only [go_sem, Nat.reduceAdd, Nat.reduceMul, Nat.reduceEqDiff, Nat.reduceLT, Nat.reduceLeDiff, Nat.reduceBEq]
  refine a_rs fun K hK => ?_   -- region 0
  simp (disch := omega) only [go_sem, Nat.reduceAdd, Nat.reduceMul, Nat.reduceEqDiff, Nat.reduceLT, Nat.reduceLeDiff, Nat.reduceBEq, w64, chk_pos]
  refine hK _ ?_
  clear hK K
  refine a_seqK fun K1 hK1 => ?_
  refine a_rs fun K hK => ?_   -- region 1
  simp only [go_sem, Nat.reduceAdd, Nat.reduceMul, Nat.reduceEqDiff, Nat.reduceLT, Nat.reduceLeDiff, Nat.reduceBEq]
  refine hK _ ?_
  clear hK K
  refine a_cond rfl (fun h1 => ?_) (fun h1 => ?_)   -- if t9
  · try simp only [Bool.not_eq_true', Bool.not_eq_false', Bool.not_not, Bool.not_eq_eq_eq_not, Bool.not_true, Bool.not_false] at h1
    have h1' := h1
    try simp [inr] at h1'
    refine a_rs fun K hK => ?_   -- region 2
    simp only [go_sem, Nat.reduceAdd, Nat.reduceMul, Nat.reduceEqDiff, Nat.reduceLT, Nat.reduceLeDiff, Nat.reduceBEq, h1]
    refine hK _ ?_
    clear hK K
    refine a_ret ⟨trivial, [.keep [4] []], ?_⟩
    simp only [go_sem, Nat.reduceAdd, Nat.reduceMul, Nat.reduceEqDiff, Nat.reduceLT, Nat.reduceLeDiff, Nat.reduceBEq, h1]
    refine ⟨_, _, rfl, rfl, rfl, ?_, rfl⟩
    simp only [go_sem, Nat.reduceAdd, Nat.reduceMul, Nat.reduceEqDiff, Nat.reduceLT, Nat.reduceLeDiff, Nat.reduceBEq, h1]
    all_goals
      cases a; cases b; simp_all
  try simp only [Bool.not_eq_true', Bool.not_eq_false', Bool.not_not, Bool.not_eq_eq_eq_not, Bool.not_true, Bool.not_false] at h1
  have h1' := h1
  try simp [inr] at h1'
  refine a_skip ?_
  refine hK1 _ ?_
  clear hK1 K1
  refine a_seqK fun K2 hK2 => ?_
  refine a_rs fun K hK => ?_   -- region 3
  simp only [go_sem, Nat.reduceAdd, Nat.reduceMul, Nat.reduceEqDiff, Nat.reduceLT, Nat.reduceLeDiff, Nat.reduceBEq, h1]
  refine hK _ ?_
  clear hK K
  refine a_cond rfl (fun h2 => ?_) (fun h2 => ?_)   -- if t14
  · try simp only [Bool.not_eq_true', Bool.not_eq_false', Bool.not_not, Bool.not_eq_eq_eq_not, Bool.not_true, Bool.not_false] at h2
    have h2' := h2
    try simp [inr] at h2'
    refine a_rs fun K hK => ?_   -- region 4
    simp only [go_sem, Nat.reduceAdd, Nat.reduceMul, Nat.reduceEqDiff, Nat.reduceLT, Nat.reduceLeDiff, Nat.reduceBEq, h1, h2]
    refine hK _ ?_
    clear hK K
    refine a_ret ⟨trivial, [.keep [4] []], ?_⟩
    simp only [go_sem, Nat.reduceAdd, Nat.reduceMul, Nat.reduceEqDiff, Nat.reduceLT, Nat.reduceLeDiff, Nat.reduceBEq, h1, h2]
    refine ⟨_, _, rfl, rfl, rfl, ?_, rfl⟩
    simp only [go_sem, Nat.reduceAdd, Nat.reduceMul, Nat.reduceEqDiff, Nat.reduceLT, Nat.reduceLeDiff, Nat.reduceBEq, h1, h2]
    all_goals
      cases a; cases b; simp_all
  try simp only [Bool.not_eq_true', Bool.not_eq_false', Bool.not_not, Bool.not_eq_eq_eq_not, Bool.not_true, Bool.not_false] at h2
  have h2' := h2
  try simp [inr] at h2'
  refine a_skip ?_
  refine hK2 _ ?_
  clear hK2 K2
  refine a_rs fun K hK => ?_   -- region 5
  simp only [go_sem, Nat.reduceAdd, Nat.reduceMul, Nat.reduceEqDiff, Nat.reduceLT, Nat.reduceLeDiff, Nat.reduceBEq, h1, h2]
  refine hK _ ?_
  clear hK K
  refine a_ret ⟨trivial, [.keep [4] []], ?_⟩
  simp only [go_sem, Nat.reduceAdd, Nat.reduceMul, Nat.reduceEqDiff, Nat.reduceLT, Nat.reduceLeDiff, Nat.reduceBEq, h1, h2]
  refine ⟨_, _, rfl, rfl, rfl, ?_, rfl⟩
  simp only [go_sem, Nat.reduceAdd, Nat.reduceMul, Nat.reduceEqDiff, Nat.reduceLT, Nat.reduceLeDiff, Nat.reduceBEq, h1, h2]
  all_goals
    cases a; cases b; simp_all

theorem nm_laws_eqRowS : (Tryd.f73.name == "runtime.NumGoroutine") = false := by kernel_rfl
theorem spec_laws_eqRowS (a b : List Row) (ha : a.length ≤ 1099511627776) (hb : b.length ≤ 1099511627776) :
    Spec Tryd.prog 73 [.sh (.sl 0 (a.map dRow)), .sh (.sl 0 (b.map dRow))] [] (.sh (.bool (decide (a = b)))) [] := by
  refine spec_of_awp hm (fun _ _ => {}) Tryd.func73 rfl nm_laws_eqRowS ?_
  rw [Tryd.ntmps73, Sp_start (by simp)]
  simp only [go_sem, Nat.reduceAdd, Nat.reduceMul, Nat.reduceEqDiff, Nat.reduceLT, Nat.reduceLeDiff, Nat.reduceBEq]
  refine a_rs fun K hK => ?_   -- region 0
  simp only [go_sem, Nat.reduceAdd, Nat.reduceMul, Nat.reduceEqDiff, Nat.reduceLT, Nat.reduceLeDiff, Nat.reduceBEq]
  refine hK _ ?_
  clear hK K
  refine a_seqK fun K1 hK1 => ?_
  refine a_rs fun K hK => ?_   -- region 1
  simp (disch := omega) only [go_sem, Nat.reduceAdd, Nat.reduceMul, Nat.reduceEqDiff, Nat.reduceLT, Nat.reduceLeDiff, Nat.reduceBEq, w64, chk_pos]
  refine hK _ ?_
  clear hK K
  refine a_cond rfl (fun h1 => ?_) (fun h1 => ?_)   -- if t10
  · try simp only [Bool.not_eq_true', Bool.not_eq_false', Bool.not_not, Bool.not_eq_eq_eq_not, Bool.not_true, Bool.not_false] at h1
    have h1' := h1
    try simp [inr] at h1'
    refine a_rs fun K hK => ?_   -- region 2
    simp only [go_sem, Nat.reduceAdd, Nat.reduceMul, Nat.reduceEqDiff, Nat.reduceLT, Nat.reduceLeDiff, Nat.reduceBEq, h1]
    refine hK _ ?_
    clear hK K
    refine a_ret ⟨trivial, [.keep [4] []], ?_⟩
    simp only [go_sem, Nat.reduceAdd, Nat.reduceMul, Nat.reduceEqDiff, Nat.reduceLT, Nat.reduceLeDiff, Nat.reduceBEq, h1]
    refine ⟨_, _, rfl, rfl, rfl, ?_, rfl⟩
    simp only [go_sem, Nat.reduceAdd, Nat.reduceMul, Nat.reduceEqDiff, Nat.reduceLT, Nat.reduceLeDiff, Nat.reduceBEq, h1]
    all_goals
      have hne : a ≠ b := by rintro rfl; simp at h1
      simp [hne]
  try simp only [Bool.not_eq_true', Bool.not_eq_false', Bool.not_not, Bool.not_eq_eq_eq_not, Bool.not_true, Bool.not_false] at h1
  have h1' := h1
  try simp [inr] at h1'
  refine a_skip ?_
  refine hK1 _ ?_
  clear hK1 K1
  refine a_seqK fun K2 hK2 => ?_
  refine a_rs fun K hK => ?_   -- region 3
  simp only [go_sem, Nat.reduceAdd, Nat.reduceMul, Nat.reduceEqDiff, Nat.reduceLT, Nat.reduceLeDiff, Nat.reduceBEq, h1]
  refine hK _ ?_
  clear hK K
  refine a_block ?_   -- block 0
  refine a_loopU (ι := Nat) [0, 1] [] (fun i => [(5, .sh (.int .i64 i))]) (fun i => []) (fun i => i ≤ a.length ∧ a.take i = b.take i) (fun i => a.length - i) 0 ?_ ?_ ?_
  · try simp (disch := omega) only [go_sem, Nat.reduceAdd, Nat.reduceMul, Nat.reduceEqDiff, Nat.reduceLT, Nat.reduceLeDiff, Nat.reduceBEq, w64, chk_pos, h1]
    try rfl
  · simp
  rintro i hi
  simp only [go_sem, Nat.reduceAdd, Nat.reduceMul, Nat.reduceEqDiff, Nat.reduceLT, Nat.reduceLeDiff, Nat.reduceBEq, h1]
  refine a_seqK fun K3 hK3 => ?_
  refine a_rs fun K hK => ?_   -- region 4
  simp (disch := omega) only [go_sem, Nat.reduceAdd, Nat.reduceMul, Nat.reduceEqDiff, Nat.reduceLT, Nat.reduceLeDiff, Nat.reduceBEq, w64, chk_pos, h1]
  refine hK _ ?_
  clear hK K
  refine a_cond rfl (fun h2 => ?_) (fun h2 => ?_)   -- if t14
  · try simp only [Bool.not_eq_true', Bool.not_eq_false', Bool.not_not, Bool.not_eq_eq_eq_not, Bool.not_true, Bool.not_false] at h2
    have h2' := h2
    try simp [inr] at h2'
    have hl : a.length = b.length := by simp at h1; omega
    obtain ⟨x, hx⟩ : ∃ x, a[i]? = some x := ⟨_, List.getElem?_eq_getElem h2'⟩
    obtain ⟨y, hy⟩ : ∃ y, b[i]? = some y := ⟨_, List.getElem?_eq_getElem (by omega)⟩
    refine a_skip ?_
    refine hK3 _ ?_
    clear hK3 K3
    refine a_seqK fun K4 hK4 => ?_
    refine a_block ?_   -- block 1
    refine a_rd rfl fun K I hK hI => ?_   -- region 6
    simp (disch := omega) only [go_sem, Nat.reduceAdd, Nat.reduceMul, Nat.reduceEqDiff, Nat.reduceLT, Nat.reduceLeDiff, Nat.reduceBEq, w64, chk_pos, h1, h2, hx, hy]
    refine r_callD0 rfl rfl rfl rfl rfl (spec_laws_eqRow x y) (by first | rfl | (simp only [go_sem, Nat.reduceAdd, Nat.reduceMul, Nat.reduceEqDiff, Nat.reduceLT, Nat.reduceLeDiff, Nat.reduceBEq, h1, h2, hx, hy]; done) | (simp only [go_sem, Nat.reduceAdd, Nat.reduceMul, Nat.reduceEqDiff, Nat.reduceLT, Nat.reduceLeDiff, Nat.reduceBEq, h1, h2, hx, hy]; rfl)) (by first | rfl | (simp [AV.okIds, AV.ok1]; done)) (by rfl) ?_
    simp only [go_sem, Nat.reduceAdd, Nat.reduceMul, Nat.reduceEqDiff, Nat.reduceLT, Nat.reduceLeDiff, Nat.reduceBEq, h1, h2, hx, hy]
    refine ⟨hI _ (by first | kernel_rfl | rfl), hK _ ?_⟩
    clear hK hI K I
    refine a_cond rfl (fun h3 => ?_) (fun h3 => ?_)   -- if t26
    · try simp only [Bool.not_eq_true', Bool.not_eq_false', Bool.not_not, Bool.not_eq_eq_eq_not, Bool.not_true, Bool.not_false] at h3
      have h3' := h3
      try simp [inr] at h3'
      refine a_rs fun K hK => ?_   -- region 7
      simp only [go_sem, Nat.reduceAdd, Nat.reduceMul, Nat.reduceEqDiff, Nat.reduceLT, Nat.reduceLeDiff, Nat.reduceBEq, h1, h2, hx, hy, h3]
      refine hK _ ?_
      clear hK K
      refine a_ret ⟨trivial, [.keep [4] []], ?_⟩
      simp only [go_sem, Nat.reduceAdd, Nat.reduceMul, Nat.reduceEqDiff, Nat.reduceLT, Nat.reduceLeDiff, Nat.reduceBEq, h1, h2, hx, hy, h3]
      refine ⟨_, _, rfl, rfl, rfl, ?_, rfl⟩
      simp only [go_sem, Nat.reduceAdd, Nat.reduceMul, Nat.reduceEqDiff, Nat.reduceLT, Nat.reduceLeDiff, Nat.reduceBEq, h1, h2, hx, hy, h3]
      all_goals
        have hne : a ≠ b := by rintro rfl; rw [hx] at hy; simp at h3; exact h3 (Option.some.inj hy)
        simp [hne]
    try simp only [Bool.not_eq_true', Bool.not_eq_false', Bool.not_not, Bool.not_eq_eq_eq_not, Bool.not_true, Bool.not_false] at h3
    have h3' := h3
    try simp [inr] at h3'
    refine a_skip ?_
    refine hK4 _ ?_
    clear hK4 K4
    refine a_regP ?_
    simp (disch := omega) only [go_sem, Nat.reduceAdd, Nat.reduceMul, Nat.reduceEqDiff, Nat.reduceLT, Nat.reduceLeDiff, Nat.reduceBEq, w64, chk_pos, h1, h2, hx, hy, h3]
    refine ⟨i + 1, ?_, ?_, ?_⟩   -- round E1
    · try simp (disch := omega) only [go_sem, Nat.reduceAdd, Nat.reduceMul, Nat.reduceEqDiff, Nat.reduceLT, Nat.reduceLeDiff, Nat.reduceBEq, w64, chk_pos, h1, h2, hx, hy, h3]
      try rfl
    all_goals try dsimp only
    · refine ⟨by omega, ?_⟩
      simp at h3
      rw [List.take_add_one, List.take_add_one, hi.2, hx, hy, h3]
    · omega
  try simp only [Bool.not_eq_true', Bool.not_eq_false', Bool.not_not, Bool.not_eq_eq_eq_not, Bool.not_true, Bool.not_false] at h2
  have h2' := h2
  try simp [inr] at h2'
  refine a_exit ?_
  simp only [go_sem, Nat.reduceAdd, Nat.reduceMul, Nat.reduceEqDiff, Nat.reduceLT, Nat.reduceLeDiff, Nat.reduceBEq, h1, h2]
  clear hK3 K3
  refine hK2 _ ?_
  clear hK2 K2
  refine a_rs fun K hK => ?_   -- region 8
  simp only [go_sem, Nat.reduceAdd, Nat.reduceMul, Nat.reduceEqDiff, Nat.reduceLT, Nat.reduceLeDiff, Nat.reduceBEq, h1, h2]
  refine hK _ ?_
  clear hK K
  refine a_ret ⟨trivial, [.keep [4] []], ?_⟩
  simp only [go_sem, Nat.reduceAdd, Nat.reduceMul, Nat.reduceEqDiff, Nat.reduceLT, Nat.reduceLeDiff, Nat.reduceBEq, h1, h2]
  refine ⟨_, _, rfl, rfl, rfl, ?_, rfl⟩
  simp only [go_sem, Nat.reduceAdd, Nat.reduceMul, Nat.reduceEqDiff, Nat.reduceLT, Nat.reduceLeDiff, Nat.reduceBEq, h1, h2]
  all_goals
    have hl : a.length = b.length := by simp at h1; omega
    have : i = a.length := by omega
    subst this
    have he : a = b := by have := hi.2; rwa [List.take_length, hl, List.take_length] at this
    simp [he]

theorem nm_laws_eqGroup : (Tryd.f53.name == "runtime.NumGoroutine") = false := by kernel_rfl
theorem spec_laws_eqGroup (a b : Group) (ha : a.Rows.length ≤ 1099511627776) (hb : b.Rows.length ≤ 1099511627776) :
    Spec Tryd.prog 53 [.sh (dGroup tS a), .sh (dGroup tS b)] [] (.sh (.bool (decide (a = b)))) [] := by
  refine spec_of_awp hm (fun _ _ => {}) Tryd.func53 rfl nm_laws_eqGroup ?_
  rw [Tryd.ntmps53, Sp_start (by simp)]
  simp only [go_sem, Nat.reduceAdd, Nat.reduceMul, Nat.reduceEqDiff, Nat.reduceLT, Nat.reduceLeDiff, Nat.reduceBEq]
  refine a_rs fun K hK => ?_   -- region 0
  simp (disch := omega) only [go_sem, Nat.reduceAdd, Nat.reduceMul, Nat.reduceEqDiff, Nat.reduceLT, Nat.reduceLeDiff, Nat.reduceBEq, w64, chk_pos]
  refine hK _ ?_
  clear hK K
  refine a_seqK fun K1 hK1 => ?_
  refine a_rs fun K hK => ?_   -- region 1
  simp only [go_sem, Nat.reduceAdd, Nat.reduceMul, Nat.reduceEqDiff, Nat.reduceLT, Nat.reduceLeDiff, Nat.reduceBEq]
  refine hK _ ?_
  clear hK K
  refine a_cond rfl (fun h1 => ?_) (fun h1 => ?_)   -- if t9
  · try simp only [Bool.not_eq_true', Bool.not_eq_false', Bool.not_not, Bool.not_eq_eq_eq_not, Bool.not_true, Bool.not_false] at h1
    have h1' := h1
    try simp [inr] at h1'
    refine a_rs fun K hK => ?_   -- region 2
    simp only [go_sem, Nat.reduceAdd, Nat.reduceMul, Nat.reduceEqDiff, Nat.reduceLT, Nat.reduceLeDiff, Nat.reduceBEq, h1]
    refine hK _ ?_
    clear hK K
    refine a_ret ⟨trivial, [.keep [4] []], ?_⟩
    simp only [go_sem, Nat.reduceAdd, Nat.reduceMul, Nat.reduceEqDiff, Nat.reduceLT, Nat.reduceLeDiff, Nat.reduceBEq, h1]
    refine ⟨_, _, rfl, rfl, rfl, ?_, rfl⟩
    simp only [go_sem, Nat.reduceAdd, Nat.reduceMul, Nat.reduceEqDiff, Nat.reduceLT, Nat.reduceLeDiff, Nat.reduceBEq, h1]
    all_goals
      cases a; cases b; simp_all
  try simp only [Bool.not_eq_true', Bool.not_eq_false', Bool.not_not, Bool.not_eq_eq_eq_not, Bool.not_true, Bool.not_false] at h1
  have h1' := h1
  try simp [inr] at h1'
  refine a_skip ?_
  refine hK1 _ ?_
  clear hK1 K1
  refine a_seqK fun K2 hK2 => ?_
  refine a_rs fun K hK => ?_   -- region 3
  simp only [go_sem, Nat.reduceAdd, Nat.reduceMul, Nat.reduceEqDiff, Nat.reduceLT, Nat.reduceLeDiff, Nat.reduceBEq, h1]
  refine hK _ ?_
  clear hK K
  refine a_cond rfl (fun h2 => ?_) (fun h2 => ?_)   -- if t14
  · try simp only [Bool.not_eq_true', Bool.not_eq_false', Bool.not_not, Bool.not_eq_eq_eq_not, Bool.not_true, Bool.not_false] at h2
    have h2' := h2
    try simp [inr] at h2'
    refine a_rs fun K hK => ?_   -- region 4
    simp only [go_sem, Nat.reduceAdd, Nat.reduceMul, Nat.reduceEqDiff, Nat.reduceLT, Nat.reduceLeDiff, Nat.reduceBEq, h1, h2]
    refine hK _ ?_
    clear hK K
    refine a_ret ⟨trivial, [.keep [4] []], ?_⟩
    simp only [go_sem, Nat.reduceAdd, Nat.reduceMul, Nat.reduceEqDiff, Nat.reduceLT, Nat.reduceLeDiff, Nat.reduceBEq, h1, h2]
    refine ⟨_, _, rfl, rfl, rfl, ?_, rfl⟩
    simp only [go_sem, Nat.reduceAdd, Nat.reduceMul, Nat.reduceEqDiff, Nat.reduceLT, Nat.reduceLeDiff, Nat.reduceBEq, h1, h2]
    all_goals
      cases a; cases b; simp_all
  try simp only [Bool.not_eq_true', Bool.not_eq_false', Bool.not_not, Bool.not_eq_eq_eq_not, Bool.not_true, Bool.not_false] at h2
  have h2' := h2
  try simp [inr] at h2'
  refine a_skip ?_
  refine hK2 _ ?_
  clear hK2 K2
  refine a_seqK fun K3 hK3 => ?_
  refine a_rs fun K hK => ?_   -- region 5
  simp only [go_sem, Nat.reduceAdd, Nat.reduceMul, Nat.reduceEqDiff, Nat.reduceLT, Nat.reduceLeDiff, Nat.reduceBEq, h1, h2]
  refine r_callT rfl rfl rfl rfl rfl (spec_laws_eqRowS a.Rows b.Rows ha hb) (by first | rfl | (simp only [go_sem, Nat.reduceAdd, Nat.reduceMul, Nat.reduceEqDiff, Nat.reduceLT, Nat.reduceLeDiff, Nat.reduceBEq, h1, h2]; done) | (simp only [go_sem, Nat.reduceAdd, Nat.reduceMul, Nat.reduceEqDiff, Nat.reduceLT, Nat.reduceLeDiff, Nat.reduceBEq, h1, h2]; rfl)) (by first | rfl | (simp [AV.okIds, AV.ok1]; done)) (by rfl) ?_
  simp only [go_sem, Nat.reduceAdd, Nat.reduceMul, Nat.reduceEqDiff, Nat.reduceLT, Nat.reduceLeDiff, Nat.reduceBEq, h1, h2]
  refine hK _ ?_
  clear hK K
  refine a_cond rfl (fun h3 => ?_) (fun h3 => ?_)   -- if t20
  · try simp only [Bool.not_eq_true', Bool.not_eq_false', Bool.not_not, Bool.not_eq_eq_eq_not, Bool.not_true, Bool.not_false] at h3
    have h3' := h3
    try simp [inr] at h3'
    refine a_rs fun K hK => ?_   -- region 6
    simp only [go_sem, Nat.reduceAdd, Nat.reduceMul, Nat.reduceEqDiff, Nat.reduceLT, Nat.reduceLeDiff, Nat.reduceBEq, h1, h2, h3]
    refine hK _ ?_
    clear hK K
    refine a_ret ⟨trivial, [.keep [4] []], ?_⟩
    simp only [go_sem, Nat.reduceAdd, Nat.reduceMul, Nat.reduceEqDiff, Nat.reduceLT, Nat.reduceLeDiff, Nat.reduceBEq, h1, h2, h3]
    refine ⟨_, _, rfl, rfl, rfl, ?_, rfl⟩
    simp only [go_sem, Nat.reduceAdd, Nat.reduceMul, Nat.reduceEqDiff, Nat.reduceLT, Nat.reduceLeDiff, Nat.reduceBEq, h1, h2, h3]
    all_goals
      cases a; cases b; simp_all
  try simp only [Bool.not_eq_true', Bool.not_eq_false', Bool.not_not, Bool.not_eq_eq_eq_not, Bool.not_true, Bool.not_false] at h3
  have h3' := h3
  try simp [inr] at h3'
  refine a_skip ?_
  refine hK3 _ ?_
  clear hK3 K3
  refine a_rs fun K hK => ?_   -- region 7
  simp only [go_sem, Nat.reduceAdd, Nat.reduceMul, Nat.reduceEqDiff, Nat.reduceLT, Nat.reduceLeDiff, Nat.reduceBEq, h1, h2, h3]
  refine hK _ ?_
  clear hK K
  refine a_ret ⟨trivial, [.keep [4] []], ?_⟩
  simp only [go_sem, Nat.reduceAdd, Nat.reduceMul, Nat.reduceEqDiff, Nat.reduceLT, Nat.reduceLeDiff, Nat.reduceBEq, h1, h2, h3]
  refine ⟨_, _, rfl, rfl, rfl, ?_, rfl⟩
  simp only [go_sem, Nat.reduceAdd, Nat.reduceMul, Nat.reduceEqDiff, Nat.reduceLT, Nat.reduceLeDiff, Nat.reduceBEq, h1, h2, h3]
  all_goals
    cases a; cases b; simp_all

theorem nm_laws_eqGroupS : (Tryd.f35.name == "runtime.NumGoroutine") = false := by kernel_rfl
theorem spec_laws_eqGroupS (a b : List Group) (ha : a.length ≤ 1099511627776) (hb : b.length ≤ 1099511627776) (har : ∀ g ∈ a, g.Rows.length ≤ 1099511627776) (hbr : ∀ g ∈ b, g.Rows.length ≤ 1099511627776) :
    Spec Tryd.prog 35 [.sh (.sl 0 (a.map (dGroup tS))), .sh (.sl 0 (b.map (dGroup tS)))] [] (.sh (.bool (decide (a = b)))) [] := by
  refine spec_of_awp hm (fun _ _ => {}) Tryd.func35 rfl nm_laws_eqGroupS ?_
  rw [Tryd.ntmps35, Sp_start (by simp)]
  simp only [go_sem, Nat.reduceAdd, Nat.reduceMul, Nat.reduceEqDiff, Nat.reduceLT, Nat.reduceLeDiff, Nat.reduceBEq]
  refine a_rs fun K hK => ?_   -- region 0
  simp only [go_sem, Nat.reduceAdd, Nat.reduceMul, Nat.reduceEqDiff, Nat.reduceLT, Nat.reduceLeDiff, Nat.reduceBEq]
  refine hK _ ?_
  clear hK K
  refine a_seqK fun K1 hK1 => ?_
  refine a_rs fun K hK => ?_   -- region 1
  simp (disch := omega) only [go_sem, Nat.reduceAdd, Nat.reduceMul, Nat.reduceEqDiff, Nat.reduceLT, Nat.reduceLeDiff, Nat.reduceBEq, w64, chk_pos]
  refine hK _ ?_
  clear hK K
  refine a_cond rfl (fun h1 => ?_) (fun h1 => ?_)   -- if t10
  · try simp only [Bool.not_eq_true', Bool.not_eq_false', Bool.not_not, Bool.not_eq_eq_eq_not, Bool.not_true, Bool.not_false] at h1
    have h1' := h1
    try simp [inr] at h1'
    refine a_rs fun K hK => ?_   -- region 2
    simp only [go_sem, Nat.reduceAdd, Nat.reduceMul, Nat.reduceEqDiff, Nat.reduceLT, Nat.reduceLeDiff, Nat.reduceBEq, h1]
    refine hK _ ?_
    clear hK K
    refine a_ret ⟨trivial, [.keep [4] []], ?_⟩
    simp only [go_sem, Nat.reduceAdd, Nat.reduceMul, Nat.reduceEqDiff, Nat.reduceLT, Nat.reduceLeDiff, Nat.reduceBEq, h1]
    refine ⟨_, _, rfl, rfl, rfl, ?_, rfl⟩
    simp only [go_sem, Nat.reduceAdd, Nat.reduceMul, Nat.reduceEqDiff, Nat.reduceLT, Nat.reduceLeDiff, Nat.reduceBEq, h1]
    all_goals
      have hne : a ≠ b := by rintro rfl; simp at h1
      simp [hne]
  try simp only [Bool.not_eq_true', Bool.not_eq_false', Bool.not_not, Bool.not_eq_eq_eq_not, Bool.not_true, Bool.not_false] at h1
  have h1' := h1
  try simp [inr] at h1'
  refine a_skip ?_
  refine hK1 _ ?_
  clear hK1 K1
  refine a_seqK fun K2 hK2 => ?_
  refine a_rs fun K hK => ?_   -- region 3
  simp only [go_sem, Nat.reduceAdd, Nat.reduceMul, Nat.reduceEqDiff, Nat.reduceLT, Nat.reduceLeDiff, Nat.reduceBEq, h1]
  refine hK _ ?_
  clear hK K
  refine a_block ?_   -- block 0
  refine a_loopU (ι := Nat) [0, 1] [] (fun i => [(5, .sh (.int .i64 i))]) (fun i => []) (fun i => i ≤ a.length ∧ a.take i = b.take i) (fun i => a.length - i) 0 ?_ ?_ ?_
  · try simp (disch := omega) only [go_sem, Nat.reduceAdd, Nat.reduceMul, Nat.reduceEqDiff, Nat.reduceLT, Nat.reduceLeDiff, Nat.reduceBEq, w64, chk_pos, h1]
    try rfl
  · simp
  rintro i hi
  simp only [go_sem, Nat.reduceAdd, Nat.reduceMul, Nat.reduceEqDiff, Nat.reduceLT, Nat.reduceLeDiff, Nat.reduceBEq, h1]
  refine a_seqK fun K3 hK3 => ?_
  refine a_rs fun K hK => ?_   -- region 4
  simp (disch := omega) only [go_sem, Nat.reduceAdd, Nat.reduceMul, Nat.reduceEqDiff, Nat.reduceLT, Nat.reduceLeDiff, Nat.reduceBEq, w64, chk_pos, h1]
  refine hK _ ?_
  clear hK K
  refine a_cond rfl (fun h2 => ?_) (fun h2 => ?_)   -- if t14
  · try simp only [Bool.not_eq_true', Bool.not_eq_false', Bool.not_not, Bool.not_eq_eq_eq_not, Bool.not_true, Bool.not_false] at h2
    have h2' := h2
    try simp [inr] at h2'
    have hl : a.length = b.length := by simp at h1; omega
    obtain ⟨x, hx⟩ : ∃ x, a[i]? = some x := ⟨_, List.getElem?_eq_getElem h2'⟩
    obtain ⟨y, hy⟩ : ∃ y, b[i]? = some y := ⟨_, List.getElem?_eq_getElem (by omega)⟩
    refine a_skip ?_
    refine hK3 _ ?_
    clear hK3 K3
    refine a_seqK fun K4 hK4 => ?_
    refine a_block ?_   -- block 1
    refine a_rd rfl fun K I hK hI => ?_   -- region 6
    simp (disch := omega) only [go_sem, Nat.reduceAdd, Nat.reduceMul, Nat.reduceEqDiff, Nat.reduceLT, Nat.reduceLeDiff, Nat.reduceBEq, w64, chk_pos, h1, h2, hx, hy]
    refine r_callD0 rfl rfl rfl rfl rfl (spec_laws_eqGroup x y (har x (List.mem_of_getElem? hx)) (hbr y (List.mem_of_getElem? hy))) (by first | rfl | (simp only [go_sem, Nat.reduceAdd, Nat.reduceMul, Nat.reduceEqDiff, Nat.reduceLT, Nat.reduceLeDiff, Nat.reduceBEq, h1, h2, hx, hy]; done) | (simp only [go_sem, Nat.reduceAdd, Nat.reduceMul, Nat.reduceEqDiff, Nat.reduceLT, Nat.reduceLeDiff, Nat.reduceBEq, h1, h2, hx, hy]; rfl)) (by first | rfl | (simp [AV.okIds, AV.ok1]; done)) (by rfl) ?_
    simp only [go_sem, Nat.reduceAdd, Nat.reduceMul, Nat.reduceEqDiff, Nat.reduceLT, Nat.reduceLeDiff, Nat.reduceBEq, h1, h2, hx, hy]
    refine ⟨hI _ (by first | kernel_rfl | rfl), hK _ ?_⟩
    clear hK hI K I
    refine a_cond rfl (fun h3 => ?_) (fun h3 => ?_)   -- if t26
    · try simp only [Bool.not_eq_true', Bool.not_eq_false', Bool.not_not, Bool.not_eq_eq_eq_not, Bool.not_true, Bool.not_false] at h3
      have h3' := h3
      try simp [inr] at h3'
      refine a_rs fun K hK => ?_   -- region 7
      simp only [go_sem, Nat.reduceAdd, Nat.reduceMul, Nat.reduceEqDiff, Nat.reduceLT, Nat.reduceLeDiff, Nat.reduceBEq, h1, h2, hx, hy, h3]
      refine hK _ ?_
      clear hK K
      refine a_ret ⟨trivial, [.keep [4] []], ?_⟩
      simp only [go_sem, Nat.reduceAdd, Nat.reduceMul, Nat.reduceEqDiff, Nat.reduceLT, Nat.reduceLeDiff, Nat.reduceBEq, h1, h2, hx, hy, h3]
      refine ⟨_, _, rfl, rfl, rfl, ?_, rfl⟩
      simp only [go_sem, Nat.reduceAdd, Nat.reduceMul, Nat.reduceEqDiff, Nat.reduceLT, Nat.reduceLeDiff, Nat.reduceBEq, h1, h2, hx, hy, h3]
      all_goals
        have hne : a ≠ b := by rintro rfl; rw [hx] at hy; simp at h3; exact h3 (Option.some.inj hy)
        simp [hne]
    try simp only [Bool.not_eq_true', Bool.not_eq_false', Bool.not_not, Bool.not_eq_eq_eq_not, Bool.not_true, Bool.not_false] at h3
    have h3' := h3
    try simp [inr] at h3'
    refine a_skip ?_
    refine hK4 _ ?_
    clear hK4 K4
    refine a_regP ?_
    simp (disch := omega) only [go_sem, Nat.reduceAdd, Nat.reduceMul, Nat.reduceEqDiff, Nat.reduceLT, Nat.reduceLeDiff, Nat.reduceBEq, w64, chk_pos, h1, h2, hx, hy, h3]
    refine ⟨i + 1, ?_, ?_, ?_⟩   -- round E1
    · try simp (disch := omega) only [go_sem, Nat.reduceAdd, Nat.reduceMul, Nat.reduceEqDiff, Nat.reduceLT, Nat.reduceLeDiff, Nat.reduceBEq, w64, chk_pos, h1, h2, hx, hy, h3]
      try rfl
    all_goals try dsimp only
    · refine ⟨by omega, ?_⟩
      simp at h3
      rw [List.take_add_one, List.take_add_one, hi.2, hx, hy, h3]
    · omega
  try simp only [Bool.not_eq_true', Bool.not_eq_false', Bool.not_not, Bool.not_eq_eq_eq_not, Bool.not_true, Bool.not_false] at h2
  have h2' := h2
  try simp [inr] at h2'
  refine a_exit ?_
  simp only [go_sem, Nat.reduceAdd, Nat.reduceMul, Nat.reduceEqDiff, Nat.reduceLT, Nat.reduceLeDiff, Nat.reduceBEq, h1, h2]
  clear hK3 K3
  refine hK2 _ ?_
  clear hK2 K2
  refine a_rs fun K hK => ?_   -- region 8
  simp only [go_sem, Nat.reduceAdd, Nat.reduceMul, Nat.reduceEqDiff, Nat.reduceLT, Nat.reduceLeDiff, Nat.reduceBEq, h1, h2]
  refine hK _ ?_
  clear hK K
  refine a_ret ⟨trivial, [.keep [4] []], ?_⟩
  simp only [go_sem, Nat.reduceAdd, Nat.reduceMul, Nat.reduceEqDiff, Nat.reduceLT, Nat.reduceLeDiff, Nat.reduceBEq, h1, h2]
  refine ⟨_, _, rfl, rfl, rfl, ?_, rfl⟩
  simp only [go_sem, Nat.reduceAdd, Nat.reduceMul, Nat.reduceEqDiff, Nat.reduceLT, Nat.reduceLeDiff, Nat.reduceBEq, h1, h2]
  all_goals
    have hl : a.length = b.length := by simp at h1; omega
    have : i = a.length := by omega
    subst this
    have he : a = b := by have := hi.2; rwa [List.take_length, hl, List.take_length] at this
    simp [he]

theorem nm_laws_eqFileDiff : (Tryd.f21.name == "runtime.NumGoroutine") = false := by kernel_rfl
theorem spec_laws_eqFileDiff (a b : FDiff) (ha : FDok a) (hb : FDok b) :
    Spec Tryd.prog 21 [.sh (dFD tS a), .sh (dFD tS b)] [] (.sh (.bool (decide (a = b)))) [] := by
  refine spec_of_awp hm (fun _ _ => {}) Tryd.func21 rfl nm_laws_eqFileDiff ?_
  rw [Tryd.ntmps21, Sp_start (by simp)]
  simp only [go_sem, Nat.reduceAdd, Nat.reduceMul, Nat.reduceEqDiff, Nat.reduceLT, Nat.reduceLeDiff, Nat.reduceBEq]
  refine a_rs fun K hK => ?_   -- region 0
  simp (disch := omega) only [go_sem, Nat.reduceAdd, Nat.reduceMul, Nat.reduceEqDiff, Nat.reduceLT, Nat.reduceLeDiff, Nat.reduceBEq, w64, chk_pos]
  refine hK _ ?_
  clear hK K
  refine a_seqK fun K1 hK1 => ?_
  refine a_rs fun K hK => ?_   -- region 1
  simp only [go_sem, Nat.reduceAdd, Nat.reduceMul, Nat.reduceEqDiff, Nat.reduceLT, Nat.reduceLeDiff, Nat.reduceBEq]
  refine hK _ ?_
  clear hK K
  refine a_cond rfl (fun h1 => ?_) (fun h1 => ?_)   -- if t9
  · try simp only [Bool.not_eq_true', Bool.not_eq_false', Bool.not_not, Bool.not_eq_eq_eq_not, Bool.not_true, Bool.not_false] at h1
    have h1' := h1
    try simp [inr] at h1'
    refine a_rs fun K hK => ?_   -- region 2
    simp only [go_sem, Nat.reduceAdd, Nat.reduceMul, Nat.reduceEqDiff, Nat.reduceLT, Nat.reduceLeDiff, Nat.reduceBEq, h1]
    refine hK _ ?_
    clear hK K
    refine a_ret ⟨trivial, [.keep [4] []], ?_⟩
    simp only [go_sem, Nat.reduceAdd, Nat.reduceMul, Nat.reduceEqDiff, Nat.reduceLT, Nat.reduceLeDiff, Nat.reduceBEq, h1]
    refine ⟨_, _, rfl, rfl, rfl, ?_, rfl⟩
    simp only [go_sem, Nat.reduceAdd, Nat.reduceMul, Nat.reduceEqDiff, Nat.reduceLT, Nat.reduceLeDiff, Nat.reduceBEq, h1]
    all_goals
      cases a; cases b; simp_all
  try simp only [Bool.not_eq_true', Bool.not_eq_false', Bool.not_not, Bool.not_eq_eq_eq_not, Bool.not_true, Bool.not_false] at h1
  have h1' := h1
  try simp [inr] at h1'
  refine a_skip ?_
  refine hK1 _ ?_
  clear hK1 K1
  refine a_seqK fun K2 hK2 => ?_
  refine a_rs fun K hK => ?_   -- region 3
  simp only [go_sem, Nat.reduceAdd, Nat.reduceMul, Nat.reduceEqDiff, Nat.reduceLT, Nat.reduceLeDiff, Nat.reduceBEq, h1]
  refine hK _ ?_
  clear hK K
  refine a_cond rfl (fun h2 => ?_) (fun h2 => ?_)   -- if t14
  · try simp only [Bool.not_eq_true', Bool.not_eq_false', Bool.not_not, Bool.not_eq_eq_eq_not, Bool.not_true, Bool.not_false] at h2
    have h2' := h2
    try simp [inr] at h2'
    refine a_rs fun K hK => ?_   -- region 4
    simp only [go_sem, Nat.reduceAdd, Nat.reduceMul, Nat.reduceEqDiff, Nat.reduceLT, Nat.reduceLeDiff, Nat.reduceBEq, h1, h2]
    refine hK _ ?_
    clear hK K
    refine a_ret ⟨trivial, [.keep [4] []], ?_⟩
    simp only [go_sem, Nat.reduceAdd, Nat.reduceMul, Nat.reduceEqDiff, Nat.reduceLT, Nat.reduceLeDiff, Nat.reduceBEq, h1, h2]
    refine ⟨_, _, rfl, rfl, rfl, ?_, rfl⟩
    simp only [go_sem, Nat.reduceAdd, Nat.reduceMul, Nat.reduceEqDiff, Nat.reduceLT, Nat.reduceLeDiff, Nat.reduceBEq, h1, h2]
    all_goals
      cases a; cases b; simp_all
  try simp only [Bool.not_eq_true', Bool.not_eq_false', Bool.not_not, Bool.not_eq_eq_eq_not, Bool.not_true, Bool.not_false] at h2
  have h2' := h2
  try simp [inr] at h2'
  refine a_skip ?_
  refine hK2 _ ?_
  clear hK2 K2
  refine a_seqK fun K3 hK3 => ?_
  refine a_rs fun K hK => ?_   -- region 5
  simp only [go_sem, Nat.reduceAdd, Nat.reduceMul, Nat.reduceEqDiff, Nat.reduceLT, Nat.reduceLeDiff, Nat.reduceBEq, h1, h2]
  refine r_callT rfl rfl rfl rfl rfl (spec_laws_eqGroupS a.Part b.Part ha.2.1 hb.2.1 ha.2.2.1 hb.2.2.1) (by first | rfl | (simp only [go_sem, Nat.reduceAdd, Nat.reduceMul, Nat.reduceEqDiff, Nat.reduceLT, Nat.reduceLeDiff, Nat.reduceBEq, h1, h2]; done) | (simp only [go_sem, Nat.reduceAdd, Nat.reduceMul, Nat.reduceEqDiff, Nat.reduceLT, Nat.reduceLeDiff, Nat.reduceBEq, h1, h2]; rfl)) (by first | rfl | (simp [AV.okIds, AV.ok1]; done)) (by rfl) ?_
  simp only [go_sem, Nat.reduceAdd, Nat.reduceMul, Nat.reduceEqDiff, Nat.reduceLT, Nat.reduceLeDiff, Nat.reduceBEq, h1, h2]
  refine hK _ ?_
  clear hK K
  refine a_cond rfl (fun h3 => ?_) (fun h3 => ?_)   -- if t20
  · try simp only [Bool.not_eq_true', Bool.not_eq_false', Bool.not_not, Bool.not_eq_eq_eq_not, Bool.not_true, Bool.not_false] at h3
    have h3' := h3
    try simp [inr] at h3'
    refine a_rs fun K hK => ?_   -- region 6
    simp only [go_sem, Nat.reduceAdd, Nat.reduceMul, Nat.reduceEqDiff, Nat.reduceLT, Nat.reduceLeDiff, Nat.reduceBEq, h1, h2, h3]
    refine hK _ ?_
    clear hK K
    refine a_ret ⟨trivial, [.keep [4] []], ?_⟩
    simp only [go_sem, Nat.reduceAdd, Nat.reduceMul, Nat.reduceEqDiff, Nat.reduceLT, Nat.reduceLeDiff, Nat.reduceBEq, h1, h2, h3]
    refine ⟨_, _, rfl, rfl, rfl, ?_, rfl⟩
    simp only [go_sem, Nat.reduceAdd, Nat.reduceMul, Nat.reduceEqDiff, Nat.reduceLT, Nat.reduceLeDiff, Nat.reduceBEq, h1, h2, h3]
    all_goals
      cases a; cases b; simp_all
  try simp only [Bool.not_eq_true', Bool.not_eq_false', Bool.not_not, Bool.not_eq_eq_eq_not, Bool.not_true, Bool.not_false] at h3
  have h3' := h3
  try simp [inr] at h3'
  refine a_skip ?_
  refine hK3 _ ?_
  clear hK3 K3
  refine a_rs fun K hK => ?_   -- region 7
  simp only [go_sem, Nat.reduceAdd, Nat.reduceMul, Nat.reduceEqDiff, Nat.reduceLT, Nat.reduceLeDiff, Nat.reduceBEq, h1, h2, h3]
  refine hK _ ?_
  clear hK K
  refine a_ret ⟨trivial, [.keep [4] []], ?_⟩
  simp only [go_sem, Nat.reduceAdd, Nat.reduceMul, Nat.reduceEqDiff, Nat.reduceLT, Nat.reduceLeDiff, Nat.reduceBEq, h1, h2, h3]
  refine ⟨_, _, rfl, rfl, rfl, ?_, rfl⟩
  simp only [go_sem, Nat.reduceAdd, Nat.reduceMul, Nat.reduceEqDiff, Nat.reduceLT, Nat.reduceLeDiff, Nat.reduceBEq, h1, h2, h3]
  all_goals
    cases a; cases b; simp_all

theorem nm_laws_eqFileDiffS : (Tryd.f10.name == "runtime.NumGoroutine") = false := by kernel_rfl
theorem spec_laws_eqFileDiffS (a b : List FDiff) (ha : a.length ≤ 1099511627776) (hb : b.length ≤ 1099511627776) (had : ∀ d ∈ a, FDok d) (hbd : ∀ d ∈ b, FDok d) :
    Spec Tryd.prog 10 [.sh (.sl 0 (a.map (dFD tS))), .sh (.sl 0 (b.map (dFD tS)))] [] (.sh (.bool (decide (a = b)))) [] := by
  refine spec_of_awp hm (fun _ _ => {}) Tryd.func10 rfl nm_laws_eqFileDiffS ?_
  rw [Tryd.ntmps10, Sp_start (by simp)]
  simp only [go_sem, Nat.reduceAdd, Nat.reduceMul, Nat.reduceEqDiff, Nat.reduceLT, Nat.reduceLeDiff, Nat.reduceBEq]
  refine a_rs fun K hK => ?_   -- region 0
  simp only [go_sem, Nat.reduceAdd, Nat.reduceMul, Nat.reduceEqDiff, Nat.reduceLT, Nat.reduceLeDiff, Nat.reduceBEq]
  refine hK _ ?_
  clear hK K
  refine a_seqK fun K1 hK1 => ?_
  refine a_rs fun K hK => ?_   -- region 1
  simp (disch := omega) only [go_sem, Nat.reduceAdd, Nat.reduceMul, Nat.reduceEqDiff, Nat.reduceLT, Nat.reduceLeDiff, Nat.reduceBEq, w64, chk_pos]
  refine hK _ ?_
  clear hK K
  refine a_cond rfl (fun h1 => ?_) (fun h1 => ?_)   -- if t10
  · try simp only [Bool.not_eq_true', Bool.not_eq_false', Bool.not_not, Bool.not_eq_eq_eq_not, Bool.not_true, Bool.not_false] at h1
    have h1' := h1
    try simp [inr] at h1'
    refine a_rs fun K hK => ?_   -- region 2
    simp only [go_sem, Nat.reduceAdd, Nat.reduceMul, Nat.reduceEqDiff, Nat.reduceLT, Nat.reduceLeDiff, Nat.reduceBEq, h1]
    refine hK _ ?_
    clear hK K
    refine a_ret ⟨trivial, [.keep [4] []], ?_⟩
    simp only [go_sem, Nat.reduceAdd, Nat.reduceMul, Nat.reduceEqDiff, Nat.reduceLT, Nat.reduceLeDiff, Nat.reduceBEq, h1]
    refine ⟨_, _, rfl, rfl, rfl, ?_, rfl⟩
    simp only [go_sem, Nat.reduceAdd, Nat.reduceMul, Nat.reduceEqDiff, Nat.reduceLT, Nat.reduceLeDiff, Nat.reduceBEq, h1]
    all_goals
      have hne : a ≠ b := by rintro rfl; simp at h1
      simp [hne]
  try simp only [Bool.not_eq_true', Bool.not_eq_false', Bool.not_not, Bool.not_eq_eq_eq_not, Bool.not_true, Bool.not_false] at h1
  have h1' := h1
  try simp [inr] at h1'
  refine a_skip ?_
  refine hK1 _ ?_
  clear hK1 K1
  refine a_seqK fun K2 hK2 => ?_
  refine a_rs fun K hK => ?_   -- region 3
  simp only [go_sem, Nat.reduceAdd, Nat.reduceMul, Nat.reduceEqDiff, Nat.reduceLT, Nat.reduceLeDiff, Nat.reduceBEq, h1]
  refine hK _ ?_
  clear hK K
  refine a_block ?_   -- block 0
  refine a_loopU (ι := Nat) [0, 1] [] (fun i => [(5, .sh (.int .i64 i))]) (fun i => []) (fun i => i ≤ a.length ∧ a.take i = b.take i) (fun i => a.length - i) 0 ?_ ?_ ?_
  · try simp (disch := omega) only [go_sem, Nat.reduceAdd, Nat.reduceMul, Nat.reduceEqDiff, Nat.reduceLT, Nat.reduceLeDiff, Nat.reduceBEq, w64, chk_pos, h1]
    try rfl
  · simp
  rintro i hi
  simp only [go_sem, Nat.reduceAdd, Nat.reduceMul, Nat.reduceEqDiff, Nat.reduceLT, Nat.reduceLeDiff, Nat.reduceBEq, h1]
  refine a_seqK fun K3 hK3 => ?_
  refine a_rs fun K hK => ?_   -- region 4
  simp (disch := omega) only [go_sem, Nat.reduceAdd, Nat.reduceMul, Nat.reduceEqDiff, Nat.reduceLT, Nat.reduceLeDiff, Nat.reduceBEq, w64, chk_pos, h1]
  refine hK _ ?_
  clear hK K
  refine a_cond rfl (fun h2 => ?_) (fun h2 => ?_)   -- if t14
  · try simp only [Bool.not_eq_true', Bool.not_eq_false', Bool.not_not, Bool.not_eq_eq_eq_not, Bool.not_true, Bool.not_false] at h2
    have h2' := h2
    try simp [inr] at h2'
    have hl : a.length = b.length := by simp at h1; omega
    obtain ⟨x, hx⟩ : ∃ x, a[i]? = some x := ⟨_, List.getElem?_eq_getElem h2'⟩
    obtain ⟨y, hy⟩ : ∃ y, b[i]? = some y := ⟨_, List.getElem?_eq_getElem (by omega)⟩
    refine a_skip ?_
    refine hK3 _ ?_
    clear hK3 K3
    refine a_seqK fun K4 hK4 => ?_
    refine a_block ?_   -- block 1
    refine a_rd rfl fun K I hK hI => ?_   -- region 6
    simp (disch := omega) only [go_sem, Nat.reduceAdd, Nat.reduceMul, Nat.reduceEqDiff, Nat.reduceLT, Nat.reduceLeDiff, Nat.reduceBEq, w64, chk_pos, h1, h2, hx, hy]
    refine r_callD0 rfl rfl rfl rfl rfl (spec_laws_eqFileDiff x y (had x (List.mem_of_getElem? hx)) (hbd y (List.mem_of_getElem? hy))) (by first | rfl | (simp only [go_sem, Nat.reduceAdd, Nat.reduceMul, Nat.reduceEqDiff, Nat.reduceLT, Nat.reduceLeDiff, Nat.reduceBEq, h1, h2, hx, hy]; done) | (simp only [go_sem, Nat.reduceAdd, Nat.reduceMul, Nat.reduceEqDiff, Nat.reduceLT, Nat.reduceLeDiff, Nat.reduceBEq, h1, h2, hx, hy]; rfl)) (by first | rfl | (simp [AV.okIds, AV.ok1]; done)) (by rfl) ?_
    simp only [go_sem, Nat.reduceAdd, Nat.reduceMul, Nat.reduceEqDiff, Nat.reduceLT, Nat.reduceLeDiff, Nat.reduceBEq, h1, h2, hx, hy]
    refine ⟨hI _ (by first | kernel_rfl | rfl), hK _ ?_⟩
    clear hK hI K I
    refine a_cond rfl (fun h3 => ?_) (fun h3 => ?_)   -- if t26
    · try simp only [Bool.not_eq_true', Bool.not_eq_false', Bool.not_not, Bool.not_eq_eq_eq_not, Bool.not_true, Bool.not_false] at h3
      have h3' := h3
      try simp [inr] at h3'
      refine a_rs fun K hK => ?_   -- region 7
      simp only [go_sem, Nat.reduceAdd, Nat.reduceMul, Nat.reduceEqDiff, Nat.reduceLT, Nat.reduceLeDiff, Nat.reduceBEq, h1, h2, hx, hy, h3]
      refine hK _ ?_
      clear hK K
      refine a_ret ⟨trivial, [.keep [4] []], ?_⟩
      simp only [go_sem, Nat.reduceAdd, Nat.reduceMul, Nat.reduceEqDiff, Nat.reduceLT, Nat.reduceLeDiff, Nat.reduceBEq, h1, h2, hx, hy, h3]
      refine ⟨_, _, rfl, rfl, rfl, ?_, rfl⟩
      simp only [go_sem, Nat.reduceAdd, Nat.reduceMul, Nat.reduceEqDiff, Nat.reduceLT, Nat.reduceLeDiff, Nat.reduceBEq, h1, h2, hx, hy, h3]
      all_goals
        have hne : a ≠ b := by rintro rfl; rw [hx] at hy; simp at h3; exact h3 (Option.some.inj hy)
        simp [hne]
    try simp only [Bool.not_eq_true', Bool.not_eq_false', Bool.not_not, Bool.not_eq_eq_eq_not, Bool.not_true, Bool.not_false] at h3
    have h3' := h3
    try simp [inr] at h3'
    refine a_skip ?_
    refine hK4 _ ?_
    clear hK4 K4
    refine a_regP ?_
    simp (disch := omega) only [go_sem, Nat.reduceAdd, Nat.reduceMul, Nat.reduceEqDiff, Nat.reduceLT, Nat.reduceLeDiff, Nat.reduceBEq, w64, chk_pos, h1, h2, hx, hy, h3]
    refine ⟨i + 1, ?_, ?_, ?_⟩   -- round E1
    · try simp (disch := omega) only [go_sem, Nat.reduceAdd, Nat.reduceMul, Nat.reduceEqDiff, Nat.reduceLT, Nat.reduceLeDiff, Nat.reduceBEq, w64, chk_pos, h1, h2, hx, hy, h3]
      try rfl
    all_goals try dsimp only
    · refine ⟨by omega, ?_⟩
      simp at h3
      rw [List.take_add_one, List.take_add_one, hi.2, hx, hy, h3]
    · omega
  try simp only [Bool.not_eq_true', Bool.not_eq_false', Bool.not_not, Bool.not_eq_eq_eq_not, Bool.not_true, Bool.not_false] at h2
  have h2' := h2
  try simp [inr] at h2'
  refine a_exit ?_
  simp only [go_sem, Nat.reduceAdd, Nat.reduceMul, Nat.reduceEqDiff, Nat.reduceLT, Nat.reduceLeDiff, Nat.reduceBEq, h1, h2]
  clear hK3 K3
  refine hK2 _ ?_
  clear hK2 K2
  refine a_rs fun K hK => ?_   -- region 8
  simp only [go_sem, Nat.reduceAdd, Nat.reduceMul, Nat.reduceEqDiff, Nat.reduceLT, Nat.reduceLeDiff, Nat.reduceBEq, h1, h2]
  refine hK _ ?_
  clear hK K
  refine a_ret ⟨trivial, [.keep [4] []], ?_⟩
  simp only [go_sem, Nat.reduceAdd, Nat.reduceMul, Nat.reduceEqDiff, Nat.reduceLT, Nat.reduceLeDiff, Nat.reduceBEq, h1, h2]
  refine ⟨_, _, rfl, rfl, rfl, ?_, rfl⟩
  simp only [go_sem, Nat.reduceAdd, Nat.reduceMul, Nat.reduceEqDiff, Nat.reduceLT, Nat.reduceLeDiff, Nat.reduceBEq, h1, h2]
  all_goals
    have hl : a.length = b.length := by simp at h1; omega
    have : i = a.length := by omega
    subst this
    have he : a = b := by have := hi.2; rwa [List.take_length, hl, List.take_length] at this
    simp [he]

end Go.Vi
