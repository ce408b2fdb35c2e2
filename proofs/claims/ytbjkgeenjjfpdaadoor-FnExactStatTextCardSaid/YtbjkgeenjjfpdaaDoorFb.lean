/- Contracts of functions of the seat. No statement is proved in this text. -/
import Derived.Test.YtbjkgeenjjfpdaaDoorFa
set_option linter.all false
set_option autoImplicit true
namespace Go.Vi
open Go Go.Proofs
set_option maxRecDepth 100000
set_option maxHeartbeats 4000000
set_option linter.unusedVariables false
set_option linter.unusedSimpArgs false
theorem nm_impl_sideOf : (Tryd.f71.name == "runtime.NumGoroutine") = false := by kernel_rfl
theorem spec_impl_sideOf (l : List Row) (k : Int) (hl : l.length ≤ 1099511627776) :
    Spec Tryd.prog 71 [.sh (.sl 0 (l.map dRow)), .sh (.int .i64 k)] [] (.ow (.sl 1 (((l.filter fun r => r.Kind != k).map (·.Line)).map .str))) [] := by
  refine spec_of_awp hm (tkT [6000, 8000]) Tryd.func71 rfl nm_impl_sideOf ?_
  rw [Tryd.ntmps71, Sp_start (by simp)]
  simp only [go_sem, Nat.reduceAdd, Nat.reduceMul, Nat.reduceEqDiff, Nat.reduceLT, Nat.reduceLeDiff, Nat.reduceBEq]
  refine a_rs fun K hK => ?_   -- region 0
  simp only [go_sem, Nat.reduceAdd, Nat.reduceMul, Nat.reduceEqDiff, Nat.reduceLT, Nat.reduceLeDiff, Nat.reduceBEq]
  refine hK _ ?_
  clear hK K
  refine a_rs fun K hK => ?_   -- region 1
  simp (disch := omega) only [go_sem, Nat.reduceAdd, Nat.reduceMul, Nat.reduceEqDiff, Nat.reduceLT, Nat.reduceLeDiff, Nat.reduceBEq, w64, chk_pos]
  refine hK _ ?_
  clear hK K
  refine a_seqK fun K1 hK1 => ?_
  refine a_rs fun K hK => ?_   -- region 2
  simp (disch := omega) only [go_sem, Nat.reduceAdd, Nat.reduceMul, Nat.reduceEqDiff, Nat.reduceLT, Nat.reduceLeDiff, Nat.reduceBEq, w64, chk_pos]
  refine hK _ ?_
  clear hK K
  refine a_block ?_   -- block 0
  refine a_loopU (ι := Nat × List Str) [1, 9, 10] [] (fun (i, out) => [(5, .ow (.sl 1 (out.map .str))), (11, .sh (.int .i64 i))]) (fun (i, out) => []) (fun (i, out) => i ≤ l.length ∧ out.length ≤ i ∧ out ++ ((l.drop i).filter fun r => r.Kind != k).map (·.Line) = (l.filter fun r => r.Kind != k).map (·.Line)) (fun (i, out) => l.length - i) (0, []) ?_ ?_ ?_
  · try simp (disch := omega) only [go_sem, Nat.reduceAdd, Nat.reduceMul, Nat.reduceEqDiff, Nat.reduceLT, Nat.reduceLeDiff, Nat.reduceBEq, w64, chk_pos]
    try rfl
  · simp
  rintro ⟨i, out⟩ hi
  simp only [] at hi
  simp only [go_sem, Nat.reduceAdd, Nat.reduceMul, Nat.reduceEqDiff, Nat.reduceLT, Nat.reduceLeDiff, Nat.reduceBEq]
  refine a_rs fun K hK => ?_   -- region 3
  simp only [go_sem, Nat.reduceAdd, Nat.reduceMul, Nat.reduceEqDiff, Nat.reduceLT, Nat.reduceLeDiff, Nat.reduceBEq]
  refine hK _ ?_
  clear hK K
  refine a_seqK fun K2 hK2 => ?_
  refine a_cond rfl (fun h1 => ?_) (fun h1 => ?_)   -- if t12
  · try simp only [Bool.not_eq_true', Bool.not_eq_false', Bool.not_not, Bool.not_eq_eq_eq_not, Bool.not_true, Bool.not_false] at h1
    have h1' := h1
    try simp [inr] at h1'
    obtain ⟨x, hx⟩ : ∃ x, l[i]? = some x := ⟨_, List.getElem?_eq_getElem h1'⟩
    have hd := drop_cons hx
    refine a_skip ?_
    refine hK2 _ ?_
    clear hK2 K2
    refine a_seqK fun K3 hK3 => ?_
    refine a_block ?_   -- block 1
    refine a_rs fun K hK => ?_   -- region 4
    simp (disch := omega) only [go_sem, Nat.reduceAdd, Nat.reduceMul, Nat.reduceEqDiff, Nat.reduceLT, Nat.reduceLeDiff, Nat.reduceBEq, w64, chk_pos, h1, hx]
    refine hK _ ?_
    clear hK K
    refine a_rs fun K hK => ?_   -- region 5
    simp only [go_sem, Nat.reduceAdd, Nat.reduceMul, Nat.reduceEqDiff, Nat.reduceLT, Nat.reduceLeDiff, Nat.reduceBEq, h1, hx]
    refine hK _ ?_
    clear hK K
    refine a_cond rfl (fun h2 => ?_) (fun h2 => ?_)   -- if t18
    · try simp only [Bool.not_eq_true', Bool.not_eq_false', Bool.not_not, Bool.not_eq_eq_eq_not, Bool.not_true, Bool.not_false] at h2
      have h2' := h2
      try simp [inr] at h2'
      refine a_regP ?_
      simp (disch := omega) only [go_sem, Nat.reduceAdd, Nat.reduceMul, Nat.reduceEqDiff, Nat.reduceLT, Nat.reduceLeDiff, Nat.reduceBEq, w64, chk_pos, h1, hx, h2]
      refine hK3 _ ?_
      clear hK3 K3
      refine a_regP ?_
      simp (disch := omega) only [go_sem, Nat.reduceAdd, Nat.reduceMul, Nat.reduceEqDiff, Nat.reduceLT, Nat.reduceLeDiff, Nat.reduceBEq, w64, chk_pos, h1, hx, h2]
      refine ⟨(i + 1, out ++ [x.Line]), ?_, ?_, ?_⟩   -- round E1
      · try simp (disch := omega) only [go_sem, Nat.reduceAdd, Nat.reduceMul, Nat.reduceEqDiff, Nat.reduceLT, Nat.reduceLeDiff, Nat.reduceBEq, w64, chk_pos, h1, hx, h2]
        try rfl
      all_goals try dsimp only
      · refine ⟨by omega, by simp; omega, ?_⟩
        rw [← hi.2.2, hd]; simp [h2']
      · omega
    try simp only [Bool.not_eq_true', Bool.not_eq_false', Bool.not_not, Bool.not_eq_eq_eq_not, Bool.not_true, Bool.not_false] at h2
    have h2' := h2
    try simp [inr] at h2'
    refine a_skip ?_
    refine hK3 _ ?_
    clear hK3 K3
    refine a_regP ?_
    simp (disch := omega) only [go_sem, Nat.reduceAdd, Nat.reduceMul, Nat.reduceEqDiff, Nat.reduceLT, Nat.reduceLeDiff, Nat.reduceBEq, w64, chk_pos, h1, hx, h2]
    refine ⟨(i + 1, out), ?_, ?_, ?_⟩   -- round E2
    · try simp (disch := omega) only [go_sem, Nat.reduceAdd, Nat.reduceMul, Nat.reduceEqDiff, Nat.reduceLT, Nat.reduceLeDiff, Nat.reduceBEq, w64, chk_pos, h1, hx, h2]
      try rfl
    all_goals try dsimp only
    · refine ⟨by omega, by omega, ?_⟩
      rw [← hi.2.2, hd]; simp [h2']
    · omega
  try simp only [Bool.not_eq_true', Bool.not_eq_false', Bool.not_not, Bool.not_eq_eq_eq_not, Bool.not_true, Bool.not_false] at h1
  have h1' := h1
  try simp [inr] at h1'
  refine a_exit ?_
  simp only [go_sem, Nat.reduceAdd, Nat.reduceMul, Nat.reduceEqDiff, Nat.reduceLT, Nat.reduceLeDiff, Nat.reduceBEq, h1]
  clear hK2 K2
  refine hK1 _ ?_
  clear hK1 K1
  refine a_rs fun K hK => ?_   -- region 8
  simp only [go_sem, Nat.reduceAdd, Nat.reduceMul, Nat.reduceEqDiff, Nat.reduceLT, Nat.reduceLeDiff, Nat.reduceBEq, h1]
  refine hK _ ?_
  clear hK K
  refine a_ret ⟨trivial, [.keep [4] []], ?_⟩
  simp only [go_sem, Nat.reduceAdd, Nat.reduceMul, Nat.reduceEqDiff, Nat.reduceLT, Nat.reduceLeDiff, Nat.reduceBEq, h1]
  refine ⟨_, _, rfl, rfl, rfl, ?_, rfl⟩
  simp only [go_sem, Nat.reduceAdd, Nat.reduceMul, Nat.reduceEqDiff, Nat.reduceLT, Nat.reduceLeDiff, Nat.reduceBEq, h1]
  all_goals
    have e : l.drop i = [] := List.drop_eq_nil_iff.2 (by omega)
    rw [← hi.2.2, e]; simp

theorem nm__impl_Group__old : (Tryd.f49.name == "runtime.NumGoroutine") = false := by kernel_rfl
theorem spec__impl_Group__old (g : Group) (hl : g.Rows.length ≤ 1099511627776) :
    Spec Tryd.prog 49 [.sh (dGroup tS g)] [] (.ow (.sl 1 ((oldOf g).map .str))) [] := by
  refine spec_of_awp hm (fun _ _ => {}) Tryd.func49 rfl nm__impl_Group__old ?_
  rw [Tryd.ntmps49, Sp_start (by simp)]
  simp only [go_sem, Nat.reduceAdd, Nat.reduceMul, Nat.reduceEqDiff, Nat.reduceLT, Nat.reduceLeDiff, Nat.reduceBEq]
  refine a_rs fun K hK => ?_   -- region 0
  simp (disch := omega) only [go_sem, Nat.reduceAdd, Nat.reduceMul, Nat.reduceEqDiff, Nat.reduceLT, Nat.reduceLeDiff, Nat.reduceBEq, w64, chk_pos]
  refine hK _ ?_
  clear hK K
  refine a_rs fun K hK => ?_   -- region 1
  simp only [go_sem, Nat.reduceAdd, Nat.reduceMul, Nat.reduceEqDiff, Nat.reduceLT, Nat.reduceLeDiff, Nat.reduceBEq]
  refine r_callT rfl rfl rfl rfl rfl (spec_impl_sideOf g.Rows 3 hl) (by first | rfl | (simp only [go_sem, Nat.reduceAdd, Nat.reduceMul, Nat.reduceEqDiff, Nat.reduceLT, Nat.reduceLeDiff, Nat.reduceBEq]; done) | (simp only [go_sem, Nat.reduceAdd, Nat.reduceMul, Nat.reduceEqDiff, Nat.reduceLT, Nat.reduceLeDiff, Nat.reduceBEq]; rfl)) (by first | rfl | (simp [AV.okIds, AV.ok1]; done)) (by rfl) ?_
  simp only [go_sem, Nat.reduceAdd, Nat.reduceMul, Nat.reduceEqDiff, Nat.reduceLT, Nat.reduceLeDiff, Nat.reduceBEq]
  refine hK _ ?_
  clear hK K
  refine a_ret ⟨trivial, [.keep [2] []], ?_⟩
  simp only [go_sem, Nat.reduceAdd, Nat.reduceMul, Nat.reduceEqDiff, Nat.reduceLT, Nat.reduceLeDiff, Nat.reduceBEq]
  refine ⟨_, _, rfl, rfl, rfl, ?_, rfl⟩
  simp only [go_sem, Nat.reduceAdd, Nat.reduceMul, Nat.reduceEqDiff, Nat.reduceLT, Nat.reduceLeDiff, Nat.reduceBEq]
  all_goals
    rfl

theorem nm__impl_Group__fresh : (Tryd.f50.name == "runtime.NumGoroutine") = false := by kernel_rfl
theorem spec__impl_Group__fresh (g : Group) (hl : g.Rows.length ≤ 1099511627776) :
    Spec Tryd.prog 50 [.sh (dGroup tS g)] [] (.ow (.sl 1 ((newOf g).map .str))) [] := by
  refine spec_of_awp hm (fun _ _ => {}) Tryd.func50 rfl nm__impl_Group__fresh ?_
  rw [Tryd.ntmps50, Sp_start (by simp)]
  simp only [go_sem, Nat.reduceAdd, Nat.reduceMul, Nat.reduceEqDiff, Nat.reduceLT, Nat.reduceLeDiff, Nat.reduceBEq]
  refine a_rs fun K hK => ?_   -- region 0
  simp (disch := omega) only [go_sem, Nat.reduceAdd, Nat.reduceMul, Nat.reduceEqDiff, Nat.reduceLT, Nat.reduceLeDiff, Nat.reduceBEq, w64, chk_pos]
  refine hK _ ?_
  clear hK K
  refine a_rs fun K hK => ?_   -- region 1
  simp only [go_sem, Nat.reduceAdd, Nat.reduceMul, Nat.reduceEqDiff, Nat.reduceLT, Nat.reduceLeDiff, Nat.reduceBEq]
  refine r_callT rfl rfl rfl rfl rfl (spec_impl_sideOf g.Rows 2 hl) (by first | rfl | (simp only [go_sem, Nat.reduceAdd, Nat.reduceMul, Nat.reduceEqDiff, Nat.reduceLT, Nat.reduceLeDiff, Nat.reduceBEq]; done) | (simp only [go_sem, Nat.reduceAdd, Nat.reduceMul, Nat.reduceEqDiff, Nat.reduceLT, Nat.reduceLeDiff, Nat.reduceBEq]; rfl)) (by first | rfl | (simp [AV.okIds, AV.ok1]; done)) (by rfl) ?_
  simp only [go_sem, Nat.reduceAdd, Nat.reduceMul, Nat.reduceEqDiff, Nat.reduceLT, Nat.reduceLeDiff, Nat.reduceBEq]
  refine hK _ ?_
  clear hK K
  refine a_ret ⟨trivial, [.keep [2] []], ?_⟩
  simp only [go_sem, Nat.reduceAdd, Nat.reduceMul, Nat.reduceEqDiff, Nat.reduceLT, Nat.reduceLeDiff, Nat.reduceBEq]
  refine ⟨_, _, rfl, rfl, rfl, ?_, rfl⟩
  simp only [go_sem, Nat.reduceAdd, Nat.reduceMul, Nat.reduceEqDiff, Nat.reduceLT, Nat.reduceLeDiff, Nat.reduceBEq]
  all_goals
    rfl

theorem nm_spec_l6Old : (Tryd.f55.name == "runtime.NumGoroutine") = false := by kernel_rfl
theorem spec_spec_l6Old (g : Group) (hl : g.Rows.length ≤ 1099511627776) :
    Spec Tryd.prog 55 [.sh (dGroup tS g)] [] (.ow (.sl 1 ((oldOf g).map .str))) [] := by
  refine spec_of_awp hm (tkT [6000, 8000]) Tryd.func55 rfl nm_spec_l6Old ?_
  rw [Tryd.ntmps55, Sp_start (by simp)]
  simp only [go_sem, Nat.reduceAdd, Nat.reduceMul, Nat.reduceEqDiff, Nat.reduceLT, Nat.reduceLeDiff, Nat.reduceBEq]
  refine a_rs fun K hK => ?_   -- region 0
  simp (disch := omega) only [go_sem, Nat.reduceAdd, Nat.reduceMul, Nat.reduceEqDiff, Nat.reduceLT, Nat.reduceLeDiff, Nat.reduceBEq, w64, chk_pos]
  refine hK _ ?_
  clear hK K
  refine a_rs fun K hK => ?_   -- region 1
  simp only [go_sem, Nat.reduceAdd, Nat.reduceMul, Nat.reduceEqDiff, Nat.reduceLT, Nat.reduceLeDiff, Nat.reduceBEq]
  refine hK _ ?_
  clear hK K
  refine a_seqK fun K1 hK1 => ?_
  refine a_rs fun K hK => ?_   -- region 2
  simp (disch := omega) only [go_sem, Nat.reduceAdd, Nat.reduceMul, Nat.reduceEqDiff, Nat.reduceLT, Nat.reduceLeDiff, Nat.reduceBEq, w64, chk_pos]
  refine hK _ ?_
  clear hK K
  refine a_block ?_   -- block 0
  refine a_loopU (ι := Nat × List Str) [7, 8] [] (fun (i, out) => [(3, .ow (.sl 1 (out.map .str))), (9, .sh (.int .i64 i))]) (fun (i, out) => []) (fun (i, out) => i ≤ g.Rows.length ∧ out.length ≤ i ∧ out ++ ((g.Rows.drop i).filter fun r => r.Kind != 3).map (·.Line) = oldOf g) (fun (i, out) => g.Rows.length - i) (0, []) ?_ ?_ ?_
  · try simp (disch := omega) only [go_sem, Nat.reduceAdd, Nat.reduceMul, Nat.reduceEqDiff, Nat.reduceLT, Nat.reduceLeDiff, Nat.reduceBEq, w64, chk_pos]
    try rfl
  · exact ⟨by omega, by simp, by simp [oldOf]⟩
  rintro ⟨i, out⟩ hi
  simp only [] at hi
  simp only [go_sem, Nat.reduceAdd, Nat.reduceMul, Nat.reduceEqDiff, Nat.reduceLT, Nat.reduceLeDiff, Nat.reduceBEq]
  refine a_rs fun K hK => ?_   -- region 3
  simp only [go_sem, Nat.reduceAdd, Nat.reduceMul, Nat.reduceEqDiff, Nat.reduceLT, Nat.reduceLeDiff, Nat.reduceBEq]
  refine hK _ ?_
  clear hK K
  refine a_seqK fun K2 hK2 => ?_
  refine a_cond rfl (fun h1 => ?_) (fun h1 => ?_)   -- if t10
  · try simp only [Bool.not_eq_true', Bool.not_eq_false', Bool.not_not, Bool.not_eq_eq_eq_not, Bool.not_true, Bool.not_false] at h1
    have h1' := h1
    try simp [inr] at h1'
    obtain ⟨x, hx⟩ : ∃ x, g.Rows[i]? = some x := ⟨_, List.getElem?_eq_getElem h1'⟩
    have hd := drop_cons hx
    refine a_skip ?_
    refine hK2 _ ?_
    clear hK2 K2
    refine a_seqK fun K3 hK3 => ?_
    refine a_block ?_   -- block 1
    refine a_rs fun K hK => ?_   -- region 4
    simp (disch := omega) only [go_sem, Nat.reduceAdd, Nat.reduceMul, Nat.reduceEqDiff, Nat.reduceLT, Nat.reduceLeDiff, Nat.reduceBEq, w64, chk_pos, h1, hx]
    refine hK _ ?_
    clear hK K
    refine a_rs fun K hK => ?_   -- region 5
    simp only [go_sem, Nat.reduceAdd, Nat.reduceMul, Nat.reduceEqDiff, Nat.reduceLT, Nat.reduceLeDiff, Nat.reduceBEq, h1, hx]
    refine hK _ ?_
    clear hK K
    refine a_cond rfl (fun h2 => ?_) (fun h2 => ?_)   -- if t15
    · try simp only [Bool.not_eq_true', Bool.not_eq_false', Bool.not_not, Bool.not_eq_eq_eq_not, Bool.not_true, Bool.not_false] at h2
      have h2' := h2
      try simp [inr] at h2'
      refine a_regP ?_
      simp (disch := omega) only [go_sem, Nat.reduceAdd, Nat.reduceMul, Nat.reduceEqDiff, Nat.reduceLT, Nat.reduceLeDiff, Nat.reduceBEq, w64, chk_pos, h1, hx, h2]
      refine hK3 _ ?_
      clear hK3 K3
      refine a_regP ?_
      simp (disch := omega) only [go_sem, Nat.reduceAdd, Nat.reduceMul, Nat.reduceEqDiff, Nat.reduceLT, Nat.reduceLeDiff, Nat.reduceBEq, w64, chk_pos, h1, hx, h2]
      refine ⟨(i + 1, out ++ [x.Line]), ?_, ?_, ?_⟩   -- round E1
      · try simp (disch := omega) only [go_sem, Nat.reduceAdd, Nat.reduceMul, Nat.reduceEqDiff, Nat.reduceLT, Nat.reduceLeDiff, Nat.reduceBEq, w64, chk_pos, h1, hx, h2]
        try rfl
      all_goals try dsimp only
      · refine ⟨by omega, by simp; omega, ?_⟩
        rw [← hi.2.2, hd]; simp [h2']
      · omega
    try simp only [Bool.not_eq_true', Bool.not_eq_false', Bool.not_not, Bool.not_eq_eq_eq_not, Bool.not_true, Bool.not_false] at h2
    have h2' := h2
    try simp [inr] at h2'
    refine a_skip ?_
    refine hK3 _ ?_
    clear hK3 K3
    refine a_regP ?_
    simp (disch := omega) only [go_sem, Nat.reduceAdd, Nat.reduceMul, Nat.reduceEqDiff, Nat.reduceLT, Nat.reduceLeDiff, Nat.reduceBEq, w64, chk_pos, h1, hx, h2]
    refine ⟨(i + 1, out), ?_, ?_, ?_⟩   -- round E2
    · try simp (disch := omega) only [go_sem, Nat.reduceAdd, Nat.reduceMul, Nat.reduceEqDiff, Nat.reduceLT, Nat.reduceLeDiff, Nat.reduceBEq, w64, chk_pos, h1, hx, h2]
      try rfl
    all_goals try dsimp only
    · refine ⟨by omega, by omega, ?_⟩
      rw [← hi.2.2, hd]; simp [h2']
    · omega
  try simp only [Bool.not_eq_true', Bool.not_eq_false', Bool.not_not, Bool.not_eq_eq_eq_not, Bool.not_true, Bool.not_false] at h1
  have h1' := h1
  try simp [inr] at h1'
  refine a_exit ?_
  simp only [go_sem, Nat.reduceAdd, Nat.reduceMul, Nat.reduceEqDiff, Nat.reduceLT, Nat.reduceLeDiff, Nat.reduceBEq, h1]
  clear hK2 K2
  refine hK1 _ ?_
  clear hK1 K1
  refine a_rs fun K hK => ?_   -- region 8
  simp only [go_sem, Nat.reduceAdd, Nat.reduceMul, Nat.reduceEqDiff, Nat.reduceLT, Nat.reduceLeDiff, Nat.reduceBEq, h1]
  refine hK _ ?_
  clear hK K
  refine a_ret ⟨trivial, [.keep [2] []], ?_⟩
  simp only [go_sem, Nat.reduceAdd, Nat.reduceMul, Nat.reduceEqDiff, Nat.reduceLT, Nat.reduceLeDiff, Nat.reduceBEq, h1]
  refine ⟨_, _, rfl, rfl, rfl, ?_, rfl⟩
  simp only [go_sem, Nat.reduceAdd, Nat.reduceMul, Nat.reduceEqDiff, Nat.reduceLT, Nat.reduceLeDiff, Nat.reduceBEq, h1]
  all_goals
    have e : g.Rows.drop i = [] := List.drop_eq_nil_iff.2 (by omega)
    rw [← hi.2.2, e]; simp

theorem nm_spec_l6New : (Tryd.f56.name == "runtime.NumGoroutine") = false := by kernel_rfl
theorem spec_spec_l6New (g : Group) (hl : g.Rows.length ≤ 1099511627776) :
    Spec Tryd.prog 56 [.sh (dGroup tS g)] [] (.ow (.sl 1 ((newOf g).map .str))) [] := by
  refine spec_of_awp hm (tkT [6000, 8000]) Tryd.func56 rfl nm_spec_l6New ?_
  rw [Tryd.ntmps56, Sp_start (by simp)]
  simp only [go_sem, Nat.reduceAdd, Nat.reduceMul, Nat.reduceEqDiff, Nat.reduceLT, Nat.reduceLeDiff, Nat.reduceBEq]
  refine a_rs fun K hK => ?_   -- region 0
  simp (disch := omega) only [go_sem, Nat.reduceAdd, Nat.reduceMul, Nat.reduceEqDiff, Nat.reduceLT, Nat.reduceLeDiff, Nat.reduceBEq, w64, chk_pos]
  refine hK _ ?_
  clear hK K
  refine a_rs fun K hK => ?_   -- region 1
  simp only [go_sem, Nat.reduceAdd, Nat.reduceMul, Nat.reduceEqDiff, Nat.reduceLT, Nat.reduceLeDiff, Nat.reduceBEq]
  refine hK _ ?_
  clear hK K
  refine a_seqK fun K1 hK1 => ?_
  refine a_rs fun K hK => ?_   -- region 2
  simp (disch := omega) only [go_sem, Nat.reduceAdd, Nat.reduceMul, Nat.reduceEqDiff, Nat.reduceLT, Nat.reduceLeDiff, Nat.reduceBEq, w64, chk_pos]
  refine hK _ ?_
  clear hK K
  refine a_block ?_   -- block 0
  refine a_loopU (ι := Nat × List Str) [7, 8] [] (fun (i, out) => [(3, .ow (.sl 1 (out.map .str))), (9, .sh (.int .i64 i))]) (fun (i, out) => []) (fun (i, out) => i ≤ g.Rows.length ∧ out.length ≤ i ∧ out ++ ((g.Rows.drop i).filter fun r => r.Kind != 2).map (·.Line) = newOf g) (fun (i, out) => g.Rows.length - i) (0, []) ?_ ?_ ?_
  · try simp (disch := omega) only [go_sem, Nat.reduceAdd, Nat.reduceMul, Nat.reduceEqDiff, Nat.reduceLT, Nat.reduceLeDiff, Nat.reduceBEq, w64, chk_pos]
    try rfl
  · exact ⟨by omega, by simp, by simp [newOf]⟩
  rintro ⟨i, out⟩ hi
  simp only [] at hi
  simp only [go_sem, Nat.reduceAdd, Nat.reduceMul, Nat.reduceEqDiff, Nat.reduceLT, Nat.reduceLeDiff, Nat.reduceBEq]
  refine a_rs fun K hK => ?_   -- region 3
  simp only [go_sem, Nat.reduceAdd, Nat.reduceMul, Nat.reduceEqDiff, Nat.reduceLT, Nat.reduceLeDiff, Nat.reduceBEq]
  refine hK _ ?_
  clear hK K
  refine a_seqK fun K2 hK2 => ?_
  refine a_cond rfl (fun h1 => ?_) (fun h1 => ?_)   -- if t10
  · try simp only [Bool.not_eq_true', Bool.not_eq_false', Bool.not_not, Bool.not_eq_eq_eq_not, Bool.not_true, Bool.not_false] at h1
    have h1' := h1
    try simp [inr] at h1'
    obtain ⟨x, hx⟩ : ∃ x, g.Rows[i]? = some x := ⟨_, List.getElem?_eq_getElem h1'⟩
    have hd := drop_cons hx
    refine a_skip ?_
    refine hK2 _ ?_
    clear hK2 K2
    refine a_seqK fun K3 hK3 => ?_
    refine a_block ?_   -- block 1
    refine a_rs fun K hK => ?_   -- region 4
    simp (disch := omega) only [go_sem, Nat.reduceAdd, Nat.reduceMul, Nat.reduceEqDiff, Nat.reduceLT, Nat.reduceLeDiff, Nat.reduceBEq, w64, chk_pos, h1, hx]
    refine hK _ ?_
    clear hK K
    refine a_rs fun K hK => ?_   -- region 5
    simp only [go_sem, Nat.reduceAdd, Nat.reduceMul, Nat.reduceEqDiff, Nat.reduceLT, Nat.reduceLeDiff, Nat.reduceBEq, h1, hx]
    refine hK _ ?_
    clear hK K
    refine a_cond rfl (fun h2 => ?_) (fun h2 => ?_)   -- if t15
    · try simp only [Bool.not_eq_true', Bool.not_eq_false', Bool.not_not, Bool.not_eq_eq_eq_not, Bool.not_true, Bool.not_false] at h2
      have h2' := h2
      try simp [inr] at h2'
      refine a_regP ?_
      simp (disch := omega) only [go_sem, Nat.reduceAdd, Nat.reduceMul, Nat.reduceEqDiff, Nat.reduceLT, Nat.reduceLeDiff, Nat.reduceBEq, w64, chk_pos, h1, hx, h2]
      refine hK3 _ ?_
      clear hK3 K3
      refine a_regP ?_
      simp (disch := omega) only [go_sem, Nat.reduceAdd, Nat.reduceMul, Nat.reduceEqDiff, Nat.reduceLT, Nat.reduceLeDiff, Nat.reduceBEq, w64, chk_pos, h1, hx, h2]
      refine ⟨(i + 1, out ++ [x.Line]), ?_, ?_, ?_⟩   -- round E1
      · try simp (disch := omega) only [go_sem, Nat.reduceAdd, Nat.reduceMul, Nat.reduceEqDiff, Nat.reduceLT, Nat.reduceLeDiff, Nat.reduceBEq, w64, chk_pos, h1, hx, h2]
        try rfl
      all_goals try dsimp only
      · refine ⟨by omega, by simp; omega, ?_⟩
        rw [← hi.2.2, hd]; simp [h2']
      · omega
    try simp only [Bool.not_eq_true', Bool.not_eq_false', Bool.not_not, Bool.not_eq_eq_eq_not, Bool.not_true, Bool.not_false] at h2
    have h2' := h2
    try simp [inr] at h2'
    refine a_skip ?_
    refine hK3 _ ?_
    clear hK3 K3
    refine a_regP ?_
    simp (disch := omega) only [go_sem, Nat.reduceAdd, Nat.reduceMul, Nat.reduceEqDiff, Nat.reduceLT, Nat.reduceLeDiff, Nat.reduceBEq, w64, chk_pos, h1, hx, h2]
    refine ⟨(i + 1, out), ?_, ?_, ?_⟩   -- round E2
    · try simp (disch := omega) only [go_sem, Nat.reduceAdd, Nat.reduceMul, Nat.reduceEqDiff, Nat.reduceLT, Nat.reduceLeDiff, Nat.reduceBEq, w64, chk_pos, h1, hx, h2]
      try rfl
    all_goals try dsimp only
    · refine ⟨by omega, by omega, ?_⟩
      rw [← hi.2.2, hd]; simp [h2']
    · omega
  try simp only [Bool.not_eq_true', Bool.not_eq_false', Bool.not_not, Bool.not_eq_eq_eq_not, Bool.not_true, Bool.not_false] at h1
  have h1' := h1
  try simp [inr] at h1'
  refine a_exit ?_
  simp only [go_sem, Nat.reduceAdd, Nat.reduceMul, Nat.reduceEqDiff, Nat.reduceLT, Nat.reduceLeDiff, Nat.reduceBEq, h1]
  clear hK2 K2
  refine hK1 _ ?_
  clear hK1 K1
  refine a_rs fun K hK => ?_   -- region 8
  simp only [go_sem, Nat.reduceAdd, Nat.reduceMul, Nat.reduceEqDiff, Nat.reduceLT, Nat.reduceLeDiff, Nat.reduceBEq, h1]
  refine hK _ ?_
  clear hK K
  refine a_ret ⟨trivial, [.keep [2] []], ?_⟩
  simp only [go_sem, Nat.reduceAdd, Nat.reduceMul, Nat.reduceEqDiff, Nat.reduceLT, Nat.reduceLeDiff, Nat.reduceBEq, h1]
  refine ⟨_, _, rfl, rfl, rfl, ?_, rfl⟩
  simp only [go_sem, Nat.reduceAdd, Nat.reduceMul, Nat.reduceEqDiff, Nat.reduceLT, Nat.reduceLeDiff, Nat.reduceBEq, h1]
  all_goals
    have e : g.Rows.drop i = [] := List.drop_eq_nil_iff.2 (by omega)
    rw [← hi.2.2, e]; simp

theorem nm_impl_goodGroup : (Tryd.f48.name == "runtime.NumGoroutine") = false := by kernel_rfl
theorem spec_impl_goodGroup (g : Group) (hl : g.Rows.length ≤ 1099511627776) (hs : ∀ r ∈ g.Rows, r.Line.length ≤ 1099511627776) :
    Spec Tryd.prog 48 [.sh (dGroup tS g)] [] (.sh (.bool (goodGroup g))) [] := by
  refine spec_of_awp hm (tkT [6000]) Tryd.func48 rfl nm_impl_goodGroup ?_
  rw [Tryd.ntmps48, Sp_start (by simp)]
  simp only [go_sem, Nat.reduceAdd, Nat.reduceMul, Nat.reduceEqDiff, Nat.reduceLT, Nat.reduceLeDiff, Nat.reduceBEq]
  refine a_rs fun K hK => ?_   -- region 0
  simp (disch := omega) only [go_sem, Nat.reduceAdd, Nat.reduceMul, Nat.reduceEqDiff, Nat.reduceLT, Nat.reduceLeDiff, Nat.reduceBEq, w64, chk_pos]
  refine hK _ ?_
  clear hK K
  refine a_seqK fun K1 hK1 => ?_
  refine a_rsm [1] [1, 5] [(24, .sh (.bool (!(inr g.At 0 999) || !(inr g.To 0 999) || !(inr g.Rows.length 1 80))))] ?_ ?_   -- region 1
  · simp (disch := omega) only [go_sem, Nat.reduceAdd, Nat.reduceMul, Nat.reduceEqDiff, Nat.reduceLT, Nat.reduceLeDiff, Nat.reduceBEq, w64, chk_pos]
    refine r_callT rfl rfl rfl rfl rfl (spec_impl_in _ _ _) (by first | rfl | (simp only [go_sem, Nat.reduceAdd, Nat.reduceMul, Nat.reduceEqDiff, Nat.reduceLT, Nat.reduceLeDiff, Nat.reduceBEq]; done) | (simp only [go_sem, Nat.reduceAdd, Nat.reduceMul, Nat.reduceEqDiff, Nat.reduceLT, Nat.reduceLeDiff, Nat.reduceBEq]; rfl)) (by first | rfl | (simp [AV.okIds, AV.ok1]; done)) (by rfl) ?_
    simp (disch := omega) only [go_sem, Nat.reduceAdd, Nat.reduceMul, Nat.reduceEqDiff, Nat.reduceLT, Nat.reduceLeDiff, Nat.reduceBEq, w64, chk_pos]
    refine gIf_both (fun hg1 => ?_) (fun hg1 => ?_)
    · try simp only [Bool.not_eq_true', Bool.not_eq_false', Bool.not_not, Bool.not_eq_eq_eq_not, Bool.not_true, Bool.not_false] at hg1
      have hg1' := hg1
      try simp [inr] at hg1'
      simp (disch := omega) only [go_sem, Nat.reduceAdd, Nat.reduceMul, Nat.reduceEqDiff, Nat.reduceLT, Nat.reduceLeDiff, Nat.reduceBEq, w64, chk_pos, hg1]
      refine r_callT rfl rfl rfl rfl rfl (spec_impl_in _ _ _) (by first | rfl | (simp only [go_sem, Nat.reduceAdd, Nat.reduceMul, Nat.reduceEqDiff, Nat.reduceLT, Nat.reduceLeDiff, Nat.reduceBEq, hg1]; done) | (simp only [go_sem, Nat.reduceAdd, Nat.reduceMul, Nat.reduceEqDiff, Nat.reduceLT, Nat.reduceLeDiff, Nat.reduceBEq, hg1]; rfl)) (by first | rfl | (simp [AV.okIds, AV.ok1]; done)) (by rfl) ?_
      simp (disch := omega) only [go_sem, Nat.reduceAdd, Nat.reduceMul, Nat.reduceEqDiff, Nat.reduceLT, Nat.reduceLeDiff, Nat.reduceBEq, w64, chk_pos, hg1]
      refine gIf_both (fun hg2 => ?_) (fun hg2 => ?_)
      · try simp only [Bool.not_eq_true', Bool.not_eq_false', Bool.not_not, Bool.not_eq_eq_eq_not, Bool.not_true, Bool.not_false] at hg2
        have hg2' := hg2
        try simp [inr] at hg2'
        simp (disch := omega) only [go_sem, Nat.reduceAdd, Nat.reduceMul, Nat.reduceEqDiff, Nat.reduceLT, Nat.reduceLeDiff, Nat.reduceBEq, w64, chk_pos, hg1, hg2]
        refine r_callT rfl rfl rfl rfl rfl (spec_impl_in _ _ _) (by first | rfl | (simp only [go_sem, Nat.reduceAdd, Nat.reduceMul, Nat.reduceEqDiff, Nat.reduceLT, Nat.reduceLeDiff, Nat.reduceBEq, hg1, hg2]; done) | (simp only [go_sem, Nat.reduceAdd, Nat.reduceMul, Nat.reduceEqDiff, Nat.reduceLT, Nat.reduceLeDiff, Nat.reduceBEq, hg1, hg2]; rfl)) (by first | rfl | (simp [AV.okIds, AV.ok1]; done)) (by rfl) ?_
        simp only [go_sem, Nat.reduceAdd, Nat.reduceMul, Nat.reduceEqDiff, Nat.reduceLT, Nat.reduceLeDiff, Nat.reduceBEq, hg1, hg2]
        all_goals (first | rfl | ((first | refine sp_hd ?_ | refine sp_hd' ?_) <;> first | rfl | (simp; done) | (simp []; omega) | (simp_all []; done) | (simp_all []; omega)))
      try simp only [Bool.not_eq_true', Bool.not_eq_false', Bool.not_not, Bool.not_eq_eq_eq_not, Bool.not_true, Bool.not_false] at hg2
      have hg2' := hg2
      try simp [inr] at hg2'
      simp (disch := omega) only [go_sem, Nat.reduceAdd, Nat.reduceMul, Nat.reduceEqDiff, Nat.reduceLT, Nat.reduceLeDiff, Nat.reduceBEq, w64, chk_pos, hg1, hg2]
      all_goals (first | rfl | ((first | refine sp_hd ?_ | refine sp_hd' ?_) <;> first | rfl | (simp; done) | (simp []; omega) | (simp_all []; done) | (simp_all []; omega)))
    try simp only [Bool.not_eq_true', Bool.not_eq_false', Bool.not_not, Bool.not_eq_eq_eq_not, Bool.not_true, Bool.not_false] at hg1
    have hg1' := hg1
    try simp [inr] at hg1'
    simp (disch := omega) only [go_sem, Nat.reduceAdd, Nat.reduceMul, Nat.reduceEqDiff, Nat.reduceLT, Nat.reduceLeDiff, Nat.reduceBEq, w64, chk_pos, hg1]
    all_goals (first | rfl | ((first | refine sp_hd ?_ | refine sp_hd' ?_) <;> first | rfl | (simp; done) | (simp []; omega) | (simp_all []; done) | (simp_all []; omega)))
  simp only [go_sem, Nat.reduceAdd, Nat.reduceMul, Nat.reduceEqDiff, Nat.reduceLT, Nat.reduceLeDiff, Nat.reduceBEq]
  refine a_cond rfl (fun h1 => ?_) (fun h1 => ?_)   -- if t24
  · try simp only [Bool.not_eq_true', Bool.not_eq_false', Bool.not_not, Bool.not_eq_eq_eq_not, Bool.not_true, Bool.not_false] at h1
    have h1' := h1
    try simp [inr] at h1'
    refine a_rs fun K hK => ?_   -- region 2
    simp only [go_sem, Nat.reduceAdd, Nat.reduceMul, Nat.reduceEqDiff, Nat.reduceLT, Nat.reduceLeDiff, Nat.reduceBEq, h1]
    refine hK _ ?_
    clear hK K
    refine a_ret ⟨trivial, [.keep [2] []], ?_⟩
    simp only [go_sem, Nat.reduceAdd, Nat.reduceMul, Nat.reduceEqDiff, Nat.reduceLT, Nat.reduceLeDiff, Nat.reduceBEq, h1]
    refine ⟨_, _, rfl, rfl, rfl, ?_, rfl⟩
    simp only [go_sem, Nat.reduceAdd, Nat.reduceMul, Nat.reduceEqDiff, Nat.reduceLT, Nat.reduceLeDiff, Nat.reduceBEq, h1]
    all_goals
      rw [goodGroup_head]; simpa using h1
  try simp only [Bool.not_eq_true', Bool.not_eq_false', Bool.not_not, Bool.not_eq_eq_eq_not, Bool.not_true, Bool.not_false] at h1
  have h1' := h1
  try simp [inr] at h1'
  refine a_skip ?_
  refine hK1 _ ?_
  clear hK1 K1
  refine a_rs fun K hK => ?_   -- region 3
  simp only [go_sem, Nat.reduceAdd, Nat.reduceMul, Nat.reduceEqDiff, Nat.reduceLT, Nat.reduceLeDiff, Nat.reduceBEq, h1]
  refine hK _ ?_
  clear hK K
  refine a_seqK fun K2 hK2 => ?_
  refine a_rs fun K hK => ?_   -- region 4
  simp (disch := omega) only [go_sem, Nat.reduceAdd, Nat.reduceMul, Nat.reduceEqDiff, Nat.reduceLT, Nat.reduceLeDiff, Nat.reduceBEq, w64, chk_pos, h1]
  refine hK _ ?_
  clear hK K
  refine a_block ?_   -- block 0
  refine a_loopU (ι := Nat × Bool) [1, 26, 27] [1] (fun (i, c) => [(3, .sh (.bool c)), (28, .sh (.int .i64 i))]) (fun (i, c) => [(1, [dGroup tS g])]) (fun (i, c) => i ≤ g.Rows.length ∧ rowsFrom (prevKind g.Rows i) (g.Rows.drop i) = rowsFrom none g.Rows ∧ (c || (g.Rows.drop i).any fun r => r.Kind != 1) = g.Rows.any fun r => r.Kind != 1) (fun (i, c) => g.Rows.length - i) (0, false) ?_ ?_ ?_
  · try simp (disch := omega) only [go_sem, Nat.reduceAdd, Nat.reduceMul, Nat.reduceEqDiff, Nat.reduceLT, Nat.reduceLeDiff, Nat.reduceBEq, w64, chk_pos, h1]
    try rfl
  · exact ⟨by omega, rfl, by simp⟩
  rintro ⟨i, c⟩ hi
  simp only [] at hi
  simp only [go_sem, Nat.reduceAdd, Nat.reduceMul, Nat.reduceEqDiff, Nat.reduceLT, Nat.reduceLeDiff, Nat.reduceBEq, h1]
  refine a_rs fun K hK => ?_   -- region 5
  simp only [go_sem, Nat.reduceAdd, Nat.reduceMul, Nat.reduceEqDiff, Nat.reduceLT, Nat.reduceLeDiff, Nat.reduceBEq, h1]
  refine hK _ ?_
  clear hK K
  refine a_seqK fun K3 hK3 => ?_
  refine a_cond rfl (fun h2 => ?_) (fun h2 => ?_)   -- if t29
  · try simp only [Bool.not_eq_true', Bool.not_eq_false', Bool.not_not, Bool.not_eq_eq_eq_not, Bool.not_true, Bool.not_false] at h2
    have h2' := h2
    try simp [inr] at h2'
    obtain ⟨x, hx⟩ : ∃ x, g.Rows[i]? = some x := ⟨_, List.getElem?_eq_getElem h2'⟩
    have hxs := hs x (List.mem_of_getElem? hx)
    obtain ⟨y, hy⟩ : ∃ y, g.Rows[i - 1]? = some y := ⟨_, List.getElem?_eq_getElem (by omega)⟩
    have hp := prevKind_if hy
    refine a_skip ?_
    refine hK3 _ ?_
    clear hK3 K3
    refine a_seqK fun K4 hK4 => ?_
    refine a_block ?_   -- block 1
    refine a_rs fun K hK => ?_   -- region 6
    simp (disch := omega) only [go_sem, Nat.reduceAdd, Nat.reduceMul, Nat.reduceEqDiff, Nat.reduceLT, Nat.reduceLeDiff, Nat.reduceBEq, w64, chk_pos, h1, h2, hx, hy]
    refine hK _ ?_
    clear hK K
    refine a_seqK fun K5 hK5 => ?_
    refine a_rsm [1, 3, 5, 26, 27, 28] [1, 5] [(61, .sh (.bool (!(inr x.Kind 1 3 && isLine x.Line && !(prevKind g.Rows i == some 3 && x.Kind == 2)))))] ?_ ?_   -- region 7
    · simp (disch := omega) only [go_sem, Nat.reduceAdd, Nat.reduceMul, Nat.reduceEqDiff, Nat.reduceLT, Nat.reduceLeDiff, Nat.reduceBEq, w64, chk_pos, h1, h2, hx, hy]
      refine r_callT rfl rfl rfl rfl rfl (spec_impl_in _ _ _) (by first | rfl | (simp only [go_sem, Nat.reduceAdd, Nat.reduceMul, Nat.reduceEqDiff, Nat.reduceLT, Nat.reduceLeDiff, Nat.reduceBEq, h1, h2, hx, hy]; done) | (simp only [go_sem, Nat.reduceAdd, Nat.reduceMul, Nat.reduceEqDiff, Nat.reduceLT, Nat.reduceLeDiff, Nat.reduceBEq, h1, h2, hx, hy]; rfl)) (by first | rfl | (simp [AV.okIds, AV.ok1]; done)) (by rfl) ?_
      simp (disch := omega) only [go_sem, Nat.reduceAdd, Nat.reduceMul, Nat.reduceEqDiff, Nat.reduceLT, Nat.reduceLeDiff, Nat.reduceBEq, w64, chk_pos, h1, h2, hx, hy]
      refine gIf_both (fun hg3 => ?_) (fun hg3 => ?_)
      · try simp only [Bool.not_eq_true', Bool.not_eq_false', Bool.not_not, Bool.not_eq_eq_eq_not, Bool.not_true, Bool.not_false] at hg3
        have hg3' := hg3
        try simp [inr] at hg3'
        simp (disch := omega) only [go_sem, Nat.reduceAdd, Nat.reduceMul, Nat.reduceEqDiff, Nat.reduceLT, Nat.reduceLeDiff, Nat.reduceBEq, w64, chk_pos, h1, h2, hx, hy, hg3]
        refine r_callT rfl rfl rfl rfl rfl (spec_impl_isLine x.Line hxs) (by first | rfl | (simp only [go_sem, Nat.reduceAdd, Nat.reduceMul, Nat.reduceEqDiff, Nat.reduceLT, Nat.reduceLeDiff, Nat.reduceBEq, h1, h2, hx, hy, hg3]; done) | (simp only [go_sem, Nat.reduceAdd, Nat.reduceMul, Nat.reduceEqDiff, Nat.reduceLT, Nat.reduceLeDiff, Nat.reduceBEq, h1, h2, hx, hy, hg3]; rfl)) (by first | rfl | (simp [AV.okIds, AV.ok1]; done)) (by rfl) ?_
        simp (disch := omega) only [go_sem, Nat.reduceAdd, Nat.reduceMul, Nat.reduceEqDiff, Nat.reduceLT, Nat.reduceLeDiff, Nat.reduceBEq, w64, chk_pos, h1, h2, hx, hy, hg3]
        refine gIf_both (fun hg4 => ?_) (fun hg4 => ?_)
        · try simp only [Bool.not_eq_true', Bool.not_eq_false', Bool.not_not, Bool.not_eq_eq_eq_not, Bool.not_true, Bool.not_false] at hg4
          have hg4' := hg4
          try simp [inr] at hg4'
          simp (disch := omega) only [go_sem, Nat.reduceAdd, Nat.reduceMul, Nat.reduceEqDiff, Nat.reduceLT, Nat.reduceLeDiff, Nat.reduceBEq, w64, chk_pos, h1, h2, hx, hy, hg3, hg4]
          refine gIf_both (fun hg5 => ?_) (fun hg5 => ?_)
          · try simp only [Bool.not_eq_true', Bool.not_eq_false', Bool.not_not, Bool.not_eq_eq_eq_not, Bool.not_true, Bool.not_false] at hg5
            have hg5' := hg5
            try simp [inr] at hg5'
            simp (disch := omega) only [go_sem, Nat.reduceAdd, Nat.reduceMul, Nat.reduceEqDiff, Nat.reduceLT, Nat.reduceLeDiff, Nat.reduceBEq, w64, chk_pos, h1, h2, hx, hy, hg3, hg4, hg5]
            refine gIf_both (fun hg6 => ?_) (fun hg6 => ?_)
            · try simp only [Bool.not_eq_true', Bool.not_eq_false', Bool.not_not, Bool.not_eq_eq_eq_not, Bool.not_true, Bool.not_false] at hg6
              have hg6' := hg6
              try simp [inr] at hg6'
              simp (disch := omega) only [go_sem, Nat.reduceAdd, Nat.reduceMul, Nat.reduceEqDiff, Nat.reduceLT, Nat.reduceLeDiff, Nat.reduceBEq, w64, chk_pos, h1, h2, hx, hy, hg3, hg4, hg5, hg6]
              all_goals (first | rfl | ((first | refine sp_hd ?_ | refine sp_hd' ?_) <;> first | rfl | (simp; done) | (simp []; omega) | (simp_all []; done) | (simp_all []; omega)))
            try simp only [Bool.not_eq_true', Bool.not_eq_false', Bool.not_not, Bool.not_eq_eq_eq_not, Bool.not_true, Bool.not_false] at hg6
            have hg6' := hg6
            try simp [inr] at hg6'
            simp (disch := omega) only [go_sem, Nat.reduceAdd, Nat.reduceMul, Nat.reduceEqDiff, Nat.reduceLT, Nat.reduceLeDiff, Nat.reduceBEq, w64, chk_pos, h1, h2, hx, hy, hg3, hg4, hg5, hg6]
            all_goals (first | rfl | ((first | refine sp_hd ?_ | refine sp_hd' ?_) <;> first | rfl | (simp; done) | (simp []; omega) | (simp_all []; done) | (simp_all []; omega)))
          try simp only [Bool.not_eq_true', Bool.not_eq_false', Bool.not_not, Bool.not_eq_eq_eq_not, Bool.not_true, Bool.not_false] at hg5
          have hg5' := hg5
          try simp [inr] at hg5'
          simp (disch := omega) only [go_sem, Nat.reduceAdd, Nat.reduceMul, Nat.reduceEqDiff, Nat.reduceLT, Nat.reduceLeDiff, Nat.reduceBEq, w64, chk_pos, h1, h2, hx, hy, hg3, hg4, hg5]
          all_goals (first | rfl | ((first | refine sp_hd ?_ | refine sp_hd' ?_) <;> first | rfl | (simp; done) | (simp []; omega) | (simp_all []; done) | (simp_all []; omega)))
        try simp only [Bool.not_eq_true', Bool.not_eq_false', Bool.not_not, Bool.not_eq_eq_eq_not, Bool.not_true, Bool.not_false] at hg4
        have hg4' := hg4
        try simp [inr] at hg4'
        simp (disch := omega) only [go_sem, Nat.reduceAdd, Nat.reduceMul, Nat.reduceEqDiff, Nat.reduceLT, Nat.reduceLeDiff, Nat.reduceBEq, w64, chk_pos, h1, h2, hx, hy, hg3, hg4]
        all_goals (first | rfl | ((first | refine sp_hd ?_ | refine sp_hd' ?_) <;> first | rfl | (simp; done) | (simp []; omega) | (simp_all []; done) | (simp_all []; omega)))
      try simp only [Bool.not_eq_true', Bool.not_eq_false', Bool.not_not, Bool.not_eq_eq_eq_not, Bool.not_true, Bool.not_false] at hg3
      have hg3' := hg3
      try simp [inr] at hg3'
      simp (disch := omega) only [go_sem, Nat.reduceAdd, Nat.reduceMul, Nat.reduceEqDiff, Nat.reduceLT, Nat.reduceLeDiff, Nat.reduceBEq, w64, chk_pos, h1, h2, hx, hy, hg3]
      all_goals (first | rfl | ((first | refine sp_hd ?_ | refine sp_hd' ?_) <;> first | rfl | (simp; done) | (simp []; omega) | (simp_all []; done) | (simp_all []; omega)))
    simp only [go_sem, Nat.reduceAdd, Nat.reduceMul, Nat.reduceEqDiff, Nat.reduceLT, Nat.reduceLeDiff, Nat.reduceBEq, h1, h2, hx, hy]
    refine a_cond rfl (fun h3 => ?_) (fun h3 => ?_)   -- if t61
    · try simp only [Bool.not_eq_true', Bool.not_eq_false', Bool.not_not, Bool.not_eq_eq_eq_not, Bool.not_true, Bool.not_false] at h3
      have h3' := h3
      try simp [inr] at h3'
      refine a_rs fun K hK => ?_   -- region 8
      simp only [go_sem, Nat.reduceAdd, Nat.reduceMul, Nat.reduceEqDiff, Nat.reduceLT, Nat.reduceLeDiff, Nat.reduceBEq, h1, h2, hx, hy, h3]
      refine hK _ ?_
      clear hK K
      refine a_ret ⟨trivial, [.keep [2] []], ?_⟩
      simp only [go_sem, Nat.reduceAdd, Nat.reduceMul, Nat.reduceEqDiff, Nat.reduceLT, Nat.reduceLeDiff, Nat.reduceBEq, h1, h2, hx, hy, h3]
      refine ⟨_, _, rfl, rfl, rfl, ?_, rfl⟩
      simp only [go_sem, Nat.reduceAdd, Nat.reduceMul, Nat.reduceEqDiff, Nat.reduceLT, Nat.reduceLeDiff, Nat.reduceBEq, h1, h2, hx, hy, h3]
      all_goals
        rw [goodGroup_rows (by rw [← hi.2.1]; exact rowsFrom_bad hx (by simpa using h3))]
    try simp only [Bool.not_eq_true', Bool.not_eq_false', Bool.not_not, Bool.not_eq_eq_eq_not, Bool.not_true, Bool.not_false] at h3
    have h3' := h3
    try simp [inr] at h3'
    refine a_skip ?_
    refine hK5 _ ?_
    clear hK5 K5
    refine a_regP ?_
    simp only [go_sem, Nat.reduceAdd, Nat.reduceMul, Nat.reduceEqDiff, Nat.reduceLT, Nat.reduceLeDiff, Nat.reduceBEq, h1, h2, hx, hy, h3]
    refine gIf_both (fun hg7 => ?_) (fun hg7 => ?_)
    · try simp only [Bool.not_eq_true', Bool.not_eq_false', Bool.not_not, Bool.not_eq_eq_eq_not, Bool.not_true, Bool.not_false] at hg7
      have hg7' := hg7
      try simp [inr] at hg7'
      simp only [go_sem, Nat.reduceAdd, Nat.reduceMul, Nat.reduceEqDiff, Nat.reduceLT, Nat.reduceLeDiff, Nat.reduceBEq, h1, h2, hx, hy, h3, hg7]
      refine hK4 _ ?_
      clear hK4 K4
      refine a_regP ?_
      simp (disch := omega) only [go_sem, Nat.reduceAdd, Nat.reduceMul, Nat.reduceEqDiff, Nat.reduceLT, Nat.reduceLeDiff, Nat.reduceBEq, w64, chk_pos, h1, h2, hx, hy, h3, hg7]
      refine ⟨(i + 1, c || x.Kind != 1), ?_, ?_, ?_⟩   -- round E1
      · try simp (disch := omega) only [go_sem, Nat.reduceAdd, Nat.reduceMul, Nat.reduceEqDiff, Nat.reduceLT, Nat.reduceLeDiff, Nat.reduceBEq, w64, chk_pos, h1, h2, hx, hy, h3, hg7]
        try rfl
      all_goals try dsimp only
      · simp only [Bool.not_eq_false', Bool.and_eq_true, Bool.not_eq_true'] at h3
        refine ⟨by omega, by rw [← hi.2.1, rowsFrom_step hx h3.1.1 h3.1.2 h3.2], ?_⟩
        rw [← hi.2.2, any_step hx, Bool.or_assoc]
      · omega
    try simp only [Bool.not_eq_true', Bool.not_eq_false', Bool.not_not, Bool.not_eq_eq_eq_not, Bool.not_true, Bool.not_false] at hg7
    have hg7' := hg7
    try simp [inr] at hg7'
    simp only [go_sem, Nat.reduceAdd, Nat.reduceMul, Nat.reduceEqDiff, Nat.reduceLT, Nat.reduceLeDiff, Nat.reduceBEq, h1, h2, hx, hy, h3, hg7]
    refine hK4 _ ?_
    clear hK4 K4
    refine a_regP ?_
    simp (disch := omega) only [go_sem, Nat.reduceAdd, Nat.reduceMul, Nat.reduceEqDiff, Nat.reduceLT, Nat.reduceLeDiff, Nat.reduceBEq, w64, chk_pos, h1, h2, hx, hy, h3, hg7]
    refine ⟨(i + 1, c || x.Kind != 1), ?_, ?_, ?_⟩   -- round E2
    · try simp (disch := omega) only [go_sem, Nat.reduceAdd, Nat.reduceMul, Nat.reduceEqDiff, Nat.reduceLT, Nat.reduceLeDiff, Nat.reduceBEq, w64, chk_pos, h1, h2, hx, hy, h3, hg7]
      try rfl
    all_goals try dsimp only
    · simp only [Bool.not_eq_false', Bool.and_eq_true, Bool.not_eq_true'] at h3
      refine ⟨by omega, by rw [← hi.2.1, rowsFrom_step hx h3.1.1 h3.1.2 h3.2], ?_⟩
      rw [← hi.2.2, any_step hx, Bool.or_assoc]
    · omega
  try simp only [Bool.not_eq_true', Bool.not_eq_false', Bool.not_not, Bool.not_eq_eq_eq_not, Bool.not_true, Bool.not_false] at h2
  have h2' := h2
  try simp [inr] at h2'
  have hdn : g.Rows.drop i = [] := List.drop_eq_nil_iff.2 (by omega)
  have hrow : rowsFrom none g.Rows = true := by rw [← hi.2.1, hdn]; rfl
  have hany : (g.Rows.any fun r => r.Kind != 1) = c := by rw [← hi.2.2, hdn]; simp
  have hl1 := oldOf_len g
  have hl2 := newOf_len g
  refine a_exit ?_
  simp only [go_sem, Nat.reduceAdd, Nat.reduceMul, Nat.reduceEqDiff, Nat.reduceLT, Nat.reduceLeDiff, Nat.reduceBEq, h1, h2]
  clear hK3 K3
  refine hK2 _ ?_
  clear hK2 K2
  refine a_rd rfl fun K I hK hI => ?_   -- region 11
  simp only [go_sem, Nat.reduceAdd, Nat.reduceMul, Nat.reduceEqDiff, Nat.reduceLT, Nat.reduceLeDiff, Nat.reduceBEq, h1, h2]
  refine r_callD0 rfl rfl rfl rfl rfl (spec__impl_Group__old g hl) (by first | rfl | (simp only [go_sem, Nat.reduceAdd, Nat.reduceMul, Nat.reduceEqDiff, Nat.reduceLT, Nat.reduceLeDiff, Nat.reduceBEq, h1, h2]; done) | (simp only [go_sem, Nat.reduceAdd, Nat.reduceMul, Nat.reduceEqDiff, Nat.reduceLT, Nat.reduceLeDiff, Nat.reduceBEq, h1, h2]; rfl)) (by first | rfl | (simp [AV.okIds, AV.ok1]; done)) (by rfl) ?_
  simp only [go_sem, Nat.reduceAdd, Nat.reduceMul, Nat.reduceEqDiff, Nat.reduceLT, Nat.reduceLeDiff, Nat.reduceBEq, h1, h2]
  refine r_callD0 rfl rfl rfl rfl rfl (spec__impl_Group__fresh g hl) (by first | rfl | (simp only [go_sem, Nat.reduceAdd, Nat.reduceMul, Nat.reduceEqDiff, Nat.reduceLT, Nat.reduceLeDiff, Nat.reduceBEq, h1, h2]; done) | (simp only [go_sem, Nat.reduceAdd, Nat.reduceMul, Nat.reduceEqDiff, Nat.reduceLT, Nat.reduceLeDiff, Nat.reduceBEq, h1, h2]; rfl)) (by first | rfl | (simp [AV.okIds, AV.ok1]; done)) (by rfl) ?_
  simp only [go_sem, Nat.reduceAdd, Nat.reduceMul, Nat.reduceEqDiff, Nat.reduceLT, Nat.reduceLeDiff, Nat.reduceBEq, h1, h2]
  refine ⟨hI _ (by first | kernel_rfl | rfl), hK _ ?_⟩
  clear hK hI K I
  refine a_rs fun K hK => ?_   -- region 12
  simp (disch := omega) only [go_sem, Nat.reduceAdd, Nat.reduceMul, Nat.reduceEqDiff, Nat.reduceLT, Nat.reduceLeDiff, Nat.reduceBEq, w64, chk_pos, h1, h2]
  refine gIf_both (fun hg8 => ?_) (fun hg8 => ?_)
  · try simp only [Bool.not_eq_true', Bool.not_eq_false', Bool.not_not, Bool.not_eq_eq_eq_not, Bool.not_true, Bool.not_false] at hg8
    have hg8' := hg8
    try simp [inr] at hg8'
    simp (disch := omega) only [go_sem, Nat.reduceAdd, Nat.reduceMul, Nat.reduceEqDiff, Nat.reduceLT, Nat.reduceLeDiff, Nat.reduceBEq, w64, chk_pos, h1, h2, hg8]
    refine r_callT rfl rfl rfl rfl rfl (spec_impl_goodLines (oldOf g) (by have := oldOf_len g; omega) (oldOf_mem g hs)) (by first | rfl | (simp only [go_sem, Nat.reduceAdd, Nat.reduceMul, Nat.reduceEqDiff, Nat.reduceLT, Nat.reduceLeDiff, Nat.reduceBEq, h1, h2, hg8]; done) | (simp only [go_sem, Nat.reduceAdd, Nat.reduceMul, Nat.reduceEqDiff, Nat.reduceLT, Nat.reduceLeDiff, Nat.reduceBEq, h1, h2, hg8]; rfl)) (by first | rfl | (simp [AV.okIds, AV.ok1]; done)) (by rfl) ?_
    simp (disch := omega) only [go_sem, Nat.reduceAdd, Nat.reduceMul, Nat.reduceEqDiff, Nat.reduceLT, Nat.reduceLeDiff, Nat.reduceBEq, w64, chk_pos, h1, h2, hg8]
    refine gIf_both (fun hg9 => ?_) (fun hg9 => ?_)
    · try simp only [Bool.not_eq_true', Bool.not_eq_false', Bool.not_not, Bool.not_eq_eq_eq_not, Bool.not_true, Bool.not_false] at hg9
      have hg9' := hg9
      try simp [inr] at hg9'
      simp (disch := omega) only [go_sem, Nat.reduceAdd, Nat.reduceMul, Nat.reduceEqDiff, Nat.reduceLT, Nat.reduceLeDiff, Nat.reduceBEq, w64, chk_pos, h1, h2, hg8, hg9]
      refine r_callT rfl rfl rfl rfl rfl (spec_impl_goodLines (newOf g) (by have := newOf_len g; omega) (newOf_mem g hs)) (by first | rfl | (simp only [go_sem, Nat.reduceAdd, Nat.reduceMul, Nat.reduceEqDiff, Nat.reduceLT, Nat.reduceLeDiff, Nat.reduceBEq, h1, h2, hg8, hg9]; done) | (simp only [go_sem, Nat.reduceAdd, Nat.reduceMul, Nat.reduceEqDiff, Nat.reduceLT, Nat.reduceLeDiff, Nat.reduceBEq, h1, h2, hg8, hg9]; rfl)) (by first | rfl | (simp [AV.okIds, AV.ok1]; done)) (by rfl) ?_
      simp (disch := omega) only [go_sem, Nat.reduceAdd, Nat.reduceMul, Nat.reduceEqDiff, Nat.reduceLT, Nat.reduceLeDiff, Nat.reduceBEq, w64, chk_pos, h1, h2, hg8, hg9]
      refine gIf_both (fun hg10 => ?_) (fun hg10 => ?_)
      · try simp only [Bool.not_eq_true', Bool.not_eq_false', Bool.not_not, Bool.not_eq_eq_eq_not, Bool.not_true, Bool.not_false] at hg10
        have hg10' := hg10
        try simp [inr] at hg10'
        simp (disch := omega) only [go_sem, Nat.reduceAdd, Nat.reduceMul, Nat.reduceEqDiff, Nat.reduceLT, Nat.reduceLeDiff, Nat.reduceBEq, w64, chk_pos, h1, h2, hg8, hg9, hg10]
        refine gIf_both (fun hg11 => ?_) (fun hg11 => ?_)
        · try simp only [Bool.not_eq_true', Bool.not_eq_false', Bool.not_not, Bool.not_eq_eq_eq_not, Bool.not_true, Bool.not_false] at hg11
          have hg11' := hg11
          try simp [inr] at hg11'
          simp (disch := omega) only [go_sem, Nat.reduceAdd, Nat.reduceMul, Nat.reduceEqDiff, Nat.reduceLT, Nat.reduceLeDiff, Nat.reduceBEq, w64, chk_pos, h1, h2, hg8, hg9, hg10, hg11]
          refine hK _ ?_
          clear hK K
          refine a_ret ⟨trivial, [.keep [2] []], ?_⟩
          simp only [go_sem, Nat.reduceAdd, Nat.reduceMul, Nat.reduceEqDiff, Nat.reduceLT, Nat.reduceLeDiff, Nat.reduceBEq, h1, h2, hg8, hg9, hg10, hg11]
          refine ⟨_, _, rfl, rfl, rfl, ?_, rfl⟩
          simp only [go_sem, Nat.reduceAdd, Nat.reduceMul, Nat.reduceEqDiff, Nat.reduceLT, Nat.reduceLeDiff, Nat.reduceBEq, h1, h2, hg8, hg9, hg10, hg11]
          all_goals
            unfold goodGroup; rw [hrow, hany]; first | (simp_all [inr]; done) | (simp_all [inr]; omega)
        try simp only [Bool.not_eq_true', Bool.not_eq_false', Bool.not_not, Bool.not_eq_eq_eq_not, Bool.not_true, Bool.not_false] at hg11
        have hg11' := hg11
        try simp [inr] at hg11'
        simp (disch := omega) only [go_sem, Nat.reduceAdd, Nat.reduceMul, Nat.reduceEqDiff, Nat.reduceLT, Nat.reduceLeDiff, Nat.reduceBEq, w64, chk_pos, h1, h2, hg8, hg9, hg10, hg11]
        refine hK _ ?_
        clear hK K
        refine a_ret ⟨trivial, [.keep [2] []], ?_⟩
        simp only [go_sem, Nat.reduceAdd, Nat.reduceMul, Nat.reduceEqDiff, Nat.reduceLT, Nat.reduceLeDiff, Nat.reduceBEq, h1, h2, hg8, hg9, hg10, hg11]
        refine ⟨_, _, rfl, rfl, rfl, ?_, rfl⟩
        simp only [go_sem, Nat.reduceAdd, Nat.reduceMul, Nat.reduceEqDiff, Nat.reduceLT, Nat.reduceLeDiff, Nat.reduceBEq, h1, h2, hg8, hg9, hg10, hg11]
        all_goals
          unfold goodGroup; rw [hrow, hany]; first | (simp_all [inr]; done) | (simp_all [inr]; omega)
      try simp only [Bool.not_eq_true', Bool.not_eq_false', Bool.not_not, Bool.not_eq_eq_eq_not, Bool.not_true, Bool.not_false] at hg10
      have hg10' := hg10
      try simp [inr] at hg10'
      simp (disch := omega) only [go_sem, Nat.reduceAdd, Nat.reduceMul, Nat.reduceEqDiff, Nat.reduceLT, Nat.reduceLeDiff, Nat.reduceBEq, w64, chk_pos, h1, h2, hg8, hg9, hg10]
      refine hK _ ?_
      clear hK K
      refine a_ret ⟨trivial, [.keep [2] []], ?_⟩
      simp only [go_sem, Nat.reduceAdd, Nat.reduceMul, Nat.reduceEqDiff, Nat.reduceLT, Nat.reduceLeDiff, Nat.reduceBEq, h1, h2, hg8, hg9, hg10]
      refine ⟨_, _, rfl, rfl, rfl, ?_, rfl⟩
      simp only [go_sem, Nat.reduceAdd, Nat.reduceMul, Nat.reduceEqDiff, Nat.reduceLT, Nat.reduceLeDiff, Nat.reduceBEq, h1, h2, hg8, hg9, hg10]
      all_goals
        unfold goodGroup; rw [hrow, hany]; first | (simp_all [inr]; done) | (simp_all [inr]; omega)
    try simp only [Bool.not_eq_true', Bool.not_eq_false', Bool.not_not, Bool.not_eq_eq_eq_not, Bool.not_true, Bool.not_false] at hg9
    have hg9' := hg9
    try simp [inr] at hg9'
    simp (disch := omega) only [go_sem, Nat.reduceAdd, Nat.reduceMul, Nat.reduceEqDiff, Nat.reduceLT, Nat.reduceLeDiff, Nat.reduceBEq, w64, chk_pos, h1, h2, hg8, hg9]
    refine hK _ ?_
    clear hK K
    refine a_ret ⟨trivial, [.keep [2] []], ?_⟩
    simp only [go_sem, Nat.reduceAdd, Nat.reduceMul, Nat.reduceEqDiff, Nat.reduceLT, Nat.reduceLeDiff, Nat.reduceBEq, h1, h2, hg8, hg9]
    refine ⟨_, _, rfl, rfl, rfl, ?_, rfl⟩
    simp only [go_sem, Nat.reduceAdd, Nat.reduceMul, Nat.reduceEqDiff, Nat.reduceLT, Nat.reduceLeDiff, Nat.reduceBEq, h1, h2, hg8, hg9]
    all_goals
      unfold goodGroup; rw [hrow, hany]; first | (simp_all [inr]; done) | (simp_all [inr]; omega)
  try simp only [Bool.not_eq_true', Bool.not_eq_false', Bool.not_not, Bool.not_eq_eq_eq_not, Bool.not_true, Bool.not_false] at hg8
  have hg8' := hg8
  try simp [inr] at hg8'
  simp (disch := omega) only [go_sem, Nat.reduceAdd, Nat.reduceMul, Nat.reduceEqDiff, Nat.reduceLT, Nat.reduceLeDiff, Nat.reduceBEq, w64, chk_pos, h1, h2, hg8]
  refine hK _ ?_
  clear hK K
  refine a_ret ⟨trivial, [.keep [2] []], ?_⟩
  simp only [go_sem, Nat.reduceAdd, Nat.reduceMul, Nat.reduceEqDiff, Nat.reduceLT, Nat.reduceLeDiff, Nat.reduceBEq, h1, h2, hg8]
  refine ⟨_, _, rfl, rfl, rfl, ?_, rfl⟩
  simp only [go_sem, Nat.reduceAdd, Nat.reduceMul, Nat.reduceEqDiff, Nat.reduceLT, Nat.reduceLeDiff, Nat.reduceBEq, h1, h2, hg8]
  all_goals
    unfold goodGroup; rw [hrow, hany]; first | (simp_all [inr]; done) | (simp_all [inr]; omega)

theorem nm_spec_l6Group : (Tryd.f54.name == "runtime.NumGoroutine") = false := by kernel_rfl
theorem spec_spec_l6Group (g : Group) (hl : g.Rows.length ≤ 1099511627776) (hs : ∀ r ∈ g.Rows, r.Line.length ≤ 1099511627776) :
    Spec Tryd.prog 54 [.sh (dGroup tS g)] [] (.sh (.bool (goodGroup g))) [] := by
  refine spec_of_awp hm (tkT [4000]) Tryd.func54 rfl nm_spec_l6Group ?_
  rw [Tryd.ntmps54, Sp_start (by simp)]
  simp only [go_sem, Nat.reduceAdd, Nat.reduceMul, Nat.reduceEqDiff, Nat.reduceLT, Nat.reduceLeDiff, Nat.reduceBEq]
  refine a_rs fun K hK => ?_   -- region 0
  simp (disch := omega) only [go_sem, Nat.reduceAdd, Nat.reduceMul, Nat.reduceEqDiff, Nat.reduceLT, Nat.reduceLeDiff, Nat.reduceBEq, w64, chk_pos]
  refine hK _ ?_
  clear hK K
  refine a_rs fun K hK => ?_   -- region 1
  simp only [go_sem, Nat.reduceAdd, Nat.reduceMul, Nat.reduceEqDiff, Nat.reduceLT, Nat.reduceLeDiff, Nat.reduceBEq]
  refine hK _ ?_
  clear hK K
  refine a_seqK fun K1 hK1 => ?_
  refine a_rs fun K hK => ?_   -- region 2
  simp (disch := omega) only [go_sem, Nat.reduceAdd, Nat.reduceMul, Nat.reduceEqDiff, Nat.reduceLT, Nat.reduceLeDiff, Nat.reduceBEq, w64, chk_pos]
  refine hK _ ?_
  clear hK K
  refine a_block ?_   -- block 0
  refine a_loopU (ι := Nat × Bool) [1, 7, 8] [1] (fun (i, c) => [(3, .sh (.bool c)), (9, .sh (.int .i64 i))]) (fun (i, c) => [(1, [dGroup tS g])]) (fun (i, c) => i ≤ g.Rows.length ∧ rowsFrom (prevKind g.Rows i) (g.Rows.drop i) = rowsFrom none g.Rows ∧ (c || (g.Rows.drop i).any fun r => r.Kind != 1) = g.Rows.any fun r => r.Kind != 1) (fun (i, c) => g.Rows.length - i) (0, false) ?_ ?_ ?_
  · try simp (disch := omega) only [go_sem, Nat.reduceAdd, Nat.reduceMul, Nat.reduceEqDiff, Nat.reduceLT, Nat.reduceLeDiff, Nat.reduceBEq, w64, chk_pos]
    try rfl
  · exact ⟨by omega, rfl, by simp⟩
  rintro ⟨i, c⟩ hi
  simp only [] at hi
  simp only [go_sem, Nat.reduceAdd, Nat.reduceMul, Nat.reduceEqDiff, Nat.reduceLT, Nat.reduceLeDiff, Nat.reduceBEq]
  refine a_rs fun K hK => ?_   -- region 3
  simp only [go_sem, Nat.reduceAdd, Nat.reduceMul, Nat.reduceEqDiff, Nat.reduceLT, Nat.reduceLeDiff, Nat.reduceBEq]
  refine hK _ ?_
  clear hK K
  refine a_seqK fun K2 hK2 => ?_
  refine a_cond rfl (fun h1 => ?_) (fun h1 => ?_)   -- if t10
  · try simp only [Bool.not_eq_true', Bool.not_eq_false', Bool.not_not, Bool.not_eq_eq_eq_not, Bool.not_true, Bool.not_false] at h1
    have h1' := h1
    try simp [inr] at h1'
    obtain ⟨x, hx⟩ : ∃ x, g.Rows[i]? = some x := ⟨_, List.getElem?_eq_getElem h1'⟩
    have hxs := hs x (List.mem_of_getElem? hx)
    obtain ⟨y, hy⟩ : ∃ y, g.Rows[i - 1]? = some y := ⟨_, List.getElem?_eq_getElem (by omega)⟩
    have hp := prevKind_if hy
    refine a_skip ?_
    refine hK2 _ ?_
    clear hK2 K2
    refine a_seqK fun K3 hK3 => ?_
    refine a_block ?_   -- block 1
    refine a_rs fun K hK => ?_   -- region 4
    simp (disch := omega) only [go_sem, Nat.reduceAdd, Nat.reduceMul, Nat.reduceEqDiff, Nat.reduceLT, Nat.reduceLeDiff, Nat.reduceBEq, w64, chk_pos, h1, hx, hy]
    refine hK _ ?_
    clear hK K
    refine a_seqK fun K4 hK4 => ?_
    refine a_rsm [1, 3, 5, 7, 8, 9] [1, 5] [(42, .sh (.bool (!(inr x.Kind 1 3 && isLine x.Line && !(prevKind g.Rows i == some 3 && x.Kind == 2)))))] ?_ ?_   -- region 5
    · simp (disch := omega) only [go_sem, Nat.reduceAdd, Nat.reduceMul, Nat.reduceEqDiff, Nat.reduceLT, Nat.reduceLeDiff, Nat.reduceBEq, w64, chk_pos, h1, hx, hy]
      refine r_callT rfl rfl rfl rfl rfl (spec_spec_l1In _ _ _) (by first | rfl | (simp only [go_sem, Nat.reduceAdd, Nat.reduceMul, Nat.reduceEqDiff, Nat.reduceLT, Nat.reduceLeDiff, Nat.reduceBEq, h1, hx, hy]; done) | (simp only [go_sem, Nat.reduceAdd, Nat.reduceMul, Nat.reduceEqDiff, Nat.reduceLT, Nat.reduceLeDiff, Nat.reduceBEq, h1, hx, hy]; rfl)) (by first | rfl | (simp [AV.okIds, AV.ok1]; done)) (by rfl) ?_
      simp (disch := omega) only [go_sem, Nat.reduceAdd, Nat.reduceMul, Nat.reduceEqDiff, Nat.reduceLT, Nat.reduceLeDiff, Nat.reduceBEq, w64, chk_pos, h1, hx, hy]
      refine gIf_both (fun hg1 => ?_) (fun hg1 => ?_)
      · try simp only [Bool.not_eq_true', Bool.not_eq_false', Bool.not_not, Bool.not_eq_eq_eq_not, Bool.not_true, Bool.not_false] at hg1
        have hg1' := hg1
        try simp [inr] at hg1'
        simp (disch := omega) only [go_sem, Nat.reduceAdd, Nat.reduceMul, Nat.reduceEqDiff, Nat.reduceLT, Nat.reduceLeDiff, Nat.reduceBEq, w64, chk_pos, h1, hx, hy, hg1]
        refine r_callT rfl rfl rfl rfl rfl (spec_spec_l1Line x.Line hxs) (by first | rfl | (simp only [go_sem, Nat.reduceAdd, Nat.reduceMul, Nat.reduceEqDiff, Nat.reduceLT, Nat.reduceLeDiff, Nat.reduceBEq, h1, hx, hy, hg1]; done) | (simp only [go_sem, Nat.reduceAdd, Nat.reduceMul, Nat.reduceEqDiff, Nat.reduceLT, Nat.reduceLeDiff, Nat.reduceBEq, h1, hx, hy, hg1]; rfl)) (by first | rfl | (simp [AV.okIds, AV.ok1]; done)) (by rfl) ?_
        simp (disch := omega) only [go_sem, Nat.reduceAdd, Nat.reduceMul, Nat.reduceEqDiff, Nat.reduceLT, Nat.reduceLeDiff, Nat.reduceBEq, w64, chk_pos, h1, hx, hy, hg1]
        refine gIf_both (fun hg2 => ?_) (fun hg2 => ?_)
        · try simp only [Bool.not_eq_true', Bool.not_eq_false', Bool.not_not, Bool.not_eq_eq_eq_not, Bool.not_true, Bool.not_false] at hg2
          have hg2' := hg2
          try simp [inr] at hg2'
          simp (disch := omega) only [go_sem, Nat.reduceAdd, Nat.reduceMul, Nat.reduceEqDiff, Nat.reduceLT, Nat.reduceLeDiff, Nat.reduceBEq, w64, chk_pos, h1, hx, hy, hg1, hg2]
          refine gIf_both (fun hg3 => ?_) (fun hg3 => ?_)
          · try simp only [Bool.not_eq_true', Bool.not_eq_false', Bool.not_not, Bool.not_eq_eq_eq_not, Bool.not_true, Bool.not_false] at hg3
            have hg3' := hg3
            try simp [inr] at hg3'
            simp (disch := omega) only [go_sem, Nat.reduceAdd, Nat.reduceMul, Nat.reduceEqDiff, Nat.reduceLT, Nat.reduceLeDiff, Nat.reduceBEq, w64, chk_pos, h1, hx, hy, hg1, hg2, hg3]
            refine gIf_both (fun hg4 => ?_) (fun hg4 => ?_)
            · try simp only [Bool.not_eq_true', Bool.not_eq_false', Bool.not_not, Bool.not_eq_eq_eq_not, Bool.not_true, Bool.not_false] at hg4
              have hg4' := hg4
              try simp [inr] at hg4'
              simp (disch := omega) only [go_sem, Nat.reduceAdd, Nat.reduceMul, Nat.reduceEqDiff, Nat.reduceLT, Nat.reduceLeDiff, Nat.reduceBEq, w64, chk_pos, h1, hx, hy, hg1, hg2, hg3, hg4]
              all_goals (first | rfl | ((first | refine sp_hd ?_ | refine sp_hd' ?_) <;> first | rfl | (simp; done) | (simp []; omega) | (simp_all []; done) | (simp_all []; omega)))
            try simp only [Bool.not_eq_true', Bool.not_eq_false', Bool.not_not, Bool.not_eq_eq_eq_not, Bool.not_true, Bool.not_false] at hg4
            have hg4' := hg4
            try simp [inr] at hg4'
            simp (disch := omega) only [go_sem, Nat.reduceAdd, Nat.reduceMul, Nat.reduceEqDiff, Nat.reduceLT, Nat.reduceLeDiff, Nat.reduceBEq, w64, chk_pos, h1, hx, hy, hg1, hg2, hg3, hg4]
            all_goals (first | rfl | ((first | refine sp_hd ?_ | refine sp_hd' ?_) <;> first | rfl | (simp; done) | (simp []; omega) | (simp_all []; done) | (simp_all []; omega)))
          try simp only [Bool.not_eq_true', Bool.not_eq_false', Bool.not_not, Bool.not_eq_eq_eq_not, Bool.not_true, Bool.not_false] at hg3
          have hg3' := hg3
          try simp [inr] at hg3'
          simp (disch := omega) only [go_sem, Nat.reduceAdd, Nat.reduceMul, Nat.reduceEqDiff, Nat.reduceLT, Nat.reduceLeDiff, Nat.reduceBEq, w64, chk_pos, h1, hx, hy, hg1, hg2, hg3]
          all_goals (first | rfl | ((first | refine sp_hd ?_ | refine sp_hd' ?_) <;> first | rfl | (simp; done) | (simp []; omega) | (simp_all []; done) | (simp_all []; omega)))
        try simp only [Bool.not_eq_true', Bool.not_eq_false', Bool.not_not, Bool.not_eq_eq_eq_not, Bool.not_true, Bool.not_false] at hg2
        have hg2' := hg2
        try simp [inr] at hg2'
        simp (disch := omega) only [go_sem, Nat.reduceAdd, Nat.reduceMul, Nat.reduceEqDiff, Nat.reduceLT, Nat.reduceLeDiff, Nat.reduceBEq, w64, chk_pos, h1, hx, hy, hg1, hg2]
        all_goals (first | rfl | ((first | refine sp_hd ?_ | refine sp_hd' ?_) <;> first | rfl | (simp; done) | (simp []; omega) | (simp_all []; done) | (simp_all []; omega)))
      try simp only [Bool.not_eq_true', Bool.not_eq_false', Bool.not_not, Bool.not_eq_eq_eq_not, Bool.not_true, Bool.not_false] at hg1
      have hg1' := hg1
      try simp [inr] at hg1'
      simp (disch := omega) only [go_sem, Nat.reduceAdd, Nat.reduceMul, Nat.reduceEqDiff, Nat.reduceLT, Nat.reduceLeDiff, Nat.reduceBEq, w64, chk_pos, h1, hx, hy, hg1]
      all_goals (first | rfl | ((first | refine sp_hd ?_ | refine sp_hd' ?_) <;> first | rfl | (simp; done) | (simp []; omega) | (simp_all []; done) | (simp_all []; omega)))
    simp only [go_sem, Nat.reduceAdd, Nat.reduceMul, Nat.reduceEqDiff, Nat.reduceLT, Nat.reduceLeDiff, Nat.reduceBEq, h1, hx, hy]
    refine a_cond rfl (fun h2 => ?_) (fun h2 => ?_)   -- if t42
    · try simp only [Bool.not_eq_true', Bool.not_eq_false', Bool.not_not, Bool.not_eq_eq_eq_not, Bool.not_true, Bool.not_false] at h2
      have h2' := h2
      try simp [inr] at h2'
      refine a_rs fun K hK => ?_   -- region 6
      simp only [go_sem, Nat.reduceAdd, Nat.reduceMul, Nat.reduceEqDiff, Nat.reduceLT, Nat.reduceLeDiff, Nat.reduceBEq, h1, hx, hy, h2]
      refine hK _ ?_
      clear hK K
      refine a_ret ⟨trivial, [.keep [2] []], ?_⟩
      simp only [go_sem, Nat.reduceAdd, Nat.reduceMul, Nat.reduceEqDiff, Nat.reduceLT, Nat.reduceLeDiff, Nat.reduceBEq, h1, hx, hy, h2]
      refine ⟨_, _, rfl, rfl, rfl, ?_, rfl⟩
      simp only [go_sem, Nat.reduceAdd, Nat.reduceMul, Nat.reduceEqDiff, Nat.reduceLT, Nat.reduceLeDiff, Nat.reduceBEq, h1, hx, hy, h2]
      all_goals
        rw [goodGroup_rows (by rw [← hi.2.1]; exact rowsFrom_bad hx (by simpa using h2))]
    try simp only [Bool.not_eq_true', Bool.not_eq_false', Bool.not_not, Bool.not_eq_eq_eq_not, Bool.not_true, Bool.not_false] at h2
    have h2' := h2
    try simp [inr] at h2'
    refine a_skip ?_
    refine hK4 _ ?_
    clear hK4 K4
    refine a_regP ?_
    simp only [go_sem, Nat.reduceAdd, Nat.reduceMul, Nat.reduceEqDiff, Nat.reduceLT, Nat.reduceLeDiff, Nat.reduceBEq, h1, hx, hy, h2]
    refine gIf_both (fun hg5 => ?_) (fun hg5 => ?_)
    · try simp only [Bool.not_eq_true', Bool.not_eq_false', Bool.not_not, Bool.not_eq_eq_eq_not, Bool.not_true, Bool.not_false] at hg5
      have hg5' := hg5
      try simp [inr] at hg5'
      simp only [go_sem, Nat.reduceAdd, Nat.reduceMul, Nat.reduceEqDiff, Nat.reduceLT, Nat.reduceLeDiff, Nat.reduceBEq, h1, hx, hy, h2, hg5]
      refine hK3 _ ?_
      clear hK3 K3
      refine a_regP ?_
      simp (disch := omega) only [go_sem, Nat.reduceAdd, Nat.reduceMul, Nat.reduceEqDiff, Nat.reduceLT, Nat.reduceLeDiff, Nat.reduceBEq, w64, chk_pos, h1, hx, hy, h2, hg5]
      refine ⟨(i + 1, c || x.Kind != 1), ?_, ?_, ?_⟩   -- round E1
      · try simp (disch := omega) only [go_sem, Nat.reduceAdd, Nat.reduceMul, Nat.reduceEqDiff, Nat.reduceLT, Nat.reduceLeDiff, Nat.reduceBEq, w64, chk_pos, h1, hx, hy, h2, hg5]
        try rfl
      all_goals try dsimp only
      · simp only [Bool.not_eq_false', Bool.and_eq_true, Bool.not_eq_true'] at h2
        refine ⟨by omega, by rw [← hi.2.1, rowsFrom_step hx h2.1.1 h2.1.2 h2.2], ?_⟩
        rw [← hi.2.2, any_step hx, Bool.or_assoc]
      · omega
    try simp only [Bool.not_eq_true', Bool.not_eq_false', Bool.not_not, Bool.not_eq_eq_eq_not, Bool.not_true, Bool.not_false] at hg5
    have hg5' := hg5
    try simp [inr] at hg5'
    simp only [go_sem, Nat.reduceAdd, Nat.reduceMul, Nat.reduceEqDiff, Nat.reduceLT, Nat.reduceLeDiff, Nat.reduceBEq, h1, hx, hy, h2, hg5]
    refine hK3 _ ?_
    clear hK3 K3
    refine a_regP ?_
    simp (disch := omega) only [go_sem, Nat.reduceAdd, Nat.reduceMul, Nat.reduceEqDiff, Nat.reduceLT, Nat.reduceLeDiff, Nat.reduceBEq, w64, chk_pos, h1, hx, hy, h2, hg5]
    refine ⟨(i + 1, c || x.Kind != 1), ?_, ?_, ?_⟩   -- round E2
    · try simp (disch := omega) only [go_sem, Nat.reduceAdd, Nat.reduceMul, Nat.reduceEqDiff, Nat.reduceLT, Nat.reduceLeDiff, Nat.reduceBEq, w64, chk_pos, h1, hx, hy, h2, hg5]
      try rfl
    all_goals try dsimp only
    · simp only [Bool.not_eq_false', Bool.and_eq_true, Bool.not_eq_true'] at h2
      refine ⟨by omega, by rw [← hi.2.1, rowsFrom_step hx h2.1.1 h2.1.2 h2.2], ?_⟩
      rw [← hi.2.2, any_step hx, Bool.or_assoc]
    · omega
  try simp only [Bool.not_eq_true', Bool.not_eq_false', Bool.not_not, Bool.not_eq_eq_eq_not, Bool.not_true, Bool.not_false] at h1
  have h1' := h1
  try simp [inr] at h1'
  have hdn : g.Rows.drop i = [] := List.drop_eq_nil_iff.2 (by omega)
  have hrow : rowsFrom none g.Rows = true := by rw [← hi.2.1, hdn]; rfl
  have hany : (g.Rows.any fun r => r.Kind != 1) = c := by rw [← hi.2.2, hdn]; simp
  have hl1 := oldOf_len g
  have hl2 := newOf_len g
  have hlen : c = true → 1 ≤ (g.Rows.length : Int) := by
    intro h
    rw [h] at hany
    obtain ⟨x, hx, _⟩ := List.any_eq_true.1 hany
    have := List.length_pos_of_mem hx
    omega
  refine a_exit ?_
  simp only [go_sem, Nat.reduceAdd, Nat.reduceMul, Nat.reduceEqDiff, Nat.reduceLT, Nat.reduceLeDiff, Nat.reduceBEq, h1]
  clear hK2 K2
  refine hK1 _ ?_
  clear hK1 K1
  refine a_rd rfl fun K I hK hI => ?_   -- region 9
  simp (disch := omega) only [go_sem, Nat.reduceAdd, Nat.reduceMul, Nat.reduceEqDiff, Nat.reduceLT, Nat.reduceLeDiff, Nat.reduceBEq, w64, chk_pos, h1]
  refine gIf_both (fun hg6 => ?_) (fun hg6 => ?_)
  · try simp only [Bool.not_eq_true', Bool.not_eq_false', Bool.not_not, Bool.not_eq_eq_eq_not, Bool.not_true, Bool.not_false] at hg6
    have hg6' := hg6
    try simp [inr] at hg6'
    simp (disch := omega) only [go_sem, Nat.reduceAdd, Nat.reduceMul, Nat.reduceEqDiff, Nat.reduceLT, Nat.reduceLeDiff, Nat.reduceBEq, w64, chk_pos, h1, hg6]
    refine r_callD0 rfl rfl rfl rfl rfl (spec_spec_l1In _ _ _) (by first | rfl | (simp only [go_sem, Nat.reduceAdd, Nat.reduceMul, Nat.reduceEqDiff, Nat.reduceLT, Nat.reduceLeDiff, Nat.reduceBEq, h1, hg6]; done) | (simp only [go_sem, Nat.reduceAdd, Nat.reduceMul, Nat.reduceEqDiff, Nat.reduceLT, Nat.reduceLeDiff, Nat.reduceBEq, h1, hg6]; rfl)) (by first | rfl | (simp [AV.okIds, AV.ok1]; done)) (by rfl) ?_
    simp (disch := omega) only [go_sem, Nat.reduceAdd, Nat.reduceMul, Nat.reduceEqDiff, Nat.reduceLT, Nat.reduceLeDiff, Nat.reduceBEq, w64, chk_pos, h1, hg6]
    refine gIf_both (fun hg7 => ?_) (fun hg7 => ?_)
    · try simp only [Bool.not_eq_true', Bool.not_eq_false', Bool.not_not, Bool.not_eq_eq_eq_not, Bool.not_true, Bool.not_false] at hg7
      have hg7' := hg7
      try simp [inr] at hg7'
      simp (disch := omega) only [go_sem, Nat.reduceAdd, Nat.reduceMul, Nat.reduceEqDiff, Nat.reduceLT, Nat.reduceLeDiff, Nat.reduceBEq, w64, chk_pos, h1, hg6, hg7]
      refine r_callD0 rfl rfl rfl rfl rfl (spec_spec_l1In _ _ _) (by first | rfl | (simp only [go_sem, Nat.reduceAdd, Nat.reduceMul, Nat.reduceEqDiff, Nat.reduceLT, Nat.reduceLeDiff, Nat.reduceBEq, h1, hg6, hg7]; done) | (simp only [go_sem, Nat.reduceAdd, Nat.reduceMul, Nat.reduceEqDiff, Nat.reduceLT, Nat.reduceLeDiff, Nat.reduceBEq, h1, hg6, hg7]; rfl)) (by first | rfl | (simp [AV.okIds, AV.ok1]; done)) (by rfl) ?_
      simp (disch := omega) only [go_sem, Nat.reduceAdd, Nat.reduceMul, Nat.reduceEqDiff, Nat.reduceLT, Nat.reduceLeDiff, Nat.reduceBEq, w64, chk_pos, h1, hg6, hg7]
      refine gIf_both (fun hg8 => ?_) (fun hg8 => ?_)
      · try simp only [Bool.not_eq_true', Bool.not_eq_false', Bool.not_not, Bool.not_eq_eq_eq_not, Bool.not_true, Bool.not_false] at hg8
        have hg8' := hg8
        try simp [inr] at hg8'
        simp (disch := omega) only [go_sem, Nat.reduceAdd, Nat.reduceMul, Nat.reduceEqDiff, Nat.reduceLT, Nat.reduceLeDiff, Nat.reduceBEq, w64, chk_pos, h1, hg6, hg7, hg8]
        refine r_callD0 rfl rfl rfl rfl rfl (spec_spec_l6Old g hl) (by first | rfl | (simp only [go_sem, Nat.reduceAdd, Nat.reduceMul, Nat.reduceEqDiff, Nat.reduceLT, Nat.reduceLeDiff, Nat.reduceBEq, h1, hg6, hg7, hg8]; done) | (simp only [go_sem, Nat.reduceAdd, Nat.reduceMul, Nat.reduceEqDiff, Nat.reduceLT, Nat.reduceLeDiff, Nat.reduceBEq, h1, hg6, hg7, hg8]; rfl)) (by first | rfl | (simp [AV.okIds, AV.ok1]; done)) (by rfl) ?_
        simp (disch := omega) only [go_sem, Nat.reduceAdd, Nat.reduceMul, Nat.reduceEqDiff, Nat.reduceLT, Nat.reduceLeDiff, Nat.reduceBEq, w64, chk_pos, h1, hg6, hg7, hg8]
        refine gIf_both (fun hg9 => ?_) (fun hg9 => ?_)
        · try simp only [Bool.not_eq_true', Bool.not_eq_false', Bool.not_not, Bool.not_eq_eq_eq_not, Bool.not_true, Bool.not_false] at hg9
          have hg9' := hg9
          try simp [inr] at hg9'
          simp (disch := omega) only [go_sem, Nat.reduceAdd, Nat.reduceMul, Nat.reduceEqDiff, Nat.reduceLT, Nat.reduceLeDiff, Nat.reduceBEq, w64, chk_pos, h1, hg6, hg7, hg8, hg9]
          refine r_callD0 rfl rfl rfl rfl rfl (spec_spec_l6New g hl) (by first | rfl | (simp only [go_sem, Nat.reduceAdd, Nat.reduceMul, Nat.reduceEqDiff, Nat.reduceLT, Nat.reduceLeDiff, Nat.reduceBEq, h1, hg6, hg7, hg8, hg9]; done) | (simp only [go_sem, Nat.reduceAdd, Nat.reduceMul, Nat.reduceEqDiff, Nat.reduceLT, Nat.reduceLeDiff, Nat.reduceBEq, h1, hg6, hg7, hg8, hg9]; rfl)) (by first | rfl | (simp [AV.okIds, AV.ok1]; done)) (by rfl) ?_
          simp (disch := omega) only [go_sem, Nat.reduceAdd, Nat.reduceMul, Nat.reduceEqDiff, Nat.reduceLT, Nat.reduceLeDiff, Nat.reduceBEq, w64, chk_pos, h1, hg6, hg7, hg8, hg9]
          refine gIf_both (fun hg10 => ?_) (fun hg10 => ?_)
          · try simp only [Bool.not_eq_true', Bool.not_eq_false', Bool.not_not, Bool.not_eq_eq_eq_not, Bool.not_true, Bool.not_false] at hg10
            have hg10' := hg10
            try simp [inr] at hg10'
            simp (disch := omega) only [go_sem, Nat.reduceAdd, Nat.reduceMul, Nat.reduceEqDiff, Nat.reduceLT, Nat.reduceLeDiff, Nat.reduceBEq, w64, chk_pos, h1, hg6, hg7, hg8, hg9, hg10]
            refine gIf_both (fun hg11 => ?_) (fun hg11 => ?_)
            · try simp only [Bool.not_eq_true', Bool.not_eq_false', Bool.not_not, Bool.not_eq_eq_eq_not, Bool.not_true, Bool.not_false] at hg11
              have hg11' := hg11
              try simp [inr] at hg11'
              simp only [go_sem, Nat.reduceAdd, Nat.reduceMul, Nat.reduceEqDiff, Nat.reduceLT, Nat.reduceLeDiff, Nat.reduceBEq, h1, hg6, hg7, hg8, hg9, hg10, hg11]
              refine r_callD0 rfl rfl rfl rfl rfl (spec_spec_l6Old g hl) (by first | rfl | (simp only [go_sem, Nat.reduceAdd, Nat.reduceMul, Nat.reduceEqDiff, Nat.reduceLT, Nat.reduceLeDiff, Nat.reduceBEq, h1, hg6, hg7, hg8, hg9, hg10, hg11]; done) | (simp only [go_sem, Nat.reduceAdd, Nat.reduceMul, Nat.reduceEqDiff, Nat.reduceLT, Nat.reduceLeDiff, Nat.reduceBEq, h1, hg6, hg7, hg8, hg9, hg10, hg11]; rfl)) (by first | rfl | (simp [AV.okIds, AV.ok1]; done)) (by rfl) ?_
              simp only [go_sem, Nat.reduceAdd, Nat.reduceMul, Nat.reduceEqDiff, Nat.reduceLT, Nat.reduceLeDiff, Nat.reduceBEq, h1, hg6, hg7, hg8, hg9, hg10, hg11]
              refine r_callD0 rfl rfl rfl rfl rfl (spec_spec_l5Lines (oldOf g) (by have := oldOf_len g; omega) (oldOf_mem g hs)) (by first | rfl | (simp only [go_sem, Nat.reduceAdd, Nat.reduceMul, Nat.reduceEqDiff, Nat.reduceLT, Nat.reduceLeDiff, Nat.reduceBEq, h1, hg6, hg7, hg8, hg9, hg10, hg11]; done) | (simp only [go_sem, Nat.reduceAdd, Nat.reduceMul, Nat.reduceEqDiff, Nat.reduceLT, Nat.reduceLeDiff, Nat.reduceBEq, h1, hg6, hg7, hg8, hg9, hg10, hg11]; rfl)) (by first | rfl | (simp [AV.okIds, AV.ok1]; done)) (by rfl) ?_
              simp only [go_sem, Nat.reduceAdd, Nat.reduceMul, Nat.reduceEqDiff, Nat.reduceLT, Nat.reduceLeDiff, Nat.reduceBEq, h1, hg6, hg7, hg8, hg9, hg10, hg11]
              refine gIf_both (fun hg12 => ?_) (fun hg12 => ?_)
              · try simp only [Bool.not_eq_true', Bool.not_eq_false', Bool.not_not, Bool.not_eq_eq_eq_not, Bool.not_true, Bool.not_false] at hg12
                have hg12' := hg12
                try simp [inr] at hg12'
                simp only [go_sem, Nat.reduceAdd, Nat.reduceMul, Nat.reduceEqDiff, Nat.reduceLT, Nat.reduceLeDiff, Nat.reduceBEq, h1, hg6, hg7, hg8, hg9, hg10, hg11, hg12]
                refine r_callD0 rfl rfl rfl rfl rfl (spec_spec_l6New g hl) (by first | rfl | (simp only [go_sem, Nat.reduceAdd, Nat.reduceMul, Nat.reduceEqDiff, Nat.reduceLT, Nat.reduceLeDiff, Nat.reduceBEq, h1, hg6, hg7, hg8, hg9, hg10, hg11, hg12]; done) | (simp only [go_sem, Nat.reduceAdd, Nat.reduceMul, Nat.reduceEqDiff, Nat.reduceLT, Nat.reduceLeDiff, Nat.reduceBEq, h1, hg6, hg7, hg8, hg9, hg10, hg11, hg12]; rfl)) (by first | rfl | (simp [AV.okIds, AV.ok1]; done)) (by rfl) ?_
                simp only [go_sem, Nat.reduceAdd, Nat.reduceMul, Nat.reduceEqDiff, Nat.reduceLT, Nat.reduceLeDiff, Nat.reduceBEq, h1, hg6, hg7, hg8, hg9, hg10, hg11, hg12]
                refine r_callD0 rfl rfl rfl rfl rfl (spec_spec_l5Lines (newOf g) (by have := newOf_len g; omega) (newOf_mem g hs)) (by first | rfl | (simp only [go_sem, Nat.reduceAdd, Nat.reduceMul, Nat.reduceEqDiff, Nat.reduceLT, Nat.reduceLeDiff, Nat.reduceBEq, h1, hg6, hg7, hg8, hg9, hg10, hg11, hg12]; done) | (simp only [go_sem, Nat.reduceAdd, Nat.reduceMul, Nat.reduceEqDiff, Nat.reduceLT, Nat.reduceLeDiff, Nat.reduceBEq, h1, hg6, hg7, hg8, hg9, hg10, hg11, hg12]; rfl)) (by first | rfl | (simp [AV.okIds, AV.ok1]; done)) (by rfl) ?_
                simp only [go_sem, Nat.reduceAdd, Nat.reduceMul, Nat.reduceEqDiff, Nat.reduceLT, Nat.reduceLeDiff, Nat.reduceBEq, h1, hg6, hg7, hg8, hg9, hg10, hg11, hg12]
                refine ⟨hI _ (by first | kernel_rfl | rfl), hK _ ?_⟩
                clear hK hI K I
                refine a_ret ⟨trivial, [.keep [2] []], ?_⟩
                simp only [go_sem, Nat.reduceAdd, Nat.reduceMul, Nat.reduceEqDiff, Nat.reduceLT, Nat.reduceLeDiff, Nat.reduceBEq, h1, hg6, hg7, hg8, hg9, hg10, hg11, hg12]
                refine ⟨_, _, rfl, rfl, rfl, ?_, rfl⟩
                simp only [go_sem, Nat.reduceAdd, Nat.reduceMul, Nat.reduceEqDiff, Nat.reduceLT, Nat.reduceLeDiff, Nat.reduceBEq, h1, hg6, hg7, hg8, hg9, hg10, hg11, hg12]
                all_goals
                  unfold goodGroup; rw [hrow, hany]; first | (simp_all [inr]; done) | (simp_all [inr]; omega)
              try simp only [Bool.not_eq_true', Bool.not_eq_false', Bool.not_not, Bool.not_eq_eq_eq_not, Bool.not_true, Bool.not_false] at hg12
              have hg12' := hg12
              try simp [inr] at hg12'
              simp only [go_sem, Nat.reduceAdd, Nat.reduceMul, Nat.reduceEqDiff, Nat.reduceLT, Nat.reduceLeDiff, Nat.reduceBEq, h1, hg6, hg7, hg8, hg9, hg10, hg11, hg12]
              refine ⟨hI _ (by first | kernel_rfl | rfl), hK _ ?_⟩
              clear hK hI K I
              refine a_ret ⟨trivial, [.keep [2] []], ?_⟩
              simp only [go_sem, Nat.reduceAdd, Nat.reduceMul, Nat.reduceEqDiff, Nat.reduceLT, Nat.reduceLeDiff, Nat.reduceBEq, h1, hg6, hg7, hg8, hg9, hg10, hg11, hg12]
              refine ⟨_, _, rfl, rfl, rfl, ?_, rfl⟩
              simp only [go_sem, Nat.reduceAdd, Nat.reduceMul, Nat.reduceEqDiff, Nat.reduceLT, Nat.reduceLeDiff, Nat.reduceBEq, h1, hg6, hg7, hg8, hg9, hg10, hg11, hg12]
              all_goals
                unfold goodGroup; rw [hrow, hany]; first | (simp_all [inr]; done) | (simp_all [inr]; omega)
            try simp only [Bool.not_eq_true', Bool.not_eq_false', Bool.not_not, Bool.not_eq_eq_eq_not, Bool.not_true, Bool.not_false] at hg11
            have hg11' := hg11
            try simp [inr] at hg11'
            simp only [go_sem, Nat.reduceAdd, Nat.reduceMul, Nat.reduceEqDiff, Nat.reduceLT, Nat.reduceLeDiff, Nat.reduceBEq, h1, hg6, hg7, hg8, hg9, hg10, hg11]
            refine ⟨hI _ (by first | kernel_rfl | rfl), hK _ ?_⟩
            clear hK hI K I
            refine a_ret ⟨trivial, [.keep [2] []], ?_⟩
            simp only [go_sem, Nat.reduceAdd, Nat.reduceMul, Nat.reduceEqDiff, Nat.reduceLT, Nat.reduceLeDiff, Nat.reduceBEq, h1, hg6, hg7, hg8, hg9, hg10, hg11]
            refine ⟨_, _, rfl, rfl, rfl, ?_, rfl⟩
            simp only [go_sem, Nat.reduceAdd, Nat.reduceMul, Nat.reduceEqDiff, Nat.reduceLT, Nat.reduceLeDiff, Nat.reduceBEq, h1, hg6, hg7, hg8, hg9, hg10, hg11]
            all_goals
              unfold goodGroup; rw [hrow, hany]; first | (simp_all [inr]; done) | (simp_all [inr]; omega)
          try simp only [Bool.not_eq_true', Bool.not_eq_false', Bool.not_not, Bool.not_eq_eq_eq_not, Bool.not_true, Bool.not_false] at hg10
          have hg10' := hg10
          try simp [inr] at hg10'
          simp (disch := omega) only [go_sem, Nat.reduceAdd, Nat.reduceMul, Nat.reduceEqDiff, Nat.reduceLT, Nat.reduceLeDiff, Nat.reduceBEq, w64, chk_pos, h1, hg6, hg7, hg8, hg9, hg10]
          refine ⟨hI _ (by first | kernel_rfl | rfl), hK _ ?_⟩
          clear hK hI K I
          refine a_ret ⟨trivial, [.keep [2] []], ?_⟩
          simp only [go_sem, Nat.reduceAdd, Nat.reduceMul, Nat.reduceEqDiff, Nat.reduceLT, Nat.reduceLeDiff, Nat.reduceBEq, h1, hg6, hg7, hg8, hg9, hg10]
          refine ⟨_, _, rfl, rfl, rfl, ?_, rfl⟩
          simp only [go_sem, Nat.reduceAdd, Nat.reduceMul, Nat.reduceEqDiff, Nat.reduceLT, Nat.reduceLeDiff, Nat.reduceBEq, h1, hg6, hg7, hg8, hg9, hg10]
          all_goals
            unfold goodGroup; rw [hrow, hany]; first | (simp_all [inr]; done) | (simp_all [inr]; omega)
        try simp only [Bool.not_eq_true', Bool.not_eq_false', Bool.not_not, Bool.not_eq_eq_eq_not, Bool.not_true, Bool.not_false] at hg9
        have hg9' := hg9
        try simp [inr] at hg9'
        simp (disch := omega) only [go_sem, Nat.reduceAdd, Nat.reduceMul, Nat.reduceEqDiff, Nat.reduceLT, Nat.reduceLeDiff, Nat.reduceBEq, w64, chk_pos, h1, hg6, hg7, hg8, hg9]
        refine ⟨hI _ (by first | kernel_rfl | rfl), hK _ ?_⟩
        clear hK hI K I
        refine a_ret ⟨trivial, [.keep [2] []], ?_⟩
        simp only [go_sem, Nat.reduceAdd, Nat.reduceMul, Nat.reduceEqDiff, Nat.reduceLT, Nat.reduceLeDiff, Nat.reduceBEq, h1, hg6, hg7, hg8, hg9]
        refine ⟨_, _, rfl, rfl, rfl, ?_, rfl⟩
        simp only [go_sem, Nat.reduceAdd, Nat.reduceMul, Nat.reduceEqDiff, Nat.reduceLT, Nat.reduceLeDiff, Nat.reduceBEq, h1, hg6, hg7, hg8, hg9]
        all_goals
          unfold goodGroup; rw [hrow, hany]; first | (simp_all [inr]; done) | (simp_all [inr]; omega)
      try simp only [Bool.not_eq_true', Bool.not_eq_false', Bool.not_not, Bool.not_eq_eq_eq_not, Bool.not_true, Bool.not_false] at hg8
      have hg8' := hg8
      try simp [inr] at hg8'
      simp (disch := omega) only [go_sem, Nat.reduceAdd, Nat.reduceMul, Nat.reduceEqDiff, Nat.reduceLT, Nat.reduceLeDiff, Nat.reduceBEq, w64, chk_pos, h1, hg6, hg7, hg8]
      refine ⟨hI _ (by first | kernel_rfl | rfl), hK _ ?_⟩
      clear hK hI K I
      refine a_ret ⟨trivial, [.keep [2] []], ?_⟩
      simp only [go_sem, Nat.reduceAdd, Nat.reduceMul, Nat.reduceEqDiff, Nat.reduceLT, Nat.reduceLeDiff, Nat.reduceBEq, h1, hg6, hg7, hg8]
      refine ⟨_, _, rfl, rfl, rfl, ?_, rfl⟩
      simp only [go_sem, Nat.reduceAdd, Nat.reduceMul, Nat.reduceEqDiff, Nat.reduceLT, Nat.reduceLeDiff, Nat.reduceBEq, h1, hg6, hg7, hg8]
      all_goals
        unfold goodGroup; rw [hrow, hany]; first | (simp_all [inr]; done) | (simp_all [inr]; omega)
    try simp only [Bool.not_eq_true', Bool.not_eq_false', Bool.not_not, Bool.not_eq_eq_eq_not, Bool.not_true, Bool.not_false] at hg7
    have hg7' := hg7
    try simp [inr] at hg7'
    simp (disch := omega) only [go_sem, Nat.reduceAdd, Nat.reduceMul, Nat.reduceEqDiff, Nat.reduceLT, Nat.reduceLeDiff, Nat.reduceBEq, w64, chk_pos, h1, hg6, hg7]
    refine ⟨hI _ (by first | kernel_rfl | rfl), hK _ ?_⟩
    clear hK hI K I
    refine a_ret ⟨trivial, [.keep [2] []], ?_⟩
    simp only [go_sem, Nat.reduceAdd, Nat.reduceMul, Nat.reduceEqDiff, Nat.reduceLT, Nat.reduceLeDiff, Nat.reduceBEq, h1, hg6, hg7]
    refine ⟨_, _, rfl, rfl, rfl, ?_, rfl⟩
    simp only [go_sem, Nat.reduceAdd, Nat.reduceMul, Nat.reduceEqDiff, Nat.reduceLT, Nat.reduceLeDiff, Nat.reduceBEq, h1, hg6, hg7]
    all_goals
      unfold goodGroup; rw [hrow, hany]; first | (simp_all [inr]; done) | (simp_all [inr]; omega)
  try simp only [Bool.not_eq_true', Bool.not_eq_false', Bool.not_not, Bool.not_eq_eq_eq_not, Bool.not_true, Bool.not_false] at hg6
  have hg6' := hg6
  try simp [inr] at hg6'
  simp (disch := omega) only [go_sem, Nat.reduceAdd, Nat.reduceMul, Nat.reduceEqDiff, Nat.reduceLT, Nat.reduceLeDiff, Nat.reduceBEq, w64, chk_pos, h1, hg6]
  refine ⟨hI _ (by first | kernel_rfl | rfl), hK _ ?_⟩
  clear hK hI K I
  refine a_ret ⟨trivial, [.keep [2] []], ?_⟩
  simp only [go_sem, Nat.reduceAdd, Nat.reduceMul, Nat.reduceEqDiff, Nat.reduceLT, Nat.reduceLeDiff, Nat.reduceBEq, h1, hg6]
  refine ⟨_, _, rfl, rfl, rfl, ?_, rfl⟩
  simp only [go_sem, Nat.reduceAdd, Nat.reduceMul, Nat.reduceEqDiff, Nat.reduceLT, Nat.reduceLeDiff, Nat.reduceBEq, h1, hg6]
  all_goals
    unfold goodGroup; rw [hrow, hany]; first | (simp_all [inr]; done) | (simp_all [inr]; omega)

end Go.Vi
