/- Contracts of functions of the seat. No statement is proved in this text. -/
import Derived.Test.YtbjkgeenjjfpdaaDoorFb
set_option linter.all false
set_option autoImplicit true
namespace Go.Vi
open Go Go.Proofs
set_option maxRecDepth 100000
set_option maxHeartbeats 4000000
set_option linter.unusedVariables false
set_option linter.unusedSimpArgs false
theorem nm_impl_goodGroups : (Tryd.f33.name == "runtime.NumGoroutine") = false := by kernel_rfl
theorem spec_impl_goodGroups (l : List Group) (hl : l.length ≤ 1099511627776) (hr : ∀ g ∈ l, g.Rows.length ≤ 1099511627776) (hs : ∀ g ∈ l, ∀ r ∈ g.Rows, r.Line.length ≤ 1099511627776) :
    Spec Tryd.prog 33 [.sh (.sl 0 (l.map (dGroup tS)))] [] (.sh (.bool (goodGroups l))) [] := by
  refine spec_of_awp hm (tkT [5000]) Tryd.func33 rfl nm_impl_goodGroups ?_
  rw [Tryd.ntmps33, Sp_start (by simp)]
  simp only [go_sem, Nat.reduceAdd, Nat.reduceMul, Nat.reduceEqDiff, Nat.reduceLT, Nat.reduceLeDiff, Nat.reduceBEq]
  refine a_rs fun K hK => ?_   -- region 0
  simp only [go_sem, Nat.reduceAdd, Nat.reduceMul, Nat.reduceEqDiff, Nat.reduceLT, Nat.reduceLeDiff, Nat.reduceBEq]
  refine hK _ ?_
  clear hK K
  refine a_seqK fun K1 hK1 => ?_
  refine a_rs fun K hK => ?_   -- region 1
  simp (disch := omega) only [go_sem, Nat.reduceAdd, Nat.reduceMul, Nat.reduceEqDiff, Nat.reduceLT, Nat.reduceLeDiff, Nat.reduceBEq, w64, chk_pos]
  refine hK _ ?_
  clear hK K
  refine a_cond rfl (fun h1 => ?_) (fun h1 => ?_)   -- if t7
  · try simp only [Bool.not_eq_true', Bool.not_eq_false', Bool.not_not, Bool.not_eq_eq_eq_not, Bool.not_true, Bool.not_false] at h1
    have h1' := h1
    try simp [inr] at h1'
    refine a_rs fun K hK => ?_   -- region 2
    simp only [go_sem, Nat.reduceAdd, Nat.reduceMul, Nat.reduceEqDiff, Nat.reduceLT, Nat.reduceLeDiff, Nat.reduceBEq, h1]
    refine hK _ ?_
    clear hK K
    refine a_ret ⟨trivial, [.keep [2] []], ?_⟩
    simp only [go_sem, Nat.reduceAdd, Nat.reduceMul, Nat.reduceEqDiff, Nat.reduceLT, Nat.reduceLeDiff, Nat.reduceBEq, h1]
    refine ⟨_, _, rfl, rfl, rfl, ?_, rfl⟩
    simp only [go_sem, Nat.reduceAdd, Nat.reduceMul, Nat.reduceEqDiff, Nat.reduceLT, Nat.reduceLeDiff, Nat.reduceBEq, h1]
    all_goals
      simp [goodGroups]; omega
  try simp only [Bool.not_eq_true', Bool.not_eq_false', Bool.not_not, Bool.not_eq_eq_eq_not, Bool.not_true, Bool.not_false] at h1
  have h1' := h1
  try simp [inr] at h1'
  refine a_skip ?_
  refine hK1 _ ?_
  clear hK1 K1
  refine a_seqK fun K2 hK2 => ?_
  refine a_rs fun K hK => ?_   -- region 3
  simp (disch := omega) only [go_sem, Nat.reduceAdd, Nat.reduceMul, Nat.reduceEqDiff, Nat.reduceLT, Nat.reduceLeDiff, Nat.reduceBEq, w64, chk_pos, h1]
  refine hK _ ?_
  clear hK K
  refine a_block ?_   -- block 0
  refine a_loopU (ι := Nat) [0, 8, 9] [] (fun i => [(10, .sh (.int .i64 i))]) (fun i => []) (fun i => i ≤ l.length ∧ chain okG (prevOf l i) (l.drop i) = chain okG none l ∧ ∀ j x, j < i → l[j]? = some x → goodGroup x = true) (fun i => l.length - i) 0 ?_ ?_ ?_
  · try simp (disch := omega) only [go_sem, Nat.reduceAdd, Nat.reduceMul, Nat.reduceEqDiff, Nat.reduceLT, Nat.reduceLeDiff, Nat.reduceBEq, w64, chk_pos, h1]
    try rfl
  · exact ⟨by omega, rfl, by omega⟩
  rintro i hi
  simp only [go_sem, Nat.reduceAdd, Nat.reduceMul, Nat.reduceEqDiff, Nat.reduceLT, Nat.reduceLeDiff, Nat.reduceBEq, h1]
  refine a_rs fun K hK => ?_   -- region 4
  simp only [go_sem, Nat.reduceAdd, Nat.reduceMul, Nat.reduceEqDiff, Nat.reduceLT, Nat.reduceLeDiff, Nat.reduceBEq, h1]
  refine hK _ ?_
  clear hK K
  refine a_seqK fun K3 hK3 => ?_
  refine a_cond rfl (fun h2 => ?_) (fun h2 => ?_)   -- if t11
  · try simp only [Bool.not_eq_true', Bool.not_eq_false', Bool.not_not, Bool.not_eq_eq_eq_not, Bool.not_true, Bool.not_false] at h2
    have h2' := h2
    try simp [inr] at h2'
    obtain ⟨x, hx⟩ : ∃ x, l[i]? = some x := ⟨_, List.getElem?_eq_getElem h2'⟩
    have hxr := hr x (List.mem_of_getElem? hx)
    have hxs := hs x (List.mem_of_getElem? hx)
    obtain ⟨y, hy⟩ : ∃ y, l[i - 1]? = some y := ⟨_, List.getElem?_eq_getElem (by omega)⟩
    have hyr := hr y (List.mem_of_getElem? hy)
    have hb1 := oldOf_len y
    have hb2 := newOf_len y
    have hp := prevOf_if hy
    have hgy : 0 < i → 0 ≤ y.At ∧ y.At ≤ 1000 ∧ 0 ≤ y.To ∧ y.To ≤ 1000 ∧ 1 ≤ y.Rows.length ∧ y.Rows.length ≤ 80 := fun h => goodGroup_bd (hi.2.2 _ _ (by omega) hy)
    refine a_skip ?_
    refine hK3 _ ?_
    clear hK3 K3
    refine a_seqK fun K4 hK4 => ?_
    refine a_block ?_   -- block 1
    refine a_rs fun K hK => ?_   -- region 5
    simp (disch := omega) only [go_sem, Nat.reduceAdd, Nat.reduceMul, Nat.reduceEqDiff, Nat.reduceLT, Nat.reduceLeDiff, Nat.reduceBEq, w64, chk_pos, h1, h2, hx, hy]
    refine hK _ ?_
    clear hK K
    refine a_seqK fun K5 hK5 => ?_
    refine a_rs fun K hK => ?_   -- region 6
    simp only [go_sem, Nat.reduceAdd, Nat.reduceMul, Nat.reduceEqDiff, Nat.reduceLT, Nat.reduceLeDiff, Nat.reduceBEq, h1, h2, hx, hy]
    refine r_callT rfl rfl rfl rfl rfl (spec_impl_goodGroup x hxr hxs) (by first | rfl | (simp only [go_sem, Nat.reduceAdd, Nat.reduceMul, Nat.reduceEqDiff, Nat.reduceLT, Nat.reduceLeDiff, Nat.reduceBEq, h1, h2, hx, hy]; done) | (simp only [go_sem, Nat.reduceAdd, Nat.reduceMul, Nat.reduceEqDiff, Nat.reduceLT, Nat.reduceLeDiff, Nat.reduceBEq, h1, h2, hx, hy]; rfl)) (by first | rfl | (simp [AV.okIds, AV.ok1]; done)) (by rfl) ?_
    simp only [go_sem, Nat.reduceAdd, Nat.reduceMul, Nat.reduceEqDiff, Nat.reduceLT, Nat.reduceLeDiff, Nat.reduceBEq, h1, h2, hx, hy]
    refine hK _ ?_
    clear hK K
    refine a_cond rfl (fun h3 => ?_) (fun h3 => ?_)   -- if t17
    · try simp only [Bool.not_eq_true', Bool.not_eq_false', Bool.not_not, Bool.not_eq_eq_eq_not, Bool.not_true, Bool.not_false] at h3
      have h3' := h3
      try simp [inr] at h3'
      refine a_rs fun K hK => ?_   -- region 7
      simp only [go_sem, Nat.reduceAdd, Nat.reduceMul, Nat.reduceEqDiff, Nat.reduceLT, Nat.reduceLeDiff, Nat.reduceBEq, h1, h2, hx, hy, h3]
      refine hK _ ?_
      clear hK K
      refine a_ret ⟨trivial, [.keep [2] []], ?_⟩
      simp only [go_sem, Nat.reduceAdd, Nat.reduceMul, Nat.reduceEqDiff, Nat.reduceLT, Nat.reduceLeDiff, Nat.reduceBEq, h1, h2, hx, hy, h3]
      refine ⟨_, _, rfl, rfl, rfl, ?_, rfl⟩
      simp only [go_sem, Nat.reduceAdd, Nat.reduceMul, Nat.reduceEqDiff, Nat.reduceLT, Nat.reduceLeDiff, Nat.reduceBEq, h1, h2, hx, hy, h3]
      all_goals
        rw [goodGroups_bad (by rw [← hi.2.1]; exact chain_bad hx (by simp [okG, h3]))]
    try simp only [Bool.not_eq_true', Bool.not_eq_false', Bool.not_not, Bool.not_eq_eq_eq_not, Bool.not_true, Bool.not_false] at h3
    have h3' := h3
    try simp [inr] at h3'
    refine a_skip ?_
    refine hK5 _ ?_
    clear hK5 K5
    refine a_rdm rfl [0, 8, 9, 10] [4] [(57, .sh (.bool (decide (0 < (i : Int)) && (decide (x.At < y.At + (oldOf y).length) || decide (x.To < y.To + (newOf y).length)))))] (fun I hI => ?_) ?_   -- region 8
    · simp (disch := omega) only [go_sem, Nat.reduceAdd, Nat.reduceMul, Nat.reduceEqDiff, Nat.reduceLT, Nat.reduceLeDiff, Nat.reduceBEq, w64, chk_pos, h1, h2, hx, hy, h3]
      refine gIf_both (fun hg1 => ?_) (fun hg1 => ?_)
      · try simp only [Bool.not_eq_true', Bool.not_eq_false', Bool.not_not, Bool.not_eq_eq_eq_not, Bool.not_true, Bool.not_false] at hg1
        have hg1' := hg1
        try simp [inr] at hg1'
        simp (disch := omega) only [go_sem, Nat.reduceAdd, Nat.reduceMul, Nat.reduceEqDiff, Nat.reduceLT, Nat.reduceLeDiff, Nat.reduceBEq, w64, chk_pos, h1, h2, hx, hy, h3, hg1]
        refine r_callD0 rfl rfl rfl rfl rfl (spec__impl_Group__old y hyr) (by first | rfl | (simp only [go_sem, Nat.reduceAdd, Nat.reduceMul, Nat.reduceEqDiff, Nat.reduceLT, Nat.reduceLeDiff, Nat.reduceBEq, h1, h2, hx, hy, h3, hg1]; done) | (simp only [go_sem, Nat.reduceAdd, Nat.reduceMul, Nat.reduceEqDiff, Nat.reduceLT, Nat.reduceLeDiff, Nat.reduceBEq, h1, h2, hx, hy, h3, hg1]; rfl)) (by first | rfl | (simp [AV.okIds, AV.ok1]; done)) (by rfl) ?_
        simp (disch := omega) only [go_sem, Nat.reduceAdd, Nat.reduceMul, Nat.reduceEqDiff, Nat.reduceLT, Nat.reduceLeDiff, Nat.reduceBEq, w64, chk_pos, h1, h2, hx, hy, h3, hg1]
        refine gIf_both (fun hg2 => ?_) (fun hg2 => ?_)
        · try simp only [Bool.not_eq_true', Bool.not_eq_false', Bool.not_not, Bool.not_eq_eq_eq_not, Bool.not_true, Bool.not_false] at hg2
          have hg2' := hg2
          try simp [inr] at hg2'
          simp (disch := omega) only [go_sem, Nat.reduceAdd, Nat.reduceMul, Nat.reduceEqDiff, Nat.reduceLT, Nat.reduceLeDiff, Nat.reduceBEq, w64, chk_pos, h1, h2, hx, hy, h3, hg1, hg2]
          refine r_callD0 rfl rfl rfl rfl rfl (spec__impl_Group__fresh y hyr) (by first | rfl | (simp only [go_sem, Nat.reduceAdd, Nat.reduceMul, Nat.reduceEqDiff, Nat.reduceLT, Nat.reduceLeDiff, Nat.reduceBEq, h1, h2, hx, hy, h3, hg1, hg2]; done) | (simp only [go_sem, Nat.reduceAdd, Nat.reduceMul, Nat.reduceEqDiff, Nat.reduceLT, Nat.reduceLeDiff, Nat.reduceBEq, h1, h2, hx, hy, h3, hg1, hg2]; rfl)) (by first | rfl | (simp [AV.okIds, AV.ok1]; done)) (by rfl) ?_
          simp (disch := omega) only [go_sem, Nat.reduceAdd, Nat.reduceMul, Nat.reduceEqDiff, Nat.reduceLT, Nat.reduceLeDiff, Nat.reduceBEq, w64, chk_pos, h1, h2, hx, hy, h3, hg1, hg2]
          first | refine ⟨hI _ (by first | kernel_rfl | rfl), ?_⟩ | exact hI _ (by first | kernel_rfl | rfl)
          all_goals (first | rfl | ((first | refine sp_hd ?_ | refine sp_hd' ?_) <;> first | rfl | (simp; done) | (simp []; omega) | (simp_all []; done) | (simp_all []; omega)))
        try simp only [Bool.not_eq_true', Bool.not_eq_false', Bool.not_not, Bool.not_eq_eq_eq_not, Bool.not_true, Bool.not_false] at hg2
        have hg2' := hg2
        try simp [inr] at hg2'
        simp (disch := omega) only [go_sem, Nat.reduceAdd, Nat.reduceMul, Nat.reduceEqDiff, Nat.reduceLT, Nat.reduceLeDiff, Nat.reduceBEq, w64, chk_pos, h1, h2, hx, hy, h3, hg1, hg2]
        first | refine ⟨hI _ (by first | kernel_rfl | rfl), ?_⟩ | exact hI _ (by first | kernel_rfl | rfl)
        all_goals (first | rfl | ((first | refine sp_hd ?_ | refine sp_hd' ?_) <;> first | rfl | (simp; done) | (simp []; omega) | (simp_all []; done) | (simp_all []; omega)))
      try simp only [Bool.not_eq_true', Bool.not_eq_false', Bool.not_not, Bool.not_eq_eq_eq_not, Bool.not_true, Bool.not_false] at hg1
      have hg1' := hg1
      try simp [inr] at hg1'
      simp (disch := omega) only [go_sem, Nat.reduceAdd, Nat.reduceMul, Nat.reduceEqDiff, Nat.reduceLT, Nat.reduceLeDiff, Nat.reduceBEq, w64, chk_pos, h1, h2, hx, hy, h3, hg1]
      first | refine ⟨hI _ (by first | kernel_rfl | rfl), ?_⟩ | exact hI _ (by first | kernel_rfl | rfl)
      all_goals (first | rfl | ((first | refine sp_hd ?_ | refine sp_hd' ?_) <;> first | rfl | (simp; done) | (simp []; omega) | (simp_all []; done) | (simp_all []; omega)))
    simp only [go_sem, Nat.reduceAdd, Nat.reduceMul, Nat.reduceEqDiff, Nat.reduceLT, Nat.reduceLeDiff, Nat.reduceBEq, h1, h2, hx, hy, h3]
    refine a_cond rfl (fun h4 => ?_) (fun h4 => ?_)   -- if t57
    · try simp only [Bool.not_eq_true', Bool.not_eq_false', Bool.not_not, Bool.not_eq_eq_eq_not, Bool.not_true, Bool.not_false] at h4
      have h4' := h4
      try simp [inr] at h4'
      refine a_rs fun K hK => ?_   -- region 9
      simp only [go_sem, Nat.reduceAdd, Nat.reduceMul, Nat.reduceEqDiff, Nat.reduceLT, Nat.reduceLeDiff, Nat.reduceBEq, h1, h2, hx, hy, h3, h4]
      refine hK _ ?_
      clear hK K
      refine a_ret ⟨trivial, [.keep [2] []], ?_⟩
      simp only [go_sem, Nat.reduceAdd, Nat.reduceMul, Nat.reduceEqDiff, Nat.reduceLT, Nat.reduceLeDiff, Nat.reduceBEq, h1, h2, hx, hy, h3, h4]
      refine ⟨_, _, rfl, rfl, rfl, ?_, rfl⟩
      simp only [go_sem, Nat.reduceAdd, Nat.reduceMul, Nat.reduceEqDiff, Nat.reduceLT, Nat.reduceLeDiff, Nat.reduceBEq, h1, h2, hx, hy, h3, h4]
      all_goals
        rw [goodGroups_bad (by rw [← hi.2.1]; exact chain_bad hx (by rw [hp]; simp at h4; simp [okG, h4.1]; intro _ h'; rcases h4.2 with h | h <;> omega))]
    try simp only [Bool.not_eq_true', Bool.not_eq_false', Bool.not_not, Bool.not_eq_eq_eq_not, Bool.not_true, Bool.not_false] at h4
    have h4' := h4
    try simp [inr] at h4'
    refine a_skip ?_
    refine hK4 _ ?_
    clear hK4 K4
    refine a_regP ?_
    simp (disch := omega) only [go_sem, Nat.reduceAdd, Nat.reduceMul, Nat.reduceEqDiff, Nat.reduceLT, Nat.reduceLeDiff, Nat.reduceBEq, w64, chk_pos, h1, h2, hx, hy, h3, h4]
    refine ⟨i + 1, ?_, ?_, ?_⟩   -- round E1
    · try simp (disch := omega) only [go_sem, Nat.reduceAdd, Nat.reduceMul, Nat.reduceEqDiff, Nat.reduceLT, Nat.reduceLeDiff, Nat.reduceBEq, w64, chk_pos, h1, h2, hx, hy, h3, h4]
      try rfl
    all_goals try dsimp only
    · have ho : okG (prevOf l i) x = true := by rw [hp]; by_cases h0 : (0 : Int) < i <;> simp_all [okG]
      refine ⟨by omega, by rw [← hi.2.1, chain_step hx ho], fun j z hj hz => ?_⟩
      by_cases e : j = i
      · subst e; rw [hx] at hz; obtain rfl := Option.some.inj hz; exact h3
      · exact hi.2.2 j z (by omega) hz
    · omega
  try simp only [Bool.not_eq_true', Bool.not_eq_false', Bool.not_not, Bool.not_eq_eq_eq_not, Bool.not_true, Bool.not_false] at h2
  have h2' := h2
  try simp [inr] at h2'
  refine a_exit ?_
  simp only [go_sem, Nat.reduceAdd, Nat.reduceMul, Nat.reduceEqDiff, Nat.reduceLT, Nat.reduceLeDiff, Nat.reduceBEq, h1, h2]
  clear hK3 K3
  refine hK2 _ ?_
  clear hK2 K2
  refine a_rs fun K hK => ?_   -- region 11
  simp only [go_sem, Nat.reduceAdd, Nat.reduceMul, Nat.reduceEqDiff, Nat.reduceLT, Nat.reduceLeDiff, Nat.reduceBEq, h1, h2]
  refine hK _ ?_
  clear hK K
  refine a_ret ⟨trivial, [.keep [2] []], ?_⟩
  simp only [go_sem, Nat.reduceAdd, Nat.reduceMul, Nat.reduceEqDiff, Nat.reduceLT, Nat.reduceLeDiff, Nat.reduceBEq, h1, h2]
  refine ⟨_, _, rfl, rfl, rfl, ?_, rfl⟩
  simp only [go_sem, Nat.reduceAdd, Nat.reduceMul, Nat.reduceEqDiff, Nat.reduceLT, Nat.reduceLeDiff, Nat.reduceBEq, h1, h2]
  all_goals
    have hdn : l.drop i = [] := List.drop_eq_nil_iff.2 (by omega)
    have hc : chain okG none l = true := by rw [← hi.2.1, hdn]; rfl
    simp [goodGroups, hc]; omega

theorem nm_spec_l6Good : (Tryd.f36.name == "runtime.NumGoroutine") = false := by kernel_rfl
theorem spec_spec_l6Good (l : List Group) (hl : l.length ≤ 1099511627776) (hr : ∀ g ∈ l, g.Rows.length ≤ 1099511627776) (hs : ∀ g ∈ l, ∀ r ∈ g.Rows, r.Line.length ≤ 1099511627776) :
    Spec Tryd.prog 36 [.sh (.sl 0 (l.map (dGroup tS)))] [] (.sh (.bool (goodGroups l))) [] := by
  refine spec_of_awp hm (tkT [3000]) Tryd.func36 rfl nm_spec_l6Good ?_
  rw [Tryd.ntmps36, Sp_start (by simp)]
  simp only [go_sem, Nat.reduceAdd, Nat.reduceMul, Nat.reduceEqDiff, Nat.reduceLT, Nat.reduceLeDiff, Nat.reduceBEq]
  refine a_rs fun K hK => ?_   -- region 0
  simp only [go_sem, Nat.reduceAdd, Nat.reduceMul, Nat.reduceEqDiff, Nat.reduceLT, Nat.reduceLeDiff, Nat.reduceBEq]
  refine hK _ ?_
  clear hK K
  refine a_seqK fun K1 hK1 => ?_
  refine a_rs fun K hK => ?_   -- region 1
  simp (disch := omega) only [go_sem, Nat.reduceAdd, Nat.reduceMul, Nat.reduceEqDiff, Nat.reduceLT, Nat.reduceLeDiff, Nat.reduceBEq, w64, chk_pos]
  refine hK _ ?_
  clear hK K
  refine a_block ?_   -- block 0
  refine a_loopU (ι := Nat) [0, 5, 6] [] (fun i => [(7, .sh (.int .i64 i))]) (fun i => []) (fun i => i ≤ l.length ∧ chain okG (prevOf l i) (l.drop i) = chain okG none l ∧ ∀ j x, j < i → l[j]? = some x → goodGroup x = true) (fun i => l.length - i) 0 ?_ ?_ ?_
  · try simp (disch := omega) only [go_sem, Nat.reduceAdd, Nat.reduceMul, Nat.reduceEqDiff, Nat.reduceLT, Nat.reduceLeDiff, Nat.reduceBEq, w64, chk_pos]
    try rfl
  · exact ⟨by omega, rfl, by omega⟩
  rintro i hi
  simp only [go_sem, Nat.reduceAdd, Nat.reduceMul, Nat.reduceEqDiff, Nat.reduceLT, Nat.reduceLeDiff, Nat.reduceBEq]
  refine a_rs fun K hK => ?_   -- region 2
  simp only [go_sem, Nat.reduceAdd, Nat.reduceMul, Nat.reduceEqDiff, Nat.reduceLT, Nat.reduceLeDiff, Nat.reduceBEq]
  refine hK _ ?_
  clear hK K
  refine a_seqK fun K2 hK2 => ?_
  refine a_cond rfl (fun h1 => ?_) (fun h1 => ?_)   -- if t8
  · try simp only [Bool.not_eq_true', Bool.not_eq_false', Bool.not_not, Bool.not_eq_eq_eq_not, Bool.not_true, Bool.not_false] at h1
    have h1' := h1
    try simp [inr] at h1'
    obtain ⟨x, hx⟩ : ∃ x, l[i]? = some x := ⟨_, List.getElem?_eq_getElem h1'⟩
    have hxr := hr x (List.mem_of_getElem? hx)
    have hxs := hs x (List.mem_of_getElem? hx)
    obtain ⟨y, hy⟩ : ∃ y, l[i - 1]? = some y := ⟨_, List.getElem?_eq_getElem (by omega)⟩
    have hyr := hr y (List.mem_of_getElem? hy)
    have hb1 := oldOf_len y
    have hb2 := newOf_len y
    have hp := prevOf_if hy
    have hgy : 0 < i → 0 ≤ y.At ∧ y.At ≤ 1000 ∧ 0 ≤ y.To ∧ y.To ≤ 1000 ∧ 1 ≤ y.Rows.length ∧ y.Rows.length ≤ 80 := fun h => goodGroup_bd (hi.2.2 _ _ (by omega) hy)
    refine a_skip ?_
    refine hK2 _ ?_
    clear hK2 K2
    refine a_seqK fun K3 hK3 => ?_
    refine a_block ?_   -- block 1
    refine a_rs fun K hK => ?_   -- region 3
    simp (disch := omega) only [go_sem, Nat.reduceAdd, Nat.reduceMul, Nat.reduceEqDiff, Nat.reduceLT, Nat.reduceLeDiff, Nat.reduceBEq, w64, chk_pos, h1, hx, hy]
    refine hK _ ?_
    clear hK K
    refine a_seqK fun K4 hK4 => ?_
    refine a_rs fun K hK => ?_   -- region 4
    simp only [go_sem, Nat.reduceAdd, Nat.reduceMul, Nat.reduceEqDiff, Nat.reduceLT, Nat.reduceLeDiff, Nat.reduceBEq, h1, hx, hy]
    refine r_callT rfl rfl rfl rfl rfl (spec_spec_l6Group x hxr hxs) (by first | rfl | (simp only [go_sem, Nat.reduceAdd, Nat.reduceMul, Nat.reduceEqDiff, Nat.reduceLT, Nat.reduceLeDiff, Nat.reduceBEq, h1, hx, hy]; done) | (simp only [go_sem, Nat.reduceAdd, Nat.reduceMul, Nat.reduceEqDiff, Nat.reduceLT, Nat.reduceLeDiff, Nat.reduceBEq, h1, hx, hy]; rfl)) (by first | rfl | (simp [AV.okIds, AV.ok1]; done)) (by rfl) ?_
    simp only [go_sem, Nat.reduceAdd, Nat.reduceMul, Nat.reduceEqDiff, Nat.reduceLT, Nat.reduceLeDiff, Nat.reduceBEq, h1, hx, hy]
    refine hK _ ?_
    clear hK K
    refine a_cond rfl (fun h2 => ?_) (fun h2 => ?_)   -- if t14
    · try simp only [Bool.not_eq_true', Bool.not_eq_false', Bool.not_not, Bool.not_eq_eq_eq_not, Bool.not_true, Bool.not_false] at h2
      have h2' := h2
      try simp [inr] at h2'
      refine a_rs fun K hK => ?_   -- region 5
      simp only [go_sem, Nat.reduceAdd, Nat.reduceMul, Nat.reduceEqDiff, Nat.reduceLT, Nat.reduceLeDiff, Nat.reduceBEq, h1, hx, hy, h2]
      refine hK _ ?_
      clear hK K
      refine a_ret ⟨trivial, [.keep [2] []], ?_⟩
      simp only [go_sem, Nat.reduceAdd, Nat.reduceMul, Nat.reduceEqDiff, Nat.reduceLT, Nat.reduceLeDiff, Nat.reduceBEq, h1, hx, hy, h2]
      refine ⟨_, _, rfl, rfl, rfl, ?_, rfl⟩
      simp only [go_sem, Nat.reduceAdd, Nat.reduceMul, Nat.reduceEqDiff, Nat.reduceLT, Nat.reduceLeDiff, Nat.reduceBEq, h1, hx, hy, h2]
      all_goals
        rw [goodGroups_bad (by rw [← hi.2.1]; exact chain_bad hx (by simp [okG, h2]))]
    try simp only [Bool.not_eq_true', Bool.not_eq_false', Bool.not_not, Bool.not_eq_eq_eq_not, Bool.not_true, Bool.not_false] at h2
    have h2' := h2
    try simp [inr] at h2'
    refine a_skip ?_
    refine hK4 _ ?_
    clear hK4 K4
    refine a_rdm rfl [0, 5, 6, 7] [4] [(54, .sh (.bool (decide (0 < (i : Int)) && (decide (x.At < y.At + (oldOf y).length) || decide (x.To < y.To + (newOf y).length)))))] (fun I hI => ?_) ?_   -- region 6
    · simp (disch := omega) only [go_sem, Nat.reduceAdd, Nat.reduceMul, Nat.reduceEqDiff, Nat.reduceLT, Nat.reduceLeDiff, Nat.reduceBEq, w64, chk_pos, h1, hx, hy, h2]
      refine gIf_both (fun hg1 => ?_) (fun hg1 => ?_)
      · try simp only [Bool.not_eq_true', Bool.not_eq_false', Bool.not_not, Bool.not_eq_eq_eq_not, Bool.not_true, Bool.not_false] at hg1
        have hg1' := hg1
        try simp [inr] at hg1'
        simp (disch := omega) only [go_sem, Nat.reduceAdd, Nat.reduceMul, Nat.reduceEqDiff, Nat.reduceLT, Nat.reduceLeDiff, Nat.reduceBEq, w64, chk_pos, h1, hx, hy, h2, hg1]
        refine r_callD0 rfl rfl rfl rfl rfl (spec_spec_l6Old y hyr) (by first | rfl | (simp only [go_sem, Nat.reduceAdd, Nat.reduceMul, Nat.reduceEqDiff, Nat.reduceLT, Nat.reduceLeDiff, Nat.reduceBEq, h1, hx, hy, h2, hg1]; done) | (simp only [go_sem, Nat.reduceAdd, Nat.reduceMul, Nat.reduceEqDiff, Nat.reduceLT, Nat.reduceLeDiff, Nat.reduceBEq, h1, hx, hy, h2, hg1]; rfl)) (by first | rfl | (simp [AV.okIds, AV.ok1]; done)) (by rfl) ?_
        simp (disch := omega) only [go_sem, Nat.reduceAdd, Nat.reduceMul, Nat.reduceEqDiff, Nat.reduceLT, Nat.reduceLeDiff, Nat.reduceBEq, w64, chk_pos, h1, hx, hy, h2, hg1]
        refine gIf_both (fun hg2 => ?_) (fun hg2 => ?_)
        · try simp only [Bool.not_eq_true', Bool.not_eq_false', Bool.not_not, Bool.not_eq_eq_eq_not, Bool.not_true, Bool.not_false] at hg2
          have hg2' := hg2
          try simp [inr] at hg2'
          simp (disch := omega) only [go_sem, Nat.reduceAdd, Nat.reduceMul, Nat.reduceEqDiff, Nat.reduceLT, Nat.reduceLeDiff, Nat.reduceBEq, w64, chk_pos, h1, hx, hy, h2, hg1, hg2]
          refine r_callD0 rfl rfl rfl rfl rfl (spec_spec_l6New y hyr) (by first | rfl | (simp only [go_sem, Nat.reduceAdd, Nat.reduceMul, Nat.reduceEqDiff, Nat.reduceLT, Nat.reduceLeDiff, Nat.reduceBEq, h1, hx, hy, h2, hg1, hg2]; done) | (simp only [go_sem, Nat.reduceAdd, Nat.reduceMul, Nat.reduceEqDiff, Nat.reduceLT, Nat.reduceLeDiff, Nat.reduceBEq, h1, hx, hy, h2, hg1, hg2]; rfl)) (by first | rfl | (simp [AV.okIds, AV.ok1]; done)) (by rfl) ?_
          simp (disch := omega) only [go_sem, Nat.reduceAdd, Nat.reduceMul, Nat.reduceEqDiff, Nat.reduceLT, Nat.reduceLeDiff, Nat.reduceBEq, w64, chk_pos, h1, hx, hy, h2, hg1, hg2]
          first | refine ⟨hI _ (by first | kernel_rfl | rfl), ?_⟩ | exact hI _ (by first | kernel_rfl | rfl)
          all_goals (first | rfl | ((first | refine sp_hd ?_ | refine sp_hd' ?_) <;> first | rfl | (simp; done) | (simp []; omega) | (simp_all []; done) | (simp_all []; omega)))
        try simp only [Bool.not_eq_true', Bool.not_eq_false', Bool.not_not, Bool.not_eq_eq_eq_not, Bool.not_true, Bool.not_false] at hg2
        have hg2' := hg2
        try simp [inr] at hg2'
        simp (disch := omega) only [go_sem, Nat.reduceAdd, Nat.reduceMul, Nat.reduceEqDiff, Nat.reduceLT, Nat.reduceLeDiff, Nat.reduceBEq, w64, chk_pos, h1, hx, hy, h2, hg1, hg2]
        first | refine ⟨hI _ (by first | kernel_rfl | rfl), ?_⟩ | exact hI _ (by first | kernel_rfl | rfl)
        all_goals (first | rfl | ((first | refine sp_hd ?_ | refine sp_hd' ?_) <;> first | rfl | (simp; done) | (simp []; omega) | (simp_all []; done) | (simp_all []; omega)))
      try simp only [Bool.not_eq_true', Bool.not_eq_false', Bool.not_not, Bool.not_eq_eq_eq_not, Bool.not_true, Bool.not_false] at hg1
      have hg1' := hg1
      try simp [inr] at hg1'
      simp (disch := omega) only [go_sem, Nat.reduceAdd, Nat.reduceMul, Nat.reduceEqDiff, Nat.reduceLT, Nat.reduceLeDiff, Nat.reduceBEq, w64, chk_pos, h1, hx, hy, h2, hg1]
      first | refine ⟨hI _ (by first | kernel_rfl | rfl), ?_⟩ | exact hI _ (by first | kernel_rfl | rfl)
      all_goals (first | rfl | ((first | refine sp_hd ?_ | refine sp_hd' ?_) <;> first | rfl | (simp; done) | (simp []; omega) | (simp_all []; done) | (simp_all []; omega)))
    simp only [go_sem, Nat.reduceAdd, Nat.reduceMul, Nat.reduceEqDiff, Nat.reduceLT, Nat.reduceLeDiff, Nat.reduceBEq, h1, hx, hy, h2]
    refine a_cond rfl (fun h3 => ?_) (fun h3 => ?_)   -- if t54
    · try simp only [Bool.not_eq_true', Bool.not_eq_false', Bool.not_not, Bool.not_eq_eq_eq_not, Bool.not_true, Bool.not_false] at h3
      have h3' := h3
      try simp [inr] at h3'
      refine a_rs fun K hK => ?_   -- region 7
      simp only [go_sem, Nat.reduceAdd, Nat.reduceMul, Nat.reduceEqDiff, Nat.reduceLT, Nat.reduceLeDiff, Nat.reduceBEq, h1, hx, hy, h2, h3]
      refine hK _ ?_
      clear hK K
      refine a_ret ⟨trivial, [.keep [2] []], ?_⟩
      simp only [go_sem, Nat.reduceAdd, Nat.reduceMul, Nat.reduceEqDiff, Nat.reduceLT, Nat.reduceLeDiff, Nat.reduceBEq, h1, hx, hy, h2, h3]
      refine ⟨_, _, rfl, rfl, rfl, ?_, rfl⟩
      simp only [go_sem, Nat.reduceAdd, Nat.reduceMul, Nat.reduceEqDiff, Nat.reduceLT, Nat.reduceLeDiff, Nat.reduceBEq, h1, hx, hy, h2, h3]
      all_goals
        rw [goodGroups_bad (by rw [← hi.2.1]; exact chain_bad hx (by rw [hp]; simp at h3; simp [okG, h3.1]; intro _ h'; rcases h3.2 with h | h <;> omega))]
    try simp only [Bool.not_eq_true', Bool.not_eq_false', Bool.not_not, Bool.not_eq_eq_eq_not, Bool.not_true, Bool.not_false] at h3
    have h3' := h3
    try simp [inr] at h3'
    refine a_skip ?_
    refine hK3 _ ?_
    clear hK3 K3
    refine a_regP ?_
    simp (disch := omega) only [go_sem, Nat.reduceAdd, Nat.reduceMul, Nat.reduceEqDiff, Nat.reduceLT, Nat.reduceLeDiff, Nat.reduceBEq, w64, chk_pos, h1, hx, hy, h2, h3]
    refine ⟨i + 1, ?_, ?_, ?_⟩   -- round E1
    · try simp (disch := omega) only [go_sem, Nat.reduceAdd, Nat.reduceMul, Nat.reduceEqDiff, Nat.reduceLT, Nat.reduceLeDiff, Nat.reduceBEq, w64, chk_pos, h1, hx, hy, h2, h3]
      try rfl
    all_goals try dsimp only
    · have ho : okG (prevOf l i) x = true := by rw [hp]; by_cases h0 : (0 : Int) < i <;> simp_all [okG]
      refine ⟨by omega, by rw [← hi.2.1, chain_step hx ho], fun j z hj hz => ?_⟩
      by_cases e : j = i
      · subst e; rw [hx] at hz; obtain rfl := Option.some.inj hz; exact h2
      · exact hi.2.2 j z (by omega) hz
    · omega
  try simp only [Bool.not_eq_true', Bool.not_eq_false', Bool.not_not, Bool.not_eq_eq_eq_not, Bool.not_true, Bool.not_false] at h1
  have h1' := h1
  try simp [inr] at h1'
  refine a_exit ?_
  simp only [go_sem, Nat.reduceAdd, Nat.reduceMul, Nat.reduceEqDiff, Nat.reduceLT, Nat.reduceLeDiff, Nat.reduceBEq, h1]
  clear hK2 K2
  refine hK1 _ ?_
  clear hK1 K1
  refine a_rs fun K hK => ?_   -- region 9
  simp (disch := omega) only [go_sem, Nat.reduceAdd, Nat.reduceMul, Nat.reduceEqDiff, Nat.reduceLT, Nat.reduceLeDiff, Nat.reduceBEq, w64, chk_pos, h1]
  refine hK _ ?_
  clear hK K
  refine a_ret ⟨trivial, [.keep [2] []], ?_⟩
  simp only [go_sem, Nat.reduceAdd, Nat.reduceMul, Nat.reduceEqDiff, Nat.reduceLT, Nat.reduceLeDiff, Nat.reduceBEq, h1]
  refine ⟨_, _, rfl, rfl, rfl, ?_, rfl⟩
  simp only [go_sem, Nat.reduceAdd, Nat.reduceMul, Nat.reduceEqDiff, Nat.reduceLT, Nat.reduceLeDiff, Nat.reduceBEq, h1]
  all_goals
    have hdn : l.drop i = [] := List.drop_eq_nil_iff.2 (by omega)
    have hc : chain okG none l = true := by rw [← hi.2.1, hdn]; rfl
    simp [goodGroups, hc]; omega

end Go.Vi
