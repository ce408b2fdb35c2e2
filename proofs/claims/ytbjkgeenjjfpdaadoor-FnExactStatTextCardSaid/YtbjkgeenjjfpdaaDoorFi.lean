/- Contracts of functions of the seat. No statement is proved in this text. -/
import Derived.Test.YtbjkgeenjjfpdaaDoorFh
import Derived.Test.YtbjkgeenjjfpdaaDoorFd
set_option linter.all false
set_option autoImplicit true
namespace Go.Vi
open Go Go.Proofs
set_option maxRecDepth 100000
set_option maxHeartbeats 4000000
set_option linter.unusedVariables false
set_option linter.unusedSimpArgs false
theorem nm_spec_StatText : (Tryd.f15.name == "runtime.NumGoroutine") = false := by kernel_rfl
theorem spec_spec_StatText (l : List FDiff) (hl : l.length ≤ 1099511627776) (hd : ∀ d ∈ l, FDok d) :
    Spec Tryd.prog 15 [.sh (.sl 0 (l.map (dFD tS)))] [] (.tup [.sh (.str (if goodDiffs l then statText l else [])), .sh (.bool (goodDiffs l))]) [] := by
  refine spec_of_awp hm (tkT [23000]) Tryd.func15 rfl nm_spec_StatText ?_
  rw [Tryd.ntmps15, Sp_start (by simp)]
  simp only [go_sem, Nat.reduceAdd, Nat.reduceMul, Nat.reduceEqDiff, Nat.reduceLT, Nat.reduceLeDiff, Nat.reduceBEq, List.length_append, List.length_cons, List.length_nil]
  refine a_rs fun K hK => ?_   -- region 0
  simp only [go_sem, Nat.reduceAdd, Nat.reduceMul, Nat.reduceEqDiff, Nat.reduceLT, Nat.reduceLeDiff, Nat.reduceBEq, List.length_append, List.length_cons, List.length_nil]
  refine hK _ ?_
  clear hK K
  refine a_seqK fun K1 hK1 => ?_
  refine a_rs fun K hK => ?_   -- region 1
  simp only [go_sem, Nat.reduceAdd, Nat.reduceMul, Nat.reduceEqDiff, Nat.reduceLT, Nat.reduceLeDiff, Nat.reduceBEq, List.length_append, List.length_cons, List.length_nil]
  refine r_callT rfl rfl rfl rfl rfl (spec_spec_l15Diffs l hl hd) (by first | rfl | (simp only [go_sem, Nat.reduceAdd, Nat.reduceMul, Nat.reduceEqDiff, Nat.reduceLT, Nat.reduceLeDiff, Nat.reduceBEq, List.length_append, List.length_cons, List.length_nil]; done) | (simp only [go_sem, Nat.reduceAdd, Nat.reduceMul, Nat.reduceEqDiff, Nat.reduceLT, Nat.reduceLeDiff, Nat.reduceBEq, List.length_append, List.length_cons, List.length_nil]; rfl)) (by first | rfl | (simp [AV.okIds, AV.ok1]; done)) (by rfl) ?_
  simp only [go_sem, Nat.reduceAdd, Nat.reduceMul, Nat.reduceEqDiff, Nat.reduceLT, Nat.reduceLeDiff, Nat.reduceBEq, List.length_append, List.length_cons, List.length_nil]
  refine hK _ ?_
  clear hK K
  refine a_cond rfl (fun h1 => ?_) (fun h1 => ?_)   -- if t15
  · try simp only [Bool.not_eq_true', Bool.not_eq_false', Bool.not_not, Bool.not_eq_eq_eq_not, Bool.not_true, Bool.not_false] at h1
    have h1' := h1
    try simp [inr] at h1'
    refine a_rs fun K hK => ?_   -- region 2
    simp only [go_sem, Nat.reduceAdd, Nat.reduceMul, Nat.reduceEqDiff, Nat.reduceLT, Nat.reduceLeDiff, Nat.reduceBEq, List.length_append, List.length_cons, List.length_nil, h1]
    refine hK _ ?_
    clear hK K
    refine a_ret ⟨trivial, [.keep [2, 3] []], ?_⟩
    simp only [go_sem, Nat.reduceAdd, Nat.reduceMul, Nat.reduceEqDiff, Nat.reduceLT, Nat.reduceLeDiff, Nat.reduceBEq, List.length_append, List.length_cons, List.length_nil, h1]
    refine ⟨_, _, rfl, rfl, rfl, ?_, rfl⟩
    simp only [go_sem, Nat.reduceAdd, Nat.reduceMul, Nat.reduceEqDiff, Nat.reduceLT, Nat.reduceLeDiff, Nat.reduceBEq, List.length_append, List.length_cons, List.length_nil, h1]
    all_goals
      simp at h1; simp [h1]
  try simp only [Bool.not_eq_true', Bool.not_eq_false', Bool.not_not, Bool.not_eq_eq_eq_not, Bool.not_true, Bool.not_false] at h1
  have h1' := h1
  try simp [inr] at h1'
  have hgd : goodDiffs l = true := by simpa using h1
  refine a_skip ?_
  refine hK1 _ ?_
  clear hK1 K1
  refine a_rs fun K hK => ?_   -- region 3
  simp only [go_sem, Nat.reduceAdd, Nat.reduceMul, Nat.reduceEqDiff, Nat.reduceLT, Nat.reduceLeDiff, Nat.reduceBEq, List.length_append, List.length_cons, List.length_nil, h1]
  refine hK _ ?_
  clear hK K
  refine a_seqK fun K2 hK2 => ?_
  refine a_rs fun K hK => ?_   -- region 4
  simp (disch := omega) only [go_sem, Nat.reduceAdd, Nat.reduceMul, Nat.reduceEqDiff, Nat.reduceLT, Nat.reduceLeDiff, Nat.reduceBEq, w64, chk_pos, List.length_append, List.length_cons, List.length_nil, h1]
  refine hK _ ?_
  clear hK K
  refine a_block ?_   -- block 0
  refine a_loopU (ι := Nat) [16, 17] [] (fun i => [(4, .sh (.str ((l.take i).flatMap statLine))), (18, .sh (.int .i64 i))]) (fun i => []) (fun i => i ≤ l.length) (fun i => l.length - i) 0 ?_ ?_ ?_
  · try simp (disch := omega) only [go_sem, Nat.reduceAdd, Nat.reduceMul, Nat.reduceEqDiff, Nat.reduceLT, Nat.reduceLeDiff, Nat.reduceBEq, w64, chk_pos, List.length_append, List.length_cons, List.length_nil, h1]
    try rfl
  · simp
  rintro i hi
  simp only [go_sem, Nat.reduceAdd, Nat.reduceMul, Nat.reduceEqDiff, Nat.reduceLT, Nat.reduceLeDiff, Nat.reduceBEq, List.length_append, List.length_cons, List.length_nil, h1]
  refine a_rs fun K hK => ?_   -- region 5
  simp only [go_sem, Nat.reduceAdd, Nat.reduceMul, Nat.reduceEqDiff, Nat.reduceLT, Nat.reduceLeDiff, Nat.reduceBEq, List.length_append, List.length_cons, List.length_nil, h1]
  refine hK _ ?_
  clear hK K
  refine a_seqK fun K3 hK3 => ?_
  refine a_cond rfl (fun h2 => ?_) (fun h2 => ?_)   -- if t19
  · try simp only [Bool.not_eq_true', Bool.not_eq_false', Bool.not_not, Bool.not_eq_eq_eq_not, Bool.not_true, Bool.not_false] at h2
    have h2' := h2
    try simp [inr] at h2'
    obtain ⟨x, hx⟩ : ∃ x, l[i]? = some x := ⟨_, List.getElem?_eq_getElem h2'⟩
    have hxm := List.mem_of_getElem? hx
    have hxd := hd x hxm
    have hxp := hxd.2.1
    have hxg := goodPart_parts (goodDiffs_mem hgd hxm)
    have hxn := isName_len hxg.1
    have hft : (l.take i).flatMap statLine ++ (x.Name ++ [32, 43] ++ Lib.decDigits (cntG 3 x.Part) ++ [32, 45] ++ Lib.decDigits (cntG 2 x.Part) ++ [10]) = (l.take (i + 1)).flatMap statLine := (flatMap_take statLine hx).symm
    have hlen := statText_take (i := i) hgd
    have hc3 := cntG_le (k := 3) hxg.2
    have hc2 := cntG_le (k := 2) hxg.2
    have hd3 := dec_len (cntG 3 x.Part)
    have hd2 := dec_len (cntG 2 x.Part)
    refine a_skip ?_
    refine hK3 _ ?_
    clear hK3 K3
    refine a_seqK fun K4 hK4 => ?_
    refine a_block ?_   -- block 1
    refine a_rs fun K hK => ?_   -- region 6
    simp (disch := omega) only [go_sem, Nat.reduceAdd, Nat.reduceMul, Nat.reduceEqDiff, Nat.reduceLT, Nat.reduceLeDiff, Nat.reduceBEq, w64, chk_pos, List.length_append, List.length_cons, List.length_nil, h1, h2, hx, hft]
    refine hK _ ?_
    clear hK K
    refine a_rs fun K hK => ?_   -- region 7
    simp only [go_sem, Nat.reduceAdd, Nat.reduceMul, Nat.reduceEqDiff, Nat.reduceLT, Nat.reduceLeDiff, Nat.reduceBEq, List.length_append, List.length_cons, List.length_nil, h1, h2, hx, hft]
    refine hK _ ?_
    clear hK K
    refine a_seqK fun K5 hK5 => ?_
    refine a_rs fun K hK => ?_   -- region 8
    simp (disch := omega) only [go_sem, Nat.reduceAdd, Nat.reduceMul, Nat.reduceEqDiff, Nat.reduceLT, Nat.reduceLeDiff, Nat.reduceBEq, w64, chk_pos, List.length_append, List.length_cons, List.length_nil, h1, h2, hx, hft]
    refine hK _ ?_
    clear hK K
    refine a_block ?_   -- block 2
    refine a_loopU (ι := Nat × Nat × Nat) [4, 6, 16, 17, 18, 23, 24] [6] (fun (j, a, b) => [(7, .sh (.int .i64 a)), (8, .sh (.int .i64 b)), (25, .sh (.int .i64 j))]) (fun (j, a, b) => [(6, [dFD tS x])]) (fun (j, a, b) => j ≤ x.Part.length ∧ a + cntG 3 (x.Part.drop j) = cntG 3 x.Part ∧ b + cntG 2 (x.Part.drop j) = cntG 2 x.Part) (fun (j, a, b) => x.Part.length - j) (0, 0, 0) ?_ ?_ ?_
    · try simp (disch := omega) only [go_sem, Nat.reduceAdd, Nat.reduceMul, Nat.reduceEqDiff, Nat.reduceLT, Nat.reduceLeDiff, Nat.reduceBEq, w64, chk_pos, List.length_append, List.length_cons, List.length_nil, h1, h2, hx, hft]
      try rfl
    · simp
    rintro ⟨j, a, b⟩ hj
    simp only [] at hj
    simp only [go_sem, Nat.reduceAdd, Nat.reduceMul, Nat.reduceEqDiff, Nat.reduceLT, Nat.reduceLeDiff, Nat.reduceBEq, List.length_append, List.length_cons, List.length_nil, h1, h2, hx, hft]
    refine a_rs fun K hK => ?_   -- region 9
    simp only [go_sem, Nat.reduceAdd, Nat.reduceMul, Nat.reduceEqDiff, Nat.reduceLT, Nat.reduceLeDiff, Nat.reduceBEq, List.length_append, List.length_cons, List.length_nil, h1, h2, hx, hft]
    refine hK _ ?_
    clear hK K
    refine a_seqK fun K6 hK6 => ?_
    refine a_cond rfl (fun h3 => ?_) (fun h3 => ?_)   -- if t26
    · try simp only [Bool.not_eq_true', Bool.not_eq_false', Bool.not_not, Bool.not_eq_eq_eq_not, Bool.not_true, Bool.not_false] at h3
      have h3' := h3
      try simp [inr] at h3'
      obtain ⟨g, hgx⟩ : ∃ g, x.Part[j]? = some g := ⟨_, List.getElem?_eq_getElem h3'⟩
      have hgm := List.mem_of_getElem? hgx
      have hgr := hxd.2.2.1 g hgm
      have h3d := cntG_drop (k := 3) hgx
      have h2d := cntG_drop (k := 2) hgx
      refine a_skip ?_
      refine hK6 _ ?_
      clear hK6 K6
      refine a_seqK fun K7 hK7 => ?_
      refine a_block ?_   -- block 3
      refine a_rs fun K hK => ?_   -- region 10
      simp (disch := omega) only [go_sem, Nat.reduceAdd, Nat.reduceMul, Nat.reduceEqDiff, Nat.reduceLT, Nat.reduceLeDiff, Nat.reduceBEq, w64, chk_pos, List.length_append, List.length_cons, List.length_nil, h1, h2, hx, hft, h3, hgx]
      refine hK _ ?_
      clear hK K
      refine a_rs fun K hK => ?_   -- region 11
      simp (disch := omega) only [go_sem, Nat.reduceAdd, Nat.reduceMul, Nat.reduceEqDiff, Nat.reduceLT, Nat.reduceLeDiff, Nat.reduceBEq, w64, chk_pos, List.length_append, List.length_cons, List.length_nil, h1, h2, hx, hft, h3, hgx]
      refine hK _ ?_
      clear hK K
      refine a_block ?_   -- block 4
      refine a_loopU (ι := Nat × Nat × Nat) [4, 6, 16, 17, 18, 23, 24, 25, 30, 31] [6, 10] (fun (m, c, e) => [(7, .sh (.int .i64 c)), (8, .sh (.int .i64 e)), (32, .sh (.int .i64 m))]) (fun (m, c, e) => [(10, [dGroup tS g]), (6, [dFD tS x])]) (fun (m, c, e) => m ≤ g.Rows.length ∧ c + cntR 3 (g.Rows.drop m) = a + cntR 3 g.Rows ∧ e + cntR 2 (g.Rows.drop m) = b + cntR 2 g.Rows) (fun (m, c, e) => g.Rows.length - m) (0, a, b) ?_ ?_ ?_
      · try simp (disch := omega) only [go_sem, Nat.reduceAdd, Nat.reduceMul, Nat.reduceEqDiff, Nat.reduceLT, Nat.reduceLeDiff, Nat.reduceBEq, w64, chk_pos, List.length_append, List.length_cons, List.length_nil, h1, h2, hx, hft, h3, hgx]
        try rfl
      · simp
      rintro ⟨m, c, e⟩ hm
      simp only [] at hm
      simp only [go_sem, Nat.reduceAdd, Nat.reduceMul, Nat.reduceEqDiff, Nat.reduceLT, Nat.reduceLeDiff, Nat.reduceBEq, List.length_append, List.length_cons, List.length_nil, h1, h2, hx, hft, h3, hgx]
      refine a_rs fun K hK => ?_   -- region 12
      simp only [go_sem, Nat.reduceAdd, Nat.reduceMul, Nat.reduceEqDiff, Nat.reduceLT, Nat.reduceLeDiff, Nat.reduceBEq, List.length_append, List.length_cons, List.length_nil, h1, h2, hx, hft, h3, hgx]
      refine hK _ ?_
      clear hK K
      refine a_seqK fun K8 hK8 => ?_
      refine a_cond rfl (fun h4 => ?_) (fun h4 => ?_)   -- if t33
      · try simp only [Bool.not_eq_true', Bool.not_eq_false', Bool.not_not, Bool.not_eq_eq_eq_not, Bool.not_true, Bool.not_false] at h4
        have h4' := h4
        try simp [inr] at h4'
        obtain ⟨r, hrr⟩ : ∃ r, g.Rows[m]? = some r := ⟨_, List.getElem?_eq_getElem h4'⟩
        have h3r := cntR_drop (k := 3) hrr
        have h2r := cntR_drop (k := 2) hrr
        refine a_skip ?_
        refine hK8 _ ?_
        clear hK8 K8
        refine a_seqK fun K9 hK9 => ?_
        refine a_block ?_   -- block 5
        refine a_rs fun K hK => ?_   -- region 13
        simp (disch := omega) only [go_sem, Nat.reduceAdd, Nat.reduceMul, Nat.reduceEqDiff, Nat.reduceLT, Nat.reduceLeDiff, Nat.reduceBEq, w64, chk_pos, List.length_append, List.length_cons, List.length_nil, h1, h2, hx, hft, h3, hgx, h4, hrr]
        refine hK _ ?_
        clear hK K
        refine a_rs fun K hK => ?_   -- region 14
        simp only [go_sem, Nat.reduceAdd, Nat.reduceMul, Nat.reduceEqDiff, Nat.reduceLT, Nat.reduceLeDiff, Nat.reduceBEq, List.length_append, List.length_cons, List.length_nil, h1, h2, hx, hft, h3, hgx, h4, hrr]
        refine hK _ ?_
        clear hK K
        refine a_block ?_   -- block 6
        refine a_rs fun K hK => ?_   -- region 15
        simp only [go_sem, Nat.reduceAdd, Nat.reduceMul, Nat.reduceEqDiff, Nat.reduceLT, Nat.reduceLeDiff, Nat.reduceBEq, List.length_append, List.length_cons, List.length_nil, h1, h2, hx, hft, h3, hgx, h4, hrr]
        refine hK _ ?_
        clear hK K
        refine a_cond rfl (fun h5 => ?_) (fun h5 => ?_)   -- if t38
        · try simp only [Bool.not_eq_true', Bool.not_eq_false', Bool.not_not, Bool.not_eq_eq_eq_not, Bool.not_true, Bool.not_false] at h5
          have h5' := h5
          try simp [inr] at h5'
          refine a_regP ?_
          simp (disch := omega) only [go_sem, Nat.reduceAdd, Nat.reduceMul, Nat.reduceEqDiff, Nat.reduceLT, Nat.reduceLeDiff, Nat.reduceBEq, w64, chk_pos, List.length_append, List.length_cons, List.length_nil, h1, h2, hx, hft, h3, hgx, h4, hrr, h5]
          refine hK9 _ ?_
          clear hK9 K9
          refine a_regP ?_
          simp (disch := omega) only [go_sem, Nat.reduceAdd, Nat.reduceMul, Nat.reduceEqDiff, Nat.reduceLT, Nat.reduceLeDiff, Nat.reduceBEq, w64, chk_pos, List.length_append, List.length_cons, List.length_nil, h1, h2, hx, hft, h3, hgx, h4, hrr, h5]
          refine ⟨(m + 1, c + 1, e), ?_, ?_, ?_⟩   -- round E1
          · try simp (disch := omega) only [go_sem, Nat.reduceAdd, Nat.reduceMul, Nat.reduceEqDiff, Nat.reduceLT, Nat.reduceLeDiff, Nat.reduceBEq, w64, chk_pos, List.length_append, List.length_cons, List.length_nil, h1, h2, hx, hft, h3, hgx, h4, hrr, h5]
            try rfl
          all_goals try dsimp only
          · simp [isK, h5'] at h3r h2r
            omega
          · omega
        try simp only [Bool.not_eq_true', Bool.not_eq_false', Bool.not_not, Bool.not_eq_eq_eq_not, Bool.not_true, Bool.not_false] at h5
        have h5' := h5
        try simp [inr] at h5'
        refine a_rs fun K hK => ?_   -- region 17
        simp only [go_sem, Nat.reduceAdd, Nat.reduceMul, Nat.reduceEqDiff, Nat.reduceLT, Nat.reduceLeDiff, Nat.reduceBEq, List.length_append, List.length_cons, List.length_nil, h1, h2, hx, hft, h3, hgx, h4, hrr, h5]
        refine hK _ ?_
        clear hK K
        refine a_cond rfl (fun h6 => ?_) (fun h6 => ?_)   -- if t42
        · try simp only [Bool.not_eq_true', Bool.not_eq_false', Bool.not_not, Bool.not_eq_eq_eq_not, Bool.not_true, Bool.not_false] at h6
          have h6' := h6
          try simp [inr] at h6'
          refine a_regP ?_
          simp (disch := omega) only [go_sem, Nat.reduceAdd, Nat.reduceMul, Nat.reduceEqDiff, Nat.reduceLT, Nat.reduceLeDiff, Nat.reduceBEq, w64, chk_pos, List.length_append, List.length_cons, List.length_nil, h1, h2, hx, hft, h3, hgx, h4, hrr, h5, h6]
          refine hK9 _ ?_
          clear hK9 K9
          refine a_regP ?_
          simp (disch := omega) only [go_sem, Nat.reduceAdd, Nat.reduceMul, Nat.reduceEqDiff, Nat.reduceLT, Nat.reduceLeDiff, Nat.reduceBEq, w64, chk_pos, List.length_append, List.length_cons, List.length_nil, h1, h2, hx, hft, h3, hgx, h4, hrr, h5, h6]
          refine ⟨(m + 1, c, e + 1), ?_, ?_, ?_⟩   -- round E2
          · try simp (disch := omega) only [go_sem, Nat.reduceAdd, Nat.reduceMul, Nat.reduceEqDiff, Nat.reduceLT, Nat.reduceLeDiff, Nat.reduceBEq, w64, chk_pos, List.length_append, List.length_cons, List.length_nil, h1, h2, hx, hft, h3, hgx, h4, hrr, h5, h6]
            try rfl
          all_goals try dsimp only
          · simp [isK, h6'] at h3r h2r
            omega
          · omega
        try simp only [Bool.not_eq_true', Bool.not_eq_false', Bool.not_not, Bool.not_eq_eq_eq_not, Bool.not_true, Bool.not_false] at h6
        have h6' := h6
        try simp [inr] at h6'
        refine a_skip ?_
        refine hK9 _ ?_
        clear hK9 K9
        refine a_regP ?_
        simp (disch := omega) only [go_sem, Nat.reduceAdd, Nat.reduceMul, Nat.reduceEqDiff, Nat.reduceLT, Nat.reduceLeDiff, Nat.reduceBEq, w64, chk_pos, List.length_append, List.length_cons, List.length_nil, h1, h2, hx, hft, h3, hgx, h4, hrr, h5, h6]
        refine ⟨(m + 1, c, e), ?_, ?_, ?_⟩   -- round E3
        · try simp (disch := omega) only [go_sem, Nat.reduceAdd, Nat.reduceMul, Nat.reduceEqDiff, Nat.reduceLT, Nat.reduceLeDiff, Nat.reduceBEq, w64, chk_pos, List.length_append, List.length_cons, List.length_nil, h1, h2, hx, hft, h3, hgx, h4, hrr, h5, h6]
          try rfl
        all_goals try dsimp only
        · simp [isK, h5', h6'] at h3r h2r
          omega
        · omega
      try simp only [Bool.not_eq_true', Bool.not_eq_false', Bool.not_not, Bool.not_eq_eq_eq_not, Bool.not_true, Bool.not_false] at h4
      have h4' := h4
      try simp [inr] at h4'
      refine a_exit ?_
      simp only [go_sem, Nat.reduceAdd, Nat.reduceMul, Nat.reduceEqDiff, Nat.reduceLT, Nat.reduceLeDiff, Nat.reduceBEq, List.length_append, List.length_cons, List.length_nil, h1, h2, hx, hft, h3, hgx, h4]
      clear hK8 K8
      refine hK7 _ ?_
      clear hK7 K7
      refine a_regP ?_
      simp (disch := omega) only [go_sem, Nat.reduceAdd, Nat.reduceMul, Nat.reduceEqDiff, Nat.reduceLT, Nat.reduceLeDiff, Nat.reduceBEq, w64, chk_pos, List.length_append, List.length_cons, List.length_nil, h1, h2, hx, hft, h3, hgx, h4]
      refine ⟨(j + 1, c, e), ?_, ?_, ?_⟩   -- round E4
      · try simp (disch := omega) only [go_sem, Nat.reduceAdd, Nat.reduceMul, Nat.reduceEqDiff, Nat.reduceLT, Nat.reduceLeDiff, Nat.reduceBEq, w64, chk_pos, List.length_append, List.length_cons, List.length_nil, h1, h2, hx, hft, h3, hgx, h4]
        try rfl
      all_goals try dsimp only
      · have := cntR_end (k := 3) (l := g.Rows) (i := m) (by omega)
        have := cntR_end (k := 2) (l := g.Rows) (i := m) (by omega)
        omega
      · omega
    try simp only [Bool.not_eq_true', Bool.not_eq_false', Bool.not_not, Bool.not_eq_eq_eq_not, Bool.not_true, Bool.not_false] at h3
    have h3' := h3
    try simp [inr] at h3'
    obtain rfl : a = cntG 3 x.Part := by have := cntG_end (k := 3) (l := x.Part) (i := j) (by omega); omega
    obtain rfl : b = cntG 2 x.Part := by have := cntG_end (k := 2) (l := x.Part) (i := j) (by omega); omega
    refine a_exit ?_
    simp only [go_sem, Nat.reduceAdd, Nat.reduceMul, Nat.reduceEqDiff, Nat.reduceLT, Nat.reduceLeDiff, Nat.reduceBEq, List.length_append, List.length_cons, List.length_nil, h1, h2, hx, hft, h3]
    clear hK6 K6
    refine hK5 _ ?_
    clear hK5 K5
    refine a_regD rfl fun K I hK hI => ?_   -- region 21
    simp (disch := omega) only [go_sem, Nat.reduceAdd, Nat.reduceMul, Nat.reduceEqDiff, Nat.reduceLT, Nat.reduceLeDiff, Nat.reduceBEq, w64, chk_pos, List.length_append, List.length_cons, List.length_nil, h1, h2, hx, hft, h3]
    refine r_callD0 rfl rfl rfl rfl rfl (spec_spec_l1Num (cntG 3 x.Part) (by omega)) (by first | rfl | (simp only [go_sem, Nat.reduceAdd, Nat.reduceMul, Nat.reduceEqDiff, Nat.reduceLT, Nat.reduceLeDiff, Nat.reduceBEq, List.length_append, List.length_cons, List.length_nil, h1, h2, hx, hft, h3]; done) | (simp only [go_sem, Nat.reduceAdd, Nat.reduceMul, Nat.reduceEqDiff, Nat.reduceLT, Nat.reduceLeDiff, Nat.reduceBEq, List.length_append, List.length_cons, List.length_nil, h1, h2, hx, hft, h3]; rfl)) (by first | rfl | (simp [AV.okIds, AV.ok1]; done)) (by rfl) ?_
    simp (disch := omega) only [go_sem, Nat.reduceAdd, Nat.reduceMul, Nat.reduceEqDiff, Nat.reduceLT, Nat.reduceLeDiff, Nat.reduceBEq, w64, chk_pos, List.length_append, List.length_cons, List.length_nil, h1, h2, hx, hft, h3]
    refine r_callD0 rfl rfl rfl rfl rfl (spec_spec_l1Num (cntG 2 x.Part) (by omega)) (by first | rfl | (simp only [go_sem, Nat.reduceAdd, Nat.reduceMul, Nat.reduceEqDiff, Nat.reduceLT, Nat.reduceLeDiff, Nat.reduceBEq, List.length_append, List.length_cons, List.length_nil, h1, h2, hx, hft, h3]; done) | (simp only [go_sem, Nat.reduceAdd, Nat.reduceMul, Nat.reduceEqDiff, Nat.reduceLT, Nat.reduceLeDiff, Nat.reduceBEq, List.length_append, List.length_cons, List.length_nil, h1, h2, hx, hft, h3]; rfl)) (by first | rfl | (simp [AV.okIds, AV.ok1]; done)) (by rfl) ?_
    simp (disch := omega) only [go_sem, Nat.reduceAdd, Nat.reduceMul, Nat.reduceEqDiff, Nat.reduceLT, Nat.reduceLeDiff, Nat.reduceBEq, w64, chk_pos, List.length_append, List.length_cons, List.length_nil, h1, h2, hx, hft, h3]
    refine ⟨hI _ (by first | kernel_rfl | rfl), hK _ ?_⟩
    clear hK hI K I
    refine hK4 _ ?_
    clear hK4 K4
    refine a_regP ?_
    simp (disch := omega) only [go_sem, Nat.reduceAdd, Nat.reduceMul, Nat.reduceEqDiff, Nat.reduceLT, Nat.reduceLeDiff, Nat.reduceBEq, w64, chk_pos, List.length_append, List.length_cons, List.length_nil, h1, h2, hx, hft, h3]
    refine ⟨i + 1, ?_, ?_, ?_⟩   -- round E5
    · try simp (disch := omega) only [go_sem, Nat.reduceAdd, Nat.reduceMul, Nat.reduceEqDiff, Nat.reduceLT, Nat.reduceLeDiff, Nat.reduceBEq, w64, chk_pos, List.length_append, List.length_cons, List.length_nil, h1, h2, hx, hft, h3]
      try rfl
    all_goals try dsimp only
    · omega
    · omega
  try simp only [Bool.not_eq_true', Bool.not_eq_false', Bool.not_not, Bool.not_eq_eq_eq_not, Bool.not_true, Bool.not_false] at h2
  have h2' := h2
  try simp [inr] at h2'
  refine a_exit ?_
  simp only [go_sem, Nat.reduceAdd, Nat.reduceMul, Nat.reduceEqDiff, Nat.reduceLT, Nat.reduceLeDiff, Nat.reduceBEq, List.length_append, List.length_cons, List.length_nil, h1, h2]
  clear hK3 K3
  refine hK2 _ ?_
  clear hK2 K2
  refine a_rs fun K hK => ?_   -- region 23
  simp only [go_sem, Nat.reduceAdd, Nat.reduceMul, Nat.reduceEqDiff, Nat.reduceLT, Nat.reduceLeDiff, Nat.reduceBEq, List.length_append, List.length_cons, List.length_nil, h1, h2]
  refine hK _ ?_
  clear hK K
  refine a_ret ⟨trivial, [.keep [2, 3] []], ?_⟩
  simp only [go_sem, Nat.reduceAdd, Nat.reduceMul, Nat.reduceEqDiff, Nat.reduceLT, Nat.reduceLeDiff, Nat.reduceBEq, List.length_append, List.length_cons, List.length_nil, h1, h2]
  refine ⟨_, _, rfl, rfl, rfl, ?_, rfl⟩
  simp only [go_sem, Nat.reduceAdd, Nat.reduceMul, Nat.reduceEqDiff, Nat.reduceLT, Nat.reduceLeDiff, Nat.reduceBEq, List.length_append, List.length_cons, List.length_nil, h1, h2]
  all_goals
    obtain rfl : i = l.length := by omega
    simp [hgd, statText]

theorem nm_impl_StatText : (Tryd.f16.name == "runtime.NumGoroutine") = false := by kernel_rfl
theorem spec_impl_StatText (l : List FDiff) (hl : l.length ≤ 1099511627776) (hd : ∀ d ∈ l, FDok d) :
    Spec Tryd.prog 16 [.sh (.sl 0 (l.map (dFD tS)))] [] (.tup [.sh (.str (if goodDiffs l then statText l else [])), .sh (.bool (goodDiffs l))]) [] := by
  refine spec_of_awp hm (tkT [19000]) Tryd.func16 rfl nm_impl_StatText ?_
  rw [Tryd.ntmps16, Sp_start (by simp)]
  simp only [go_sem, Nat.reduceAdd, Nat.reduceMul, Nat.reduceEqDiff, Nat.reduceLT, Nat.reduceLeDiff, Nat.reduceBEq, List.length_append, List.length_cons, List.length_nil, Nat.mul_one, Int.reduceToNat, if_pos]
  refine a_rs fun K hK => ?_   -- region 0
  simp only [go_sem, Nat.reduceAdd, Nat.reduceMul, Nat.reduceEqDiff, Nat.reduceLT, Nat.reduceLeDiff, Nat.reduceBEq, List.length_append, List.length_cons, List.length_nil, Nat.mul_one, Int.reduceToNat, if_pos]
  refine hK _ ?_
  clear hK K
  refine a_seqK fun K1 hK1 => ?_
  refine a_rs fun K hK => ?_   -- region 1
  simp only [go_sem, Nat.reduceAdd, Nat.reduceMul, Nat.reduceEqDiff, Nat.reduceLT, Nat.reduceLeDiff, Nat.reduceBEq, List.length_append, List.length_cons, List.length_nil, Nat.mul_one, Int.reduceToNat, if_pos]
  refine r_callT rfl rfl rfl rfl rfl (spec_impl_goodDiffs l hl hd) (by first | rfl | (simp only [go_sem, Nat.reduceAdd, Nat.reduceMul, Nat.reduceEqDiff, Nat.reduceLT, Nat.reduceLeDiff, Nat.reduceBEq, List.length_append, List.length_cons, List.length_nil, Nat.mul_one, Int.reduceToNat, if_pos]; done) | (simp only [go_sem, Nat.reduceAdd, Nat.reduceMul, Nat.reduceEqDiff, Nat.reduceLT, Nat.reduceLeDiff, Nat.reduceBEq, List.length_append, List.length_cons, List.length_nil, Nat.mul_one, Int.reduceToNat, if_pos]; rfl)) (by first | rfl | (simp [AV.okIds, AV.ok1]; done)) (by rfl) ?_
  simp only [go_sem, Nat.reduceAdd, Nat.reduceMul, Nat.reduceEqDiff, Nat.reduceLT, Nat.reduceLeDiff, Nat.reduceBEq, List.length_append, List.length_cons, List.length_nil, Nat.mul_one, Int.reduceToNat, if_pos]
  refine hK _ ?_
  clear hK K
  refine a_cond rfl (fun h1 => ?_) (fun h1 => ?_)   -- if t14
  · try simp only [Bool.not_eq_true', Bool.not_eq_false', Bool.not_not, Bool.not_eq_eq_eq_not, Bool.not_true, Bool.not_false] at h1
    have h1' := h1
    try simp [inr] at h1'
    refine a_rs fun K hK => ?_   -- region 2
    simp only [go_sem, Nat.reduceAdd, Nat.reduceMul, Nat.reduceEqDiff, Nat.reduceLT, Nat.reduceLeDiff, Nat.reduceBEq, List.length_append, List.length_cons, List.length_nil, Nat.mul_one, Int.reduceToNat, if_pos, h1]
    refine hK _ ?_
    clear hK K
    refine a_ret ⟨trivial, [.keep [2, 3] []], ?_⟩
    simp only [go_sem, Nat.reduceAdd, Nat.reduceMul, Nat.reduceEqDiff, Nat.reduceLT, Nat.reduceLeDiff, Nat.reduceBEq, List.length_append, List.length_cons, List.length_nil, Nat.mul_one, Int.reduceToNat, if_pos, h1]
    refine ⟨_, _, rfl, rfl, rfl, ?_, rfl⟩
    simp only [go_sem, Nat.reduceAdd, Nat.reduceMul, Nat.reduceEqDiff, Nat.reduceLT, Nat.reduceLeDiff, Nat.reduceBEq, List.length_append, List.length_cons, List.length_nil, Nat.mul_one, Int.reduceToNat, if_pos, h1]
    all_goals
      simp at h1; simp [h1]
  try simp only [Bool.not_eq_true', Bool.not_eq_false', Bool.not_not, Bool.not_eq_eq_eq_not, Bool.not_true, Bool.not_false] at h1
  have h1' := h1
  try simp [inr] at h1'
  have hgd : goodDiffs l = true := by simpa using h1
  refine a_skip ?_
  refine hK1 _ ?_
  clear hK1 K1
  refine a_rs fun K hK => ?_   -- region 3
  simp only [go_sem, Nat.reduceAdd, Nat.reduceMul, Nat.reduceEqDiff, Nat.reduceLT, Nat.reduceLeDiff, Nat.reduceBEq, List.length_append, List.length_cons, List.length_nil, Nat.mul_one, Int.reduceToNat, if_pos, h1]
  refine hK _ ?_
  clear hK K
  refine a_seqK fun K2 hK2 => ?_
  refine a_rs fun K hK => ?_   -- region 4
  simp (disch := omega) only [go_sem, Nat.reduceAdd, Nat.reduceMul, Nat.reduceEqDiff, Nat.reduceLT, Nat.reduceLeDiff, Nat.reduceBEq, w64, chk_pos, List.length_append, List.length_cons, List.length_nil, Nat.mul_one, Int.reduceToNat, if_pos, h1]
  refine hK _ ?_
  clear hK K
  refine a_block ?_   -- block 0
  refine a_loopU (ι := Nat) [15, 16] [] (fun i => [(4, .sh (.str ((l.take i).flatMap statLine))), (17, .sh (.int .i64 i))]) (fun i => []) (fun i => i ≤ l.length) (fun i => l.length - i) 0 ?_ ?_ ?_
  · try simp (disch := omega) only [go_sem, Nat.reduceAdd, Nat.reduceMul, Nat.reduceEqDiff, Nat.reduceLT, Nat.reduceLeDiff, Nat.reduceBEq, w64, chk_pos, List.length_append, List.length_cons, List.length_nil, Nat.mul_one, Int.reduceToNat, if_pos, h1]
    try rfl
  · simp
  rintro i hi
  simp only [go_sem, Nat.reduceAdd, Nat.reduceMul, Nat.reduceEqDiff, Nat.reduceLT, Nat.reduceLeDiff, Nat.reduceBEq, List.length_append, List.length_cons, List.length_nil, Nat.mul_one, Int.reduceToNat, if_pos, h1]
  refine a_rs fun K hK => ?_   -- region 5
  simp only [go_sem, Nat.reduceAdd, Nat.reduceMul, Nat.reduceEqDiff, Nat.reduceLT, Nat.reduceLeDiff, Nat.reduceBEq, List.length_append, List.length_cons, List.length_nil, Nat.mul_one, Int.reduceToNat, if_pos, h1]
  refine hK _ ?_
  clear hK K
  refine a_seqK fun K3 hK3 => ?_
  refine a_cond rfl (fun h2 => ?_) (fun h2 => ?_)   -- if t18
  · try simp only [Bool.not_eq_true', Bool.not_eq_false', Bool.not_not, Bool.not_eq_eq_eq_not, Bool.not_true, Bool.not_false] at h2
    have h2' := h2
    try simp [inr] at h2'
    obtain ⟨x, hx⟩ : ∃ x, l[i]? = some x := ⟨_, List.getElem?_eq_getElem h2'⟩
    have hxm := List.mem_of_getElem? hx
    have hxd := hd x hxm
    have hxp := hxd.2.1
    have hxg := goodPart_parts (goodDiffs_mem hgd hxm)
    have hxn := isName_len hxg.1
    have hft : (l.take i).flatMap statLine ++ (x.Name ++ [32, 43] ++ Lib.decDigits (cntG 3 x.Part) ++ [32, 45] ++ Lib.decDigits (cntG 2 x.Part) ++ [10]) = (l.take (i + 1)).flatMap statLine := (flatMap_take statLine hx).symm
    have hlen := statText_take (i := i) hgd
    have hc3 := cntG_le (k := 3) hxg.2
    have hc2 := cntG_le (k := 2) hxg.2
    have hc1 := cntG_le (k := 1) hxg.2
    have hd3 := dec_len (cntG 3 x.Part)
    have hd2 := dec_len (cntG 2 x.Part)
    refine a_skip ?_
    refine hK3 _ ?_
    clear hK3 K3
    refine a_seqK fun K4 hK4 => ?_
    refine a_block ?_   -- block 1
    refine a_rs fun K hK => ?_   -- region 6
    simp (disch := omega) only [go_sem, Nat.reduceAdd, Nat.reduceMul, Nat.reduceEqDiff, Nat.reduceLT, Nat.reduceLeDiff, Nat.reduceBEq, w64, chk_pos, List.length_append, List.length_cons, List.length_nil, Nat.mul_one, Int.reduceToNat, if_pos, h1, h2, hx, hft]
    refine hK _ ?_
    clear hK K
    refine a_rs fun K hK => ?_   -- region 7
    simp (disch := omega) only [go_sem, Nat.reduceAdd, Nat.reduceMul, Nat.reduceEqDiff, Nat.reduceLT, Nat.reduceLeDiff, Nat.reduceBEq, w64, chk_pos, List.length_append, List.length_cons, List.length_nil, Nat.mul_one, Int.reduceToNat, if_pos, h1, h2, hx, hft]
    refine hK _ ?_
    clear hK K
    refine a_seqK fun K5 hK5 => ?_
    refine a_rs fun K hK => ?_   -- region 8
    simp (disch := omega) only [go_sem, Nat.reduceAdd, Nat.reduceMul, Nat.reduceEqDiff, Nat.reduceLT, Nat.reduceLeDiff, Nat.reduceBEq, w64, chk_pos, List.length_append, List.length_cons, List.length_nil, Nat.mul_one, Int.reduceToNat, if_pos, h1, h2, hx, hft]
    refine hK _ ?_
    clear hK K
    refine a_block ?_   -- block 2
    refine a_loopU (ι := Nat × Nat × Nat × Nat) [4, 6, 7, 15, 16, 17, 23, 24] [6, 7] (fun (j, o, b, a) => [(25, .sh (.int .i64 j))]) (fun (j, o, b, a) => [(7, [.agg [.int .i64 0, .int .i64 o, .int .i64 b, .int .i64 a]]), (6, [dFD tS x])]) (fun (j, o, b, a) => j ≤ x.Part.length ∧ a + cntG 3 (x.Part.drop j) = cntG 3 x.Part ∧ b + cntG 2 (x.Part.drop j) = cntG 2 x.Part ∧ o + cntG 1 (x.Part.drop j) = cntG 1 x.Part) (fun (j, o, b, a) => x.Part.length - j) (0, 0, 0, 0) ?_ ?_ ?_
    · try simp (disch := omega) only [go_sem, Nat.reduceAdd, Nat.reduceMul, Nat.reduceEqDiff, Nat.reduceLT, Nat.reduceLeDiff, Nat.reduceBEq, w64, chk_pos, List.length_append, List.length_cons, List.length_nil, Nat.mul_one, Int.reduceToNat, if_pos, h1, h2, hx, hft]
      try rfl
    · simp
    rintro ⟨j, o, b, a⟩ hj
    simp only [] at hj
    simp only [go_sem, Nat.reduceAdd, Nat.reduceMul, Nat.reduceEqDiff, Nat.reduceLT, Nat.reduceLeDiff, Nat.reduceBEq, List.length_append, List.length_cons, List.length_nil, Nat.mul_one, Int.reduceToNat, if_pos, h1, h2, hx, hft]
    refine a_rs fun K hK => ?_   -- region 9
    simp only [go_sem, Nat.reduceAdd, Nat.reduceMul, Nat.reduceEqDiff, Nat.reduceLT, Nat.reduceLeDiff, Nat.reduceBEq, List.length_append, List.length_cons, List.length_nil, Nat.mul_one, Int.reduceToNat, if_pos, h1, h2, hx, hft]
    refine hK _ ?_
    clear hK K
    refine a_seqK fun K6 hK6 => ?_
    refine a_cond rfl (fun h3 => ?_) (fun h3 => ?_)   -- if t26
    · try simp only [Bool.not_eq_true', Bool.not_eq_false', Bool.not_not, Bool.not_eq_eq_eq_not, Bool.not_true, Bool.not_false] at h3
      have h3' := h3
      try simp [inr] at h3'
      obtain ⟨g, hgx⟩ : ∃ g, x.Part[j]? = some g := ⟨_, List.getElem?_eq_getElem h3'⟩
      have hgm := List.mem_of_getElem? hgx
      have hgr := hxd.2.2.1 g hgm
      have hgk := goodGroup_rowsOk (goodGroups_mem hxg.2 hgm)
      have h3d := cntG_drop (k := 3) hgx
      have h2d := cntG_drop (k := 2) hgx
      have h1d := cntG_drop (k := 1) hgx
      refine a_skip ?_
      refine hK6 _ ?_
      clear hK6 K6
      refine a_seqK fun K7 hK7 => ?_
      refine a_block ?_   -- block 3
      refine a_rs fun K hK => ?_   -- region 10
      simp (disch := omega) only [go_sem, Nat.reduceAdd, Nat.reduceMul, Nat.reduceEqDiff, Nat.reduceLT, Nat.reduceLeDiff, Nat.reduceBEq, w64, chk_pos, List.length_append, List.length_cons, List.length_nil, Nat.mul_one, Int.reduceToNat, if_pos, h1, h2, hx, hft, h3, hgx]
      refine hK _ ?_
      clear hK K
      refine a_rs fun K hK => ?_   -- region 11
      simp (disch := omega) only [go_sem, Nat.reduceAdd, Nat.reduceMul, Nat.reduceEqDiff, Nat.reduceLT, Nat.reduceLeDiff, Nat.reduceBEq, w64, chk_pos, List.length_append, List.length_cons, List.length_nil, Nat.mul_one, Int.reduceToNat, if_pos, h1, h2, hx, hft, h3, hgx]
      refine hK _ ?_
      clear hK K
      refine a_block ?_   -- block 4
      refine a_loopU (ι := Nat × Nat × Nat × Nat) [4, 6, 7, 15, 16, 17, 23, 24, 25, 30, 31] [6, 7, 9] (fun (m, d, e, c) => [(32, .sh (.int .i64 m))]) (fun (m, d, e, c) => [(9, [dGroup tS g]), (7, [.agg [.int .i64 0, .int .i64 d, .int .i64 e, .int .i64 c]]), (6, [dFD tS x])]) (fun (m, d, e, c) => m ≤ g.Rows.length ∧ c + cntR 3 (g.Rows.drop m) = a + cntR 3 g.Rows ∧ e + cntR 2 (g.Rows.drop m) = b + cntR 2 g.Rows ∧ d + cntR 1 (g.Rows.drop m) = o + cntR 1 g.Rows) (fun (m, d, e, c) => g.Rows.length - m) (0, o, b, a) ?_ ?_ ?_
      · try simp (disch := omega) only [go_sem, Nat.reduceAdd, Nat.reduceMul, Nat.reduceEqDiff, Nat.reduceLT, Nat.reduceLeDiff, Nat.reduceBEq, w64, chk_pos, List.length_append, List.length_cons, List.length_nil, Nat.mul_one, Int.reduceToNat, if_pos, h1, h2, hx, hft, h3, hgx]
        try rfl
      · simp
      rintro ⟨m, d, e, c⟩ hm
      simp only [] at hm
      simp only [go_sem, Nat.reduceAdd, Nat.reduceMul, Nat.reduceEqDiff, Nat.reduceLT, Nat.reduceLeDiff, Nat.reduceBEq, List.length_append, List.length_cons, List.length_nil, Nat.mul_one, Int.reduceToNat, if_pos, h1, h2, hx, hft, h3, hgx]
      refine a_rs fun K hK => ?_   -- region 12
      simp only [go_sem, Nat.reduceAdd, Nat.reduceMul, Nat.reduceEqDiff, Nat.reduceLT, Nat.reduceLeDiff, Nat.reduceBEq, List.length_append, List.length_cons, List.length_nil, Nat.mul_one, Int.reduceToNat, if_pos, h1, h2, hx, hft, h3, hgx]
      refine hK _ ?_
      clear hK K
      refine a_seqK fun K8 hK8 => ?_
      refine a_cond rfl (fun h4 => ?_) (fun h4 => ?_)   -- if t33
      · try simp only [Bool.not_eq_true', Bool.not_eq_false', Bool.not_not, Bool.not_eq_eq_eq_not, Bool.not_true, Bool.not_false] at h4
        have h4' := h4
        try simp [inr] at h4'
        obtain ⟨r, hrr⟩ : ∃ r, g.Rows[m]? = some r := ⟨_, List.getElem?_eq_getElem h4'⟩
        have hk := hgk r (List.mem_of_getElem? hrr)
        have h3r := cntR_drop (k := 3) hrr
        have h2r := cntR_drop (k := 2) hrr
        have h1r := cntR_drop (k := 1) hrr
        have hs := sel4_le (k := r.Kind) (a := d) (b := e) (c := c) (n := 1600) (by omega) (by omega) (by omega)
        have hsg := sel4_get (k := r.Kind) ⟨hk.1, hk.2.1⟩ d e c
        have hss := sel4_set (r := r) ⟨hk.1, hk.2.1⟩ d e c
        refine a_skip ?_
        refine hK8 _ ?_
        clear hK8 K8
        refine a_seqK fun K9 hK9 => ?_
        refine a_block ?_   -- block 5
        refine a_rs fun K hK => ?_   -- region 13
        simp (disch := omega) only [go_sem, Nat.reduceAdd, Nat.reduceMul, Nat.reduceEqDiff, Nat.reduceLT, Nat.reduceLeDiff, Nat.reduceBEq, w64, chk_pos, List.length_append, List.length_cons, List.length_nil, Nat.mul_one, Int.reduceToNat, if_pos, h1, h2, hx, hft, h3, hgx, h4, hrr, hsg, hss]
        refine hK _ ?_
        clear hK K
        refine a_regP ?_
        simp (disch := omega) only [go_sem, Nat.reduceAdd, Nat.reduceMul, Nat.reduceEqDiff, Nat.reduceLT, Nat.reduceLeDiff, Nat.reduceBEq, w64, chk_pos, List.length_append, List.length_cons, List.length_nil, Nat.mul_one, Int.reduceToNat, if_pos, h1, h2, hx, hft, h3, hgx, h4, hrr, hsg, hss]
        refine hK9 _ ?_
        clear hK9 K9
        refine a_regP ?_
        simp (disch := omega) only [go_sem, Nat.reduceAdd, Nat.reduceMul, Nat.reduceEqDiff, Nat.reduceLT, Nat.reduceLeDiff, Nat.reduceBEq, w64, chk_pos, List.length_append, List.length_cons, List.length_nil, Nat.mul_one, Int.reduceToNat, if_pos, h1, h2, hx, hft, h3, hgx, h4, hrr, hsg, hss]
        refine ⟨(m + 1, d + isK 1 r, e + isK 2 r, c + isK 3 r), ?_, ?_, ?_⟩   -- round E1
        · try simp (disch := omega) only [go_sem, Nat.reduceAdd, Nat.reduceMul, Nat.reduceEqDiff, Nat.reduceLT, Nat.reduceLeDiff, Nat.reduceBEq, w64, chk_pos, List.length_append, List.length_cons, List.length_nil, Nat.mul_one, Int.reduceToNat, if_pos, h1, h2, hx, hft, h3, hgx, h4, hrr, hsg, hss]
          try rfl
        all_goals try dsimp only
        · omega
        · omega
      try simp only [Bool.not_eq_true', Bool.not_eq_false', Bool.not_not, Bool.not_eq_eq_eq_not, Bool.not_true, Bool.not_false] at h4
      have h4' := h4
      try simp [inr] at h4'
      refine a_exit ?_
      simp only [go_sem, Nat.reduceAdd, Nat.reduceMul, Nat.reduceEqDiff, Nat.reduceLT, Nat.reduceLeDiff, Nat.reduceBEq, List.length_append, List.length_cons, List.length_nil, Nat.mul_one, Int.reduceToNat, if_pos, h1, h2, hx, hft, h3, hgx, h4]
      clear hK8 K8
      refine hK7 _ ?_
      clear hK7 K7
      refine a_regP ?_
      simp (disch := omega) only [go_sem, Nat.reduceAdd, Nat.reduceMul, Nat.reduceEqDiff, Nat.reduceLT, Nat.reduceLeDiff, Nat.reduceBEq, w64, chk_pos, List.length_append, List.length_cons, List.length_nil, Nat.mul_one, Int.reduceToNat, if_pos, h1, h2, hx, hft, h3, hgx, h4]
      refine ⟨(j + 1, d, e, c), ?_, ?_, ?_⟩   -- round E2
      · try simp (disch := omega) only [go_sem, Nat.reduceAdd, Nat.reduceMul, Nat.reduceEqDiff, Nat.reduceLT, Nat.reduceLeDiff, Nat.reduceBEq, w64, chk_pos, List.length_append, List.length_cons, List.length_nil, Nat.mul_one, Int.reduceToNat, if_pos, h1, h2, hx, hft, h3, hgx, h4]
        try rfl
      all_goals try dsimp only
      · have := cntR_end (k := 3) (l := g.Rows) (i := m) (by omega)
        have := cntR_end (k := 2) (l := g.Rows) (i := m) (by omega)
        have := cntR_end (k := 1) (l := g.Rows) (i := m) (by omega)
        omega
      · omega
    try simp only [Bool.not_eq_true', Bool.not_eq_false', Bool.not_not, Bool.not_eq_eq_eq_not, Bool.not_true, Bool.not_false] at h3
    have h3' := h3
    try simp [inr] at h3'
    obtain rfl : a = cntG 3 x.Part := by have := cntG_end (k := 3) (l := x.Part) (i := j) (by omega); omega
    obtain rfl : b = cntG 2 x.Part := by have := cntG_end (k := 2) (l := x.Part) (i := j) (by omega); omega
    refine a_exit ?_
    simp only [go_sem, Nat.reduceAdd, Nat.reduceMul, Nat.reduceEqDiff, Nat.reduceLT, Nat.reduceLeDiff, Nat.reduceBEq, List.length_append, List.length_cons, List.length_nil, Nat.mul_one, Int.reduceToNat, if_pos, h1, h2, hx, hft, h3]
    clear hK6 K6
    refine hK5 _ ?_
    clear hK5 K5
    refine a_regD rfl fun K I hK hI => ?_   -- region 17
    simp (disch := omega) only [go_sem, Nat.reduceAdd, Nat.reduceMul, Nat.reduceEqDiff, Nat.reduceLT, Nat.reduceLeDiff, Nat.reduceBEq, w64, chk_pos, List.length_append, List.length_cons, List.length_nil, Nat.mul_one, Int.reduceToNat, if_pos, h1, h2, hx, hft, h3]
    refine r_callD0 rfl rfl rfl rfl rfl (spec_Itoa (cntG 3 x.Part) (by omega)) (by first | rfl | (simp only [go_sem, Nat.reduceAdd, Nat.reduceMul, Nat.reduceEqDiff, Nat.reduceLT, Nat.reduceLeDiff, Nat.reduceBEq, List.length_append, List.length_cons, List.length_nil, Nat.mul_one, Int.reduceToNat, if_pos, h1, h2, hx, hft, h3]; done) | (simp only [go_sem, Nat.reduceAdd, Nat.reduceMul, Nat.reduceEqDiff, Nat.reduceLT, Nat.reduceLeDiff, Nat.reduceBEq, List.length_append, List.length_cons, List.length_nil, Nat.mul_one, Int.reduceToNat, if_pos, h1, h2, hx, hft, h3]; rfl)) (by first | rfl | (simp [AV.okIds, AV.ok1]; done)) (by rfl) ?_
    simp (disch := omega) only [go_sem, Nat.reduceAdd, Nat.reduceMul, Nat.reduceEqDiff, Nat.reduceLT, Nat.reduceLeDiff, Nat.reduceBEq, w64, chk_pos, List.length_append, List.length_cons, List.length_nil, Nat.mul_one, Int.reduceToNat, if_pos, h1, h2, hx, hft, h3]
    refine r_callD0 rfl rfl rfl rfl rfl (spec_Itoa (cntG 2 x.Part) (by omega)) (by first | rfl | (simp only [go_sem, Nat.reduceAdd, Nat.reduceMul, Nat.reduceEqDiff, Nat.reduceLT, Nat.reduceLeDiff, Nat.reduceBEq, List.length_append, List.length_cons, List.length_nil, Nat.mul_one, Int.reduceToNat, if_pos, h1, h2, hx, hft, h3]; done) | (simp only [go_sem, Nat.reduceAdd, Nat.reduceMul, Nat.reduceEqDiff, Nat.reduceLT, Nat.reduceLeDiff, Nat.reduceBEq, List.length_append, List.length_cons, List.length_nil, Nat.mul_one, Int.reduceToNat, if_pos, h1, h2, hx, hft, h3]; rfl)) (by first | rfl | (simp [AV.okIds, AV.ok1]; done)) (by rfl) ?_
    simp (disch := omega) only [go_sem, Nat.reduceAdd, Nat.reduceMul, Nat.reduceEqDiff, Nat.reduceLT, Nat.reduceLeDiff, Nat.reduceBEq, w64, chk_pos, List.length_append, List.length_cons, List.length_nil, Nat.mul_one, Int.reduceToNat, if_pos, h1, h2, hx, hft, h3]
    refine ⟨hI _ (by first | kernel_rfl | rfl), hK _ ?_⟩
    clear hK hI K I
    refine hK4 _ ?_
    clear hK4 K4
    refine a_regP ?_
    simp (disch := omega) only [go_sem, Nat.reduceAdd, Nat.reduceMul, Nat.reduceEqDiff, Nat.reduceLT, Nat.reduceLeDiff, Nat.reduceBEq, w64, chk_pos, List.length_append, List.length_cons, List.length_nil, Nat.mul_one, Int.reduceToNat, if_pos, h1, h2, hx, hft, h3]
    refine ⟨i + 1, ?_, ?_, ?_⟩   -- round E3
    · try simp (disch := omega) only [go_sem, Nat.reduceAdd, Nat.reduceMul, Nat.reduceEqDiff, Nat.reduceLT, Nat.reduceLeDiff, Nat.reduceBEq, w64, chk_pos, List.length_append, List.length_cons, List.length_nil, Nat.mul_one, Int.reduceToNat, if_pos, h1, h2, hx, hft, h3]
      try rfl
    all_goals try dsimp only
    · omega
    · omega
  try simp only [Bool.not_eq_true', Bool.not_eq_false', Bool.not_not, Bool.not_eq_eq_eq_not, Bool.not_true, Bool.not_false] at h2
  have h2' := h2
  try simp [inr] at h2'
  refine a_exit ?_
  simp only [go_sem, Nat.reduceAdd, Nat.reduceMul, Nat.reduceEqDiff, Nat.reduceLT, Nat.reduceLeDiff, Nat.reduceBEq, List.length_append, List.length_cons, List.length_nil, Nat.mul_one, Int.reduceToNat, if_pos, h1, h2]
  clear hK3 K3
  refine hK2 _ ?_
  clear hK2 K2
  refine a_rs fun K hK => ?_   -- region 19
  simp only [go_sem, Nat.reduceAdd, Nat.reduceMul, Nat.reduceEqDiff, Nat.reduceLT, Nat.reduceLeDiff, Nat.reduceBEq, List.length_append, List.length_cons, List.length_nil, Nat.mul_one, Int.reduceToNat, if_pos, h1, h2]
  refine hK _ ?_
  clear hK K
  refine a_ret ⟨trivial, [.keep [2, 3] []], ?_⟩
  simp only [go_sem, Nat.reduceAdd, Nat.reduceMul, Nat.reduceEqDiff, Nat.reduceLT, Nat.reduceLeDiff, Nat.reduceBEq, List.length_append, List.length_cons, List.length_nil, Nat.mul_one, Int.reduceToNat, if_pos, h1, h2]
  refine ⟨_, _, rfl, rfl, rfl, ?_, rfl⟩
  simp only [go_sem, Nat.reduceAdd, Nat.reduceMul, Nat.reduceEqDiff, Nat.reduceLT, Nat.reduceLeDiff, Nat.reduceBEq, List.length_append, List.length_cons, List.length_nil, Nat.mul_one, Int.reduceToNat, if_pos, h1, h2]
  all_goals
    obtain rfl : i = l.length := by omega
    simp [hgd, statText]

end Go.Vi
