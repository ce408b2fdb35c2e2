/- Contracts of functions of the seat. No statement is proved in this text. -/
import Derived.Test.YtbjkgeenjjfpdaaDoorFb
import Derived.Test.YtbjkgeenjjfpdaaDoorFc
import Derived.Test.YtbjkgeenjjfpdaaDoorFm
set_option linter.all false
set_option autoImplicit true
namespace Go.Vi
open Go Go.Proofs
set_option maxRecDepth 100000
set_option maxHeartbeats 4000000
set_option linter.unusedVariables false
set_option linter.unusedSimpArgs false
def isAll1 (k : Int) (x : Group) : Bool := x.At == 0 && x.To == 0 && x.Rows.all (fun r => r.Kind == k)
theorem isAll_false {g : List Group} {k : Int} (h : g.all (isAll1 k) = false) : isAll g k = false := by
  have : g.all (fun x => x.At == 0 && x.To == 0 && x.Rows.all (fun r => r.Kind == k)) = false := h
  simp only [isAll, this, Bool.and_false]
theorem isAll_true {g : List Group} {k : Int} (h : g.all (isAll1 k) = true) : isAll g k = decide ((g.length : Int) ≤ 1) := by
  have : g.all (fun x => x.At == 0 && x.To == 0 && x.Rows.all (fun r => r.Kind == k)) = true := h
  simp only [isAll, this, Bool.and_true]
  apply decide_eq_decide.2; omega
theorem less_tri : ∀ a b : List UInt8, (bytesLess a b || a == b) = !bytesLess b a := by
  intro a
  induction a with
  | nil => intro b; cases b <;> rfl
  | cons x a ih =>
    intro b
    cases b with
    | nil => rfl
    | cons y b =>
      simp only [bytesLess, Op.bytesLess] at ih ⊢
      rcases Nat.lt_trichotomy x.toNat y.toNat with h | h | h
      · have h1 : decide (x < y) = true := by simpa [UInt8.lt_iff_toNat_lt] using h
        have h2 : decide (y < x) = false := by simp [UInt8.lt_iff_toNat_lt]; omega
        have h3 : (y == x) = false := by simp [← UInt8.toNat_inj]; omega
        rw [h1, h2, h3]; simp
      · obtain rfl := UInt8.toNat_inj.1 h
        have h1 : decide (x < x) = false := by simp [UInt8.lt_iff_toNat_lt]
        have h2 : (x :: a == x :: b) = (a == b) := by simp
        have h3 := ih b
        rw [h1, h2]
        simp only [Bool.false_or, beq_self_eq_true, Bool.true_and]
        exact h3
      · have h1 : decide (x < y) = false := by simp [UInt8.lt_iff_toNat_lt]; omega
        have h2 : decide (y < x) = true := by simpa [UInt8.lt_iff_toNat_lt] using h
        have h3 : (x == y) = false := by simp [← UInt8.toNat_inj]; omega
        have h4 : (x :: a == y :: b) = false := by simp [← UInt8.toNat_inj]; intro h; omega
        rw [h1, h2, h3, h4]; simp
theorem okD_parts (p : Option FDiff) (d : FDiff) : okD p d = (isName d.Name && goodGroups d.Part && (if d.Kind == 1 then isAll d.Part 3 else if d.Kind == 2 then isAll d.Part 2 else d.Kind == 3 && decide (0 < d.Part.length)) && match p with
  | none => true
  | some y => bytesLess y.Name d.Name) := by cases p <;> rfl
theorem any_ne (l : List Row) (k : Int) : (l.any fun r => r.Kind != k) = !(l.all fun r => r.Kind == k) := any_not (fun r : Row => r.Kind == k) l

theorem nm_spec_l15Name : (Tryd.f43.name == "runtime.NumGoroutine") = false := by kernel_rfl
theorem spec_spec_l15Name (s : Str) (hs : s.length ≤ 1099511627776) :
    Spec Tryd.prog 43 [.sh (.str s)] [] (.sh (.bool (isName s))) [] := by
  refine spec_of_awp hm (fun _ _ => {}) Tryd.func43 rfl nm_spec_l15Name ?_
  rw [Tryd.ntmps43, Sp_start (by simp)]
  simp only [go_sem, Nat.reduceAdd, Nat.reduceMul, Nat.reduceEqDiff, Nat.reduceLT, Nat.reduceLeDiff, Nat.reduceBEq]
  refine a_rs fun K hK => ?_   -- region 0
  simp only [go_sem, Nat.reduceAdd, Nat.reduceMul, Nat.reduceEqDiff, Nat.reduceLT, Nat.reduceLeDiff, Nat.reduceBEq]
  refine hK _ ?_
  clear hK K
  refine a_seqK fun K1 hK1 => ?_
  refine a_rs fun K hK => ?_   -- region 1
  simp only [go_sem, Nat.reduceAdd, Nat.reduceMul, Nat.reduceEqDiff, Nat.reduceLT, Nat.reduceLeDiff, Nat.reduceBEq]
  refine hK _ ?_
  clear hK K
  refine a_block ?_   -- block 0
  refine a_loopU (ι := Nat) [0] [] (fun i => [(3, .sh (.int .i64 i))]) (fun i => []) (fun i => i ≤ s.length ∧ (s.drop i).all nameByte = s.all nameByte) (fun i => s.length - i) 0 ?_ ?_ ?_
  · try simp (disch := omega) only [go_sem, Nat.reduceAdd, Nat.reduceMul, Nat.reduceEqDiff, Nat.reduceLT, Nat.reduceLeDiff, Nat.reduceBEq, w64, chk_pos]
    try rfl
  · simp
  rintro i hi
  simp only [go_sem, Nat.reduceAdd, Nat.reduceMul, Nat.reduceEqDiff, Nat.reduceLT, Nat.reduceLeDiff, Nat.reduceBEq]
  refine a_seqK fun K2 hK2 => ?_
  refine a_rs fun K hK => ?_   -- region 2
  simp (disch := omega) only [go_sem, Nat.reduceAdd, Nat.reduceMul, Nat.reduceEqDiff, Nat.reduceLT, Nat.reduceLeDiff, Nat.reduceBEq, w64, chk_pos]
  refine hK _ ?_
  clear hK K
  refine a_cond rfl (fun h1 => ?_) (fun h1 => ?_)   -- if t8
  · try simp only [Bool.not_eq_true', Bool.not_eq_false', Bool.not_not, Bool.not_eq_eq_eq_not, Bool.not_true, Bool.not_false] at h1
    have h1' := h1
    try simp [inr] at h1'
    obtain ⟨x, hx⟩ : ∃ x, s[i]? = some x := ⟨_, List.getElem?_eq_getElem h1'⟩
    refine a_skip ?_
    refine hK2 _ ?_
    clear hK2 K2
    refine a_seqK fun K3 hK3 => ?_
    refine a_block ?_   -- block 1
    refine a_rs fun K hK => ?_   -- region 4
    simp (disch := omega) only [go_sem, Nat.reduceAdd, Nat.reduceMul, Nat.reduceEqDiff, Nat.reduceLT, Nat.reduceLeDiff, Nat.reduceBEq, w64, chk_pos, h1, hx]
    refine hK _ ?_
    clear hK K
    refine a_rsm [0, 3] [] [(35, .sh (.bool (!nameByte x)))] ?_ ?_   -- region 5
    · simp only [go_sem, Nat.reduceAdd, Nat.reduceMul, Nat.reduceEqDiff, Nat.reduceLT, Nat.reduceLeDiff, Nat.reduceBEq, h1, hx]
      refine gIf_both (fun hg1 => ?_) (fun hg1 => ?_)
      · try simp only [Bool.not_eq_true', Bool.not_eq_false', Bool.not_not, Bool.not_eq_eq_eq_not, Bool.not_true, Bool.not_false] at hg1
        have hg1' := hg1
        try simp [inr] at hg1'
        simp only [go_sem, Nat.reduceAdd, Nat.reduceMul, Nat.reduceEqDiff, Nat.reduceLT, Nat.reduceLeDiff, Nat.reduceBEq, h1, hx, hg1]
        refine gIf_both (fun hg2 => ?_) (fun hg2 => ?_)
        · try simp only [Bool.not_eq_true', Bool.not_eq_false', Bool.not_not, Bool.not_eq_eq_eq_not, Bool.not_true, Bool.not_false] at hg2
          have hg2' := hg2
          try simp [inr] at hg2'
          simp only [go_sem, Nat.reduceAdd, Nat.reduceMul, Nat.reduceEqDiff, Nat.reduceLT, Nat.reduceLeDiff, Nat.reduceBEq, h1, hx, hg1, hg2]
          refine gIf_both (fun hg3 => ?_) (fun hg3 => ?_)
          · try simp only [Bool.not_eq_true', Bool.not_eq_false', Bool.not_not, Bool.not_eq_eq_eq_not, Bool.not_true, Bool.not_false] at hg3
            have hg3' := hg3
            try simp [inr] at hg3'
            simp only [go_sem, Nat.reduceAdd, Nat.reduceMul, Nat.reduceEqDiff, Nat.reduceLT, Nat.reduceLeDiff, Nat.reduceBEq, h1, hx, hg1, hg2, hg3]
            refine gIf_both (fun hg4 => ?_) (fun hg4 => ?_)
            · try simp only [Bool.not_eq_true', Bool.not_eq_false', Bool.not_not, Bool.not_eq_eq_eq_not, Bool.not_true, Bool.not_false] at hg4
              have hg4' := hg4
              try simp [inr] at hg4'
              simp only [go_sem, Nat.reduceAdd, Nat.reduceMul, Nat.reduceEqDiff, Nat.reduceLT, Nat.reduceLeDiff, Nat.reduceBEq, h1, hx, hg1, hg2, hg3, hg4]
              refine gIf_both (fun hg5 => ?_) (fun hg5 => ?_)
              · try simp only [Bool.not_eq_true', Bool.not_eq_false', Bool.not_not, Bool.not_eq_eq_eq_not, Bool.not_true, Bool.not_false] at hg5
                have hg5' := hg5
                try simp [inr] at hg5'
                simp only [go_sem, Nat.reduceAdd, Nat.reduceMul, Nat.reduceEqDiff, Nat.reduceLT, Nat.reduceLeDiff, Nat.reduceBEq, h1, hx, hg1, hg2, hg3, hg4, hg5]
                all_goals (first | rfl | (refine sp_hd ?_; rw [nameByte_eq]; first | (simp_all; done) | (simp_all; omega)) | (refine sp_hd' ?_; rw [nameByte_eq]; first | (simp_all; done) | (simp_all; omega)))
              try simp only [Bool.not_eq_true', Bool.not_eq_false', Bool.not_not, Bool.not_eq_eq_eq_not, Bool.not_true, Bool.not_false] at hg5
              have hg5' := hg5
              try simp [inr] at hg5'
              simp only [go_sem, Nat.reduceAdd, Nat.reduceMul, Nat.reduceEqDiff, Nat.reduceLT, Nat.reduceLeDiff, Nat.reduceBEq, h1, hx, hg1, hg2, hg3, hg4, hg5]
              all_goals (first | rfl | (refine sp_hd ?_; rw [nameByte_eq]; first | (simp_all; done) | (simp_all; omega)) | (refine sp_hd' ?_; rw [nameByte_eq]; first | (simp_all; done) | (simp_all; omega)))
            try simp only [Bool.not_eq_true', Bool.not_eq_false', Bool.not_not, Bool.not_eq_eq_eq_not, Bool.not_true, Bool.not_false] at hg4
            have hg4' := hg4
            try simp [inr] at hg4'
            simp only [go_sem, Nat.reduceAdd, Nat.reduceMul, Nat.reduceEqDiff, Nat.reduceLT, Nat.reduceLeDiff, Nat.reduceBEq, h1, hx, hg1, hg2, hg3, hg4]
            all_goals (first | rfl | (refine sp_hd ?_; rw [nameByte_eq]; first | (simp_all; done) | (simp_all; omega)) | (refine sp_hd' ?_; rw [nameByte_eq]; first | (simp_all; done) | (simp_all; omega)))
          try simp only [Bool.not_eq_true', Bool.not_eq_false', Bool.not_not, Bool.not_eq_eq_eq_not, Bool.not_true, Bool.not_false] at hg3
          have hg3' := hg3
          try simp [inr] at hg3'
          simp only [go_sem, Nat.reduceAdd, Nat.reduceMul, Nat.reduceEqDiff, Nat.reduceLT, Nat.reduceLeDiff, Nat.reduceBEq, h1, hx, hg1, hg2, hg3]
          refine gIf_both (fun hg6 => ?_) (fun hg6 => ?_)
          · try simp only [Bool.not_eq_true', Bool.not_eq_false', Bool.not_not, Bool.not_eq_eq_eq_not, Bool.not_true, Bool.not_false] at hg6
            have hg6' := hg6
            try simp [inr] at hg6'
            simp only [go_sem, Nat.reduceAdd, Nat.reduceMul, Nat.reduceEqDiff, Nat.reduceLT, Nat.reduceLeDiff, Nat.reduceBEq, h1, hx, hg1, hg2, hg3, hg6]
            all_goals (first | rfl | (refine sp_hd ?_; rw [nameByte_eq]; first | (simp_all; done) | (simp_all; omega)) | (refine sp_hd' ?_; rw [nameByte_eq]; first | (simp_all; done) | (simp_all; omega)))
          try simp only [Bool.not_eq_true', Bool.not_eq_false', Bool.not_not, Bool.not_eq_eq_eq_not, Bool.not_true, Bool.not_false] at hg6
          have hg6' := hg6
          try simp [inr] at hg6'
          simp only [go_sem, Nat.reduceAdd, Nat.reduceMul, Nat.reduceEqDiff, Nat.reduceLT, Nat.reduceLeDiff, Nat.reduceBEq, h1, hx, hg1, hg2, hg3, hg6]
          all_goals (first | rfl | (refine sp_hd ?_; rw [nameByte_eq]; first | (simp_all; done) | (simp_all; omega)) | (refine sp_hd' ?_; rw [nameByte_eq]; first | (simp_all; done) | (simp_all; omega)))
        try simp only [Bool.not_eq_true', Bool.not_eq_false', Bool.not_not, Bool.not_eq_eq_eq_not, Bool.not_true, Bool.not_false] at hg2
        have hg2' := hg2
        try simp [inr] at hg2'
        simp only [go_sem, Nat.reduceAdd, Nat.reduceMul, Nat.reduceEqDiff, Nat.reduceLT, Nat.reduceLeDiff, Nat.reduceBEq, h1, hx, hg1, hg2]
        all_goals (first | rfl | (refine sp_hd ?_; rw [nameByte_eq]; first | (simp_all; done) | (simp_all; omega)) | (refine sp_hd' ?_; rw [nameByte_eq]; first | (simp_all; done) | (simp_all; omega)))
      try simp only [Bool.not_eq_true', Bool.not_eq_false', Bool.not_not, Bool.not_eq_eq_eq_not, Bool.not_true, Bool.not_false] at hg1
      have hg1' := hg1
      try simp [inr] at hg1'
      simp only [go_sem, Nat.reduceAdd, Nat.reduceMul, Nat.reduceEqDiff, Nat.reduceLT, Nat.reduceLeDiff, Nat.reduceBEq, h1, hx, hg1]
      refine gIf_both (fun hg7 => ?_) (fun hg7 => ?_)
      · try simp only [Bool.not_eq_true', Bool.not_eq_false', Bool.not_not, Bool.not_eq_eq_eq_not, Bool.not_true, Bool.not_false] at hg7
        have hg7' := hg7
        try simp [inr] at hg7'
        simp only [go_sem, Nat.reduceAdd, Nat.reduceMul, Nat.reduceEqDiff, Nat.reduceLT, Nat.reduceLeDiff, Nat.reduceBEq, h1, hx, hg1, hg7]
        refine gIf_both (fun hg8 => ?_) (fun hg8 => ?_)
        · try simp only [Bool.not_eq_true', Bool.not_eq_false', Bool.not_not, Bool.not_eq_eq_eq_not, Bool.not_true, Bool.not_false] at hg8
          have hg8' := hg8
          try simp [inr] at hg8'
          simp only [go_sem, Nat.reduceAdd, Nat.reduceMul, Nat.reduceEqDiff, Nat.reduceLT, Nat.reduceLeDiff, Nat.reduceBEq, h1, hx, hg1, hg7, hg8]
          refine gIf_both (fun hg9 => ?_) (fun hg9 => ?_)
          · try simp only [Bool.not_eq_true', Bool.not_eq_false', Bool.not_not, Bool.not_eq_eq_eq_not, Bool.not_true, Bool.not_false] at hg9
            have hg9' := hg9
            try simp [inr] at hg9'
            simp only [go_sem, Nat.reduceAdd, Nat.reduceMul, Nat.reduceEqDiff, Nat.reduceLT, Nat.reduceLeDiff, Nat.reduceBEq, h1, hx, hg1, hg7, hg8, hg9]
            all_goals (first | rfl | (refine sp_hd ?_; rw [nameByte_eq]; first | (simp_all; done) | (simp_all; omega)) | (refine sp_hd' ?_; rw [nameByte_eq]; first | (simp_all; done) | (simp_all; omega)))
          try simp only [Bool.not_eq_true', Bool.not_eq_false', Bool.not_not, Bool.not_eq_eq_eq_not, Bool.not_true, Bool.not_false] at hg9
          have hg9' := hg9
          try simp [inr] at hg9'
          simp only [go_sem, Nat.reduceAdd, Nat.reduceMul, Nat.reduceEqDiff, Nat.reduceLT, Nat.reduceLeDiff, Nat.reduceBEq, h1, hx, hg1, hg7, hg8, hg9]
          all_goals (first | rfl | (refine sp_hd ?_; rw [nameByte_eq]; first | (simp_all; done) | (simp_all; omega)) | (refine sp_hd' ?_; rw [nameByte_eq]; first | (simp_all; done) | (simp_all; omega)))
        try simp only [Bool.not_eq_true', Bool.not_eq_false', Bool.not_not, Bool.not_eq_eq_eq_not, Bool.not_true, Bool.not_false] at hg8
        have hg8' := hg8
        try simp [inr] at hg8'
        simp only [go_sem, Nat.reduceAdd, Nat.reduceMul, Nat.reduceEqDiff, Nat.reduceLT, Nat.reduceLeDiff, Nat.reduceBEq, h1, hx, hg1, hg7, hg8]
        all_goals (first | rfl | (refine sp_hd ?_; rw [nameByte_eq]; first | (simp_all; done) | (simp_all; omega)) | (refine sp_hd' ?_; rw [nameByte_eq]; first | (simp_all; done) | (simp_all; omega)))
      try simp only [Bool.not_eq_true', Bool.not_eq_false', Bool.not_not, Bool.not_eq_eq_eq_not, Bool.not_true, Bool.not_false] at hg7
      have hg7' := hg7
      try simp [inr] at hg7'
      simp only [go_sem, Nat.reduceAdd, Nat.reduceMul, Nat.reduceEqDiff, Nat.reduceLT, Nat.reduceLeDiff, Nat.reduceBEq, h1, hx, hg1, hg7]
      refine gIf_both (fun hg10 => ?_) (fun hg10 => ?_)
      · try simp only [Bool.not_eq_true', Bool.not_eq_false', Bool.not_not, Bool.not_eq_eq_eq_not, Bool.not_true, Bool.not_false] at hg10
        have hg10' := hg10
        try simp [inr] at hg10'
        simp only [go_sem, Nat.reduceAdd, Nat.reduceMul, Nat.reduceEqDiff, Nat.reduceLT, Nat.reduceLeDiff, Nat.reduceBEq, h1, hx, hg1, hg7, hg10]
        all_goals (first | rfl | (refine sp_hd ?_; rw [nameByte_eq]; first | (simp_all; done) | (simp_all; omega)) | (refine sp_hd' ?_; rw [nameByte_eq]; first | (simp_all; done) | (simp_all; omega)))
      try simp only [Bool.not_eq_true', Bool.not_eq_false', Bool.not_not, Bool.not_eq_eq_eq_not, Bool.not_true, Bool.not_false] at hg10
      have hg10' := hg10
      try simp [inr] at hg10'
      simp only [go_sem, Nat.reduceAdd, Nat.reduceMul, Nat.reduceEqDiff, Nat.reduceLT, Nat.reduceLeDiff, Nat.reduceBEq, h1, hx, hg1, hg7, hg10]
      all_goals (first | rfl | (refine sp_hd ?_; rw [nameByte_eq]; first | (simp_all; done) | (simp_all; omega)) | (refine sp_hd' ?_; rw [nameByte_eq]; first | (simp_all; done) | (simp_all; omega)))
    simp only [go_sem, Nat.reduceAdd, Nat.reduceMul, Nat.reduceEqDiff, Nat.reduceLT, Nat.reduceLeDiff, Nat.reduceBEq, h1, hx]
    refine a_cond rfl (fun h2 => ?_) (fun h2 => ?_)   -- if t35
    · try simp only [Bool.not_eq_true', Bool.not_eq_false', Bool.not_not, Bool.not_eq_eq_eq_not, Bool.not_true, Bool.not_false] at h2
      have h2' := h2
      try simp [inr] at h2'
      refine a_rs fun K hK => ?_   -- region 6
      simp only [go_sem, Nat.reduceAdd, Nat.reduceMul, Nat.reduceEqDiff, Nat.reduceLT, Nat.reduceLeDiff, Nat.reduceBEq, h1, hx, h2]
      refine hK _ ?_
      clear hK K
      refine a_ret ⟨trivial, [.keep [2] []], ?_⟩
      simp only [go_sem, Nat.reduceAdd, Nat.reduceMul, Nat.reduceEqDiff, Nat.reduceLT, Nat.reduceLeDiff, Nat.reduceBEq, h1, hx, h2]
      refine ⟨_, _, rfl, rfl, rfl, ?_, rfl⟩
      simp only [go_sem, Nat.reduceAdd, Nat.reduceMul, Nat.reduceEqDiff, Nat.reduceLT, Nat.reduceLeDiff, Nat.reduceBEq, h1, hx, h2]
      all_goals
        have : s.all nameByte = false := by rw [← hi.2, drop_cons hx, List.all_cons, h2]; rfl
        simp [isName, this]
    try simp only [Bool.not_eq_true', Bool.not_eq_false', Bool.not_not, Bool.not_eq_eq_eq_not, Bool.not_true, Bool.not_false] at h2
    have h2' := h2
    try simp [inr] at h2'
    refine a_skip ?_
    refine hK3 _ ?_
    clear hK3 K3
    refine a_regP ?_
    simp (disch := omega) only [go_sem, Nat.reduceAdd, Nat.reduceMul, Nat.reduceEqDiff, Nat.reduceLT, Nat.reduceLeDiff, Nat.reduceBEq, w64, chk_pos, h1, hx, h2]
    refine ⟨i + 1, ?_, ?_, ?_⟩   -- round E1
    · try simp (disch := omega) only [go_sem, Nat.reduceAdd, Nat.reduceMul, Nat.reduceEqDiff, Nat.reduceLT, Nat.reduceLeDiff, Nat.reduceBEq, w64, chk_pos, h1, hx, h2]
      try rfl
    all_goals try dsimp only
    · refine ⟨by omega, ?_⟩
      rw [← hi.2, drop_cons hx, List.all_cons, h2]; rfl
    · omega
  try simp only [Bool.not_eq_true', Bool.not_eq_false', Bool.not_not, Bool.not_eq_eq_eq_not, Bool.not_true, Bool.not_false] at h1
  have h1' := h1
  try simp [inr] at h1'
  refine a_exit ?_
  simp only [go_sem, Nat.reduceAdd, Nat.reduceMul, Nat.reduceEqDiff, Nat.reduceLT, Nat.reduceLeDiff, Nat.reduceBEq, h1]
  clear hK2 K2
  refine hK1 _ ?_
  clear hK1 K1
  refine a_rs fun K hK => ?_   -- region 7
  simp (disch := omega) only [go_sem, Nat.reduceAdd, Nat.reduceMul, Nat.reduceEqDiff, Nat.reduceLT, Nat.reduceLeDiff, Nat.reduceBEq, w64, chk_pos, h1]
  refine r_callT rfl rfl rfl rfl rfl (spec_spec_l1In _ _ _) (by first | rfl | (simp only [go_sem, Nat.reduceAdd, Nat.reduceMul, Nat.reduceEqDiff, Nat.reduceLT, Nat.reduceLeDiff, Nat.reduceBEq, h1]; done) | (simp only [go_sem, Nat.reduceAdd, Nat.reduceMul, Nat.reduceEqDiff, Nat.reduceLT, Nat.reduceLeDiff, Nat.reduceBEq, h1]; rfl)) (by first | rfl | (simp [AV.okIds, AV.ok1]; done)) (by rfl) ?_
  simp only [go_sem, Nat.reduceAdd, Nat.reduceMul, Nat.reduceEqDiff, Nat.reduceLT, Nat.reduceLeDiff, Nat.reduceBEq, h1]
  refine hK _ ?_
  clear hK K
  refine a_ret ⟨trivial, [.keep [2] []], ?_⟩
  simp only [go_sem, Nat.reduceAdd, Nat.reduceMul, Nat.reduceEqDiff, Nat.reduceLT, Nat.reduceLeDiff, Nat.reduceBEq, h1]
  refine ⟨_, _, rfl, rfl, rfl, ?_, rfl⟩
  simp only [go_sem, Nat.reduceAdd, Nat.reduceMul, Nat.reduceEqDiff, Nat.reduceLT, Nat.reduceLeDiff, Nat.reduceBEq, h1]
  all_goals
    have : s.all nameByte = true := by rw [← hi.2, List.drop_eq_nil_iff.2 (by omega)]; rfl
    simp [isName, this]

theorem nm_impl_isName : (Tryd.f32.name == "runtime.NumGoroutine") = false := by kernel_rfl
theorem spec_impl_isName (s : Str) (hs : s.length ≤ 1099511627776) :
    Spec Tryd.prog 32 [.sh (.str s)] [] (.sh (.bool (isName s))) [] := by
  refine spec_of_awp hm (fun _ _ => {}) Tryd.func32 rfl nm_impl_isName ?_
  rw [Tryd.ntmps32, Sp_start (by simp)]
  simp only [go_sem, Nat.reduceAdd, Nat.reduceMul, Nat.reduceEqDiff, Nat.reduceLT, Nat.reduceLeDiff, Nat.reduceBEq]
  refine a_rs fun K hK => ?_   -- region 0
  simp only [go_sem, Nat.reduceAdd, Nat.reduceMul, Nat.reduceEqDiff, Nat.reduceLT, Nat.reduceLeDiff, Nat.reduceBEq]
  refine hK _ ?_
  clear hK K
  refine a_rs fun K hK => ?_   -- region 1
  simp (disch := omega) only [go_sem, Nat.reduceAdd, Nat.reduceMul, Nat.reduceEqDiff, Nat.reduceLT, Nat.reduceLeDiff, Nat.reduceBEq, w64, chk_pos]
  refine r_callT rfl rfl rfl rfl rfl (spec_impl_in _ _ _) (by first | rfl | (simp only [go_sem, Nat.reduceAdd, Nat.reduceMul, Nat.reduceEqDiff, Nat.reduceLT, Nat.reduceLeDiff, Nat.reduceBEq]; done) | (simp only [go_sem, Nat.reduceAdd, Nat.reduceMul, Nat.reduceEqDiff, Nat.reduceLT, Nat.reduceLeDiff, Nat.reduceBEq]; rfl)) (by first | rfl | (simp [AV.okIds, AV.ok1]; done)) (by rfl) ?_
  simp only [go_sem, Nat.reduceAdd, Nat.reduceMul, Nat.reduceEqDiff, Nat.reduceLT, Nat.reduceLeDiff, Nat.reduceBEq]
  refine gIf_both (fun hg1 => ?_) (fun hg1 => ?_)
  · try simp only [Bool.not_eq_true', Bool.not_eq_false', Bool.not_not, Bool.not_eq_eq_eq_not, Bool.not_true, Bool.not_false] at hg1
    have hg1' := hg1
    try simp [inr] at hg1'
    simp only [go_sem, Nat.reduceAdd, Nat.reduceMul, Nat.reduceEqDiff, Nat.reduceLT, Nat.reduceLeDiff, Nat.reduceBEq, hg1]
    refine r_callT rfl rfl rfl rfl rfl (spec_Trim_name s hs) (by first | rfl | (simp only [go_sem, Nat.reduceAdd, Nat.reduceMul, Nat.reduceEqDiff, Nat.reduceLT, Nat.reduceLeDiff, Nat.reduceBEq, hg1]; done) | (simp only [go_sem, Nat.reduceAdd, Nat.reduceMul, Nat.reduceEqDiff, Nat.reduceLT, Nat.reduceLeDiff, Nat.reduceBEq, hg1]; rfl)) (by first | rfl | (simp [AV.okIds, AV.ok1]; done)) (by rfl) ?_
    simp only [go_sem, Nat.reduceAdd, Nat.reduceMul, Nat.reduceEqDiff, Nat.reduceLT, Nat.reduceLeDiff, Nat.reduceBEq, hg1]
    refine hK _ ?_
    clear hK K
    refine a_ret ⟨trivial, [.keep [2] []], ?_⟩
    simp only [go_sem, Nat.reduceAdd, Nat.reduceMul, Nat.reduceEqDiff, Nat.reduceLT, Nat.reduceLeDiff, Nat.reduceBEq, hg1]
    refine ⟨_, _, rfl, rfl, rfl, ?_, rfl⟩
    simp only [go_sem, Nat.reduceAdd, Nat.reduceMul, Nat.reduceEqDiff, Nat.reduceLT, Nat.reduceLeDiff, Nat.reduceBEq, hg1]
    all_goals
      have hn : s.all nameByte = (Lib.trimS s nameSet == []) := by rw [trimS_nil]; congr 1; funext b; exact (nameSet_has b).symm
      first | (simp [isName, hn, *]; done) | (simp_all [isName]; done)
  try simp only [Bool.not_eq_true', Bool.not_eq_false', Bool.not_not, Bool.not_eq_eq_eq_not, Bool.not_true, Bool.not_false] at hg1
  have hg1' := hg1
  try simp [inr] at hg1'
  simp only [go_sem, Nat.reduceAdd, Nat.reduceMul, Nat.reduceEqDiff, Nat.reduceLT, Nat.reduceLeDiff, Nat.reduceBEq, hg1]
  refine hK _ ?_
  clear hK K
  refine a_ret ⟨trivial, [.keep [2] []], ?_⟩
  simp only [go_sem, Nat.reduceAdd, Nat.reduceMul, Nat.reduceEqDiff, Nat.reduceLT, Nat.reduceLeDiff, Nat.reduceBEq, hg1]
  refine ⟨_, _, rfl, rfl, rfl, ?_, rfl⟩
  simp only [go_sem, Nat.reduceAdd, Nat.reduceMul, Nat.reduceEqDiff, Nat.reduceLT, Nat.reduceLeDiff, Nat.reduceBEq, hg1]
  all_goals
    have hn : s.all nameByte = (Lib.trimS s nameSet == []) := by rw [trimS_nil]; congr 1; funext b; exact (nameSet_has b).symm
    first | (simp [isName, hn, *]; done) | (simp_all [isName]; done)

theorem nm_impl_isAll_1 : (Tryd.f52.name == "runtime.NumGoroutine") = false := by kernel_rfl
theorem spec_impl_isAll_1 (r : Row) (k : Int) :
    Spec Tryd.prog 52 [.sh (dRow r), .ptr 1000 0 0] [(1000, [.int .i64 k])] (.sh (.bool (r.Kind != k))) [(1000, [.int .i64 k])] := by
  refine spec_of_awp hm (fun _ _ => {}) Tryd.func52 rfl nm_impl_isAll_1 ?_
  rw [Tryd.ntmps52, Sp_start (by simp)]
  simp only [go_sem, Nat.reduceAdd, Nat.reduceMul, Nat.reduceEqDiff, Nat.reduceLT, Nat.reduceLeDiff, Nat.reduceBEq]
  refine a_rs fun K hK => ?_   -- region 0
  simp (disch := omega) only [go_sem, Nat.reduceAdd, Nat.reduceMul, Nat.reduceEqDiff, Nat.reduceLT, Nat.reduceLeDiff, Nat.reduceBEq, w64, chk_pos]
  refine hK _ ?_
  clear hK K
  refine a_rs fun K hK => ?_   -- region 1
  simp only [go_sem, Nat.reduceAdd, Nat.reduceMul, Nat.reduceEqDiff, Nat.reduceLT, Nat.reduceLeDiff, Nat.reduceBEq]
  refine hK _ ?_
  clear hK K
  refine a_ret ⟨trivial, [.keep [3] []], ?_⟩
  simp only [go_sem, Nat.reduceAdd, Nat.reduceMul, Nat.reduceEqDiff, Nat.reduceLT, Nat.reduceLeDiff, Nat.reduceBEq]
  refine ⟨_, _, rfl, rfl, rfl, ?_, rfl⟩
  simp only [go_sem, Nat.reduceAdd, Nat.reduceMul, Nat.reduceEqDiff, Nat.reduceLT, Nat.reduceLeDiff, Nat.reduceBEq]
  all_goals
    first | rfl | (simp_all []; done) | (simp_all []; omega)

theorem nm_slices_IndexFunc___impl_Row_impl_Row_ : (Tryd.f72.name == "runtime.NumGoroutine") = false := by kernel_rfl
theorem spec_IndexFunc_isAll (l : List Row) (k : Int) (hl : l.length ≤ 1099511627776) :
    Spec Tryd.prog 72 [.sh (.sl 0 (l.map dRow)), .fn 52 [.ptr 1000 0 0]] [(1000, [.int .i64 k])] (.sh (.int .i64 (idxOf (fun r => r.Kind != k) l))) [(1000, [.int .i64 k])] := by
  refine spec_of_awp hm (tkI [3000, 5000] [(4005, [(1000, 1000)])]) Tryd.func72 rfl nm_slices_IndexFunc___impl_Row_impl_Row_ ?_
  rw [Tryd.ntmps72, Sp_start (by simp)]
  simp only [go_sem, Nat.reduceAdd, Nat.reduceMul, Nat.reduceEqDiff, Nat.reduceLT, Nat.reduceLeDiff, Nat.reduceBEq]
  refine a_rs fun K hK => ?_   -- region 0
  simp only [go_sem, Nat.reduceAdd, Nat.reduceMul, Nat.reduceEqDiff, Nat.reduceLT, Nat.reduceLeDiff, Nat.reduceBEq]
  refine hK _ ?_
  clear hK K
  refine a_seqK fun K1 hK1 => ?_
  refine a_rs fun K hK => ?_   -- region 1
  simp (disch := omega) only [go_sem, Nat.reduceAdd, Nat.reduceMul, Nat.reduceEqDiff, Nat.reduceLT, Nat.reduceLeDiff, Nat.reduceBEq, w64, chk_pos]
  refine hK _ ?_
  clear hK K
  refine a_block ?_   -- block 0
  refine a_loopU (ι := Nat) [0, 1, 7] [] (fun i => [(8, .sh (.int .i64 i))]) (fun i => [(1000, [.int .i64 k])]) (fun i => i ≤ l.length ∧ ∀ j x, j < i → l[j]? = some x → (x.Kind != k) = false) (fun i => l.length - i) 0 ?_ ?_ ?_
  · try simp (disch := omega) only [go_sem, Nat.reduceAdd, Nat.reduceMul, Nat.reduceEqDiff, Nat.reduceLT, Nat.reduceLeDiff, Nat.reduceBEq, w64, chk_pos]
    try rfl
  · simp
  rintro i hi
  simp only [go_sem, Nat.reduceAdd, Nat.reduceMul, Nat.reduceEqDiff, Nat.reduceLT, Nat.reduceLeDiff, Nat.reduceBEq]
  refine a_rs fun K hK => ?_   -- region 2
  simp only [go_sem, Nat.reduceAdd, Nat.reduceMul, Nat.reduceEqDiff, Nat.reduceLT, Nat.reduceLeDiff, Nat.reduceBEq]
  refine hK _ ?_
  clear hK K
  refine a_seqK fun K2 hK2 => ?_
  refine a_cond rfl (fun h1 => ?_) (fun h1 => ?_)   -- if t9
  · try simp only [Bool.not_eq_true', Bool.not_eq_false', Bool.not_not, Bool.not_eq_eq_eq_not, Bool.not_true, Bool.not_false] at h1
    have h1' := h1
    try simp [inr] at h1'
    obtain ⟨x, hx⟩ : ∃ x, l[i]? = some x := ⟨_, List.getElem?_eq_getElem h1'⟩
    refine a_skip ?_
    refine hK2 _ ?_
    clear hK2 K2
    refine a_seqK fun K3 hK3 => ?_
    refine a_block ?_   -- block 1
    refine a_rs fun K hK => ?_   -- region 3
    simp only [go_sem, Nat.reduceAdd, Nat.reduceMul, Nat.reduceEqDiff, Nat.reduceLT, Nat.reduceLeDiff, Nat.reduceBEq, h1, hx]
    refine hK _ ?_
    clear hK K
    refine a_rs fun K hK => ?_   -- region 4
    simp (disch := omega) only [go_sem, Nat.reduceAdd, Nat.reduceMul, Nat.reduceEqDiff, Nat.reduceLT, Nat.reduceLeDiff, Nat.reduceBEq, w64, chk_pos, h1, hx]
    refine r_callL (ρ := [(1000, 1000)]) rfl rfl rfl rfl rfl (spec_impl_isAll_1 x k) (by first | rfl | (simp only [go_sem, Nat.reduceAdd, Nat.reduceMul, Nat.reduceEqDiff, Nat.reduceLT, Nat.reduceLeDiff, Nat.reduceBEq, h1, hx]; done) | (simp only [go_sem, Nat.reduceAdd, Nat.reduceMul, Nat.reduceEqDiff, Nat.reduceLT, Nat.reduceLeDiff, Nat.reduceBEq, h1, hx]; rfl)) (by first | rfl | (simp only [go_sem, Nat.reduceAdd, Nat.reduceMul, Nat.reduceEqDiff, Nat.reduceLT, Nat.reduceLeDiff, Nat.reduceBEq, h1, hx]; done) | (simp only [go_sem, Nat.reduceAdd, Nat.reduceMul, Nat.reduceEqDiff, Nat.reduceLT, Nat.reduceLeDiff, Nat.reduceBEq, h1, hx]; rfl)) (by refine ⟨?_, ?_, ?_, ?_⟩ <;> first | rfl | (simp only [go_sem, Nat.reduceAdd, Nat.reduceMul, Nat.reduceEqDiff, Nat.reduceLT, Nat.reduceLeDiff, Nat.reduceBEq, h1, hx]; done) | (simp [go_sem, AV.okIds, AV.ok1]; done)) (by rfl) ?_
    rw [back_cons (by rfl)]
    simp only [go_sem, Nat.reduceAdd, Nat.reduceMul, Nat.reduceEqDiff, Nat.reduceLT, Nat.reduceLeDiff, Nat.reduceBEq, h1, hx]
    refine hK _ ?_
    clear hK K
    refine a_cond rfl (fun h2 => ?_) (fun h2 => ?_)   -- if t16
    · try simp only [Bool.not_eq_true', Bool.not_eq_false', Bool.not_not, Bool.not_eq_eq_eq_not, Bool.not_true, Bool.not_false] at h2
      have h2' := h2
      try simp [inr] at h2'
      refine a_rs fun K hK => ?_   -- region 5
      simp only [go_sem, Nat.reduceAdd, Nat.reduceMul, Nat.reduceEqDiff, Nat.reduceLT, Nat.reduceLeDiff, Nat.reduceBEq, h1, hx, h2]
      refine hK _ ?_
      clear hK K
      refine a_ret ⟨trivial, [.keep [4] []], ?_⟩
      simp only [go_sem, Nat.reduceAdd, Nat.reduceMul, Nat.reduceEqDiff, Nat.reduceLT, Nat.reduceLeDiff, Nat.reduceBEq, h1, hx, h2]
      refine ⟨_, _, rfl, rfl, rfl, ?_, rfl⟩
      simp only [go_sem, Nat.reduceAdd, Nat.reduceMul, Nat.reduceEqDiff, Nat.reduceLT, Nat.reduceLeDiff, Nat.reduceBEq, h1, hx, h2]
      all_goals
        rw [idxOf_found hi.2 hx h2]
    try simp only [Bool.not_eq_true', Bool.not_eq_false', Bool.not_not, Bool.not_eq_eq_eq_not, Bool.not_true, Bool.not_false] at h2
    have h2' := h2
    try simp [inr] at h2'
    refine a_skip ?_
    refine hK3 _ ?_
    clear hK3 K3
    refine a_regP ?_
    simp (disch := omega) only [go_sem, Nat.reduceAdd, Nat.reduceMul, Nat.reduceEqDiff, Nat.reduceLT, Nat.reduceLeDiff, Nat.reduceBEq, w64, chk_pos, h1, hx, h2]
    refine ⟨i + 1, ?_, ?_, ?_⟩   -- round E1
    · try simp (disch := omega) only [go_sem, Nat.reduceAdd, Nat.reduceMul, Nat.reduceEqDiff, Nat.reduceLT, Nat.reduceLeDiff, Nat.reduceBEq, w64, chk_pos, h1, hx, h2]
      try rfl
    all_goals try dsimp only
    · refine ⟨by omega, fun j y hj hy => ?_⟩
      by_cases e : j = i
      · subst e; rw [hx] at hy; obtain rfl := Option.some.inj hy; exact h2
      · exact hi.2 j y (by omega) hy
    · omega
  try simp only [Bool.not_eq_true', Bool.not_eq_false', Bool.not_not, Bool.not_eq_eq_eq_not, Bool.not_true, Bool.not_false] at h1
  have h1' := h1
  try simp [inr] at h1'
  refine a_exit ?_
  simp only [go_sem, Nat.reduceAdd, Nat.reduceMul, Nat.reduceEqDiff, Nat.reduceLT, Nat.reduceLeDiff, Nat.reduceBEq, h1]
  clear hK2 K2
  refine hK1 _ ?_
  clear hK1 K1
  refine a_rs fun K hK => ?_   -- region 7
  simp only [go_sem, Nat.reduceAdd, Nat.reduceMul, Nat.reduceEqDiff, Nat.reduceLT, Nat.reduceLeDiff, Nat.reduceBEq, h1]
  refine hK _ ?_
  clear hK K
  refine a_ret ⟨trivial, [.keep [4] []], ?_⟩
  simp only [go_sem, Nat.reduceAdd, Nat.reduceMul, Nat.reduceEqDiff, Nat.reduceLT, Nat.reduceLeDiff, Nat.reduceBEq, h1]
  refine ⟨_, _, rfl, rfl, rfl, ?_, rfl⟩
  simp only [go_sem, Nat.reduceAdd, Nat.reduceMul, Nat.reduceEqDiff, Nat.reduceLT, Nat.reduceLeDiff, Nat.reduceBEq, h1]
  all_goals
    rw [idxOf_none fun j y hy => hi.2 j y (by have := (List.getElem?_eq_some_iff.1 hy).1; omega) hy]

theorem nm_slices_ContainsFunc___impl_Row_impl_Row_ : (Tryd.f51.name == "runtime.NumGoroutine") = false := by kernel_rfl
theorem spec_ContainsFunc_isAll (l : List Row) (k : Int) (hl : l.length ≤ 1099511627776) :
    Spec Tryd.prog 51 [.sh (.sl 0 (l.map dRow)), .fn 52 [.ptr 1000 0 0]] [(1000, [.int .i64 k])] (.sh (.bool (l.any fun r => r.Kind != k))) [(1000, [.int .i64 k])] := by
  refine spec_of_awp hm (tkI [] [(1002, [(1000, 1000)])]) Tryd.func51 rfl nm_slices_ContainsFunc___impl_Row_impl_Row_ ?_
  rw [Tryd.ntmps51, Sp_start (by simp)]
  simp only [go_sem, Nat.reduceAdd, Nat.reduceMul, Nat.reduceEqDiff, Nat.reduceLT, Nat.reduceLeDiff, Nat.reduceBEq]
  refine a_rs fun K hK => ?_   -- region 0
  simp only [go_sem, Nat.reduceAdd, Nat.reduceMul, Nat.reduceEqDiff, Nat.reduceLT, Nat.reduceLeDiff, Nat.reduceBEq]
  refine hK _ ?_
  clear hK K
  refine a_rs fun K hK => ?_   -- region 1
  simp only [go_sem, Nat.reduceAdd, Nat.reduceMul, Nat.reduceEqDiff, Nat.reduceLT, Nat.reduceLeDiff, Nat.reduceBEq]
  refine r_callL (ρ := [(1000, 1000)]) rfl rfl rfl rfl rfl (spec_IndexFunc_isAll l k hl) (by first | rfl | (simp only [go_sem, Nat.reduceAdd, Nat.reduceMul, Nat.reduceEqDiff, Nat.reduceLT, Nat.reduceLeDiff, Nat.reduceBEq]; done) | (simp only [go_sem, Nat.reduceAdd, Nat.reduceMul, Nat.reduceEqDiff, Nat.reduceLT, Nat.reduceLeDiff, Nat.reduceBEq]; rfl)) (by first | rfl | (simp only [go_sem, Nat.reduceAdd, Nat.reduceMul, Nat.reduceEqDiff, Nat.reduceLT, Nat.reduceLeDiff, Nat.reduceBEq]; done) | (simp only [go_sem, Nat.reduceAdd, Nat.reduceMul, Nat.reduceEqDiff, Nat.reduceLT, Nat.reduceLeDiff, Nat.reduceBEq]; rfl)) (by refine ⟨?_, ?_, ?_, ?_⟩ <;> first | rfl | (simp only [go_sem, Nat.reduceAdd, Nat.reduceMul, Nat.reduceEqDiff, Nat.reduceLT, Nat.reduceLeDiff, Nat.reduceBEq]; done) | (simp [go_sem, AV.okIds, AV.ok1]; done)) (by rfl) ?_
  rw [back_cons (by rfl)]
  simp only [go_sem, Nat.reduceAdd, Nat.reduceMul, Nat.reduceEqDiff, Nat.reduceLT, Nat.reduceLeDiff, Nat.reduceBEq]
  refine hK _ ?_
  clear hK K
  refine a_ret ⟨trivial, [.keep [4] []], ?_⟩
  simp only [go_sem, Nat.reduceAdd, Nat.reduceMul, Nat.reduceEqDiff, Nat.reduceLT, Nat.reduceLeDiff, Nat.reduceBEq]
  refine ⟨_, _, rfl, rfl, rfl, ?_, rfl⟩
  simp only [go_sem, Nat.reduceAdd, Nat.reduceMul, Nat.reduceEqDiff, Nat.reduceLT, Nat.reduceLeDiff, Nat.reduceBEq]
  all_goals
    rw [idxOf_nonneg]

theorem nm_impl_isAll : (Tryd.f34.name == "runtime.NumGoroutine") = false := by kernel_rfl
theorem spec_impl_isAll (g : List Group) (k : Int) (hl : g.length ≤ 1099511627776) (hr : ∀ x ∈ g, x.Rows.length ≤ 1099511627776) :
    Spec Tryd.prog 34 [.sh (.sl 0 (g.map (dGroup tS))), .sh (.int .i64 k)] [] (.sh (.bool (isAll g k))) [] := by
  refine spec_of_awp hm (tkI [] [(3023, [(3, 1000)])]) Tryd.func34 rfl nm_impl_isAll ?_
  rw [Tryd.ntmps34, Sp_start (by simp)]
  simp only [go_sem, Nat.reduceAdd, Nat.reduceMul, Nat.reduceEqDiff, Nat.reduceLT, Nat.reduceLeDiff, Nat.reduceBEq]
  refine a_rs fun K hK => ?_   -- region 0
  simp (disch := omega) only [go_sem, Nat.reduceAdd, Nat.reduceMul, Nat.reduceEqDiff, Nat.reduceLT, Nat.reduceLeDiff, Nat.reduceBEq, w64, chk_pos]
  refine hK _ ?_
  clear hK K
  refine a_seqK fun K1 hK1 => ?_
  refine a_rs fun K hK => ?_   -- region 1
  simp (disch := omega) only [go_sem, Nat.reduceAdd, Nat.reduceMul, Nat.reduceEqDiff, Nat.reduceLT, Nat.reduceLeDiff, Nat.reduceBEq, w64, chk_pos]
  refine hK _ ?_
  clear hK K
  refine a_cond rfl (fun h1 => ?_) (fun h1 => ?_)   -- if t7
  · try simp only [Bool.not_eq_true', Bool.not_eq_false', Bool.not_not, Bool.not_eq_eq_eq_not, Bool.not_true, Bool.not_false] at h1
    have h1' := h1
    try simp [inr] at h1'
    refine a_rs fun K hK => ?_   -- region 2
    simp only [go_sem, Nat.reduceAdd, Nat.reduceMul, Nat.reduceEqDiff, Nat.reduceLT, Nat.reduceLeDiff, Nat.reduceBEq, h1]
    refine hK _ ?_
    clear hK K
    refine a_ret ⟨trivial, [.keep [4] []], ?_⟩
    simp only [go_sem, Nat.reduceAdd, Nat.reduceMul, Nat.reduceEqDiff, Nat.reduceLT, Nat.reduceLeDiff, Nat.reduceBEq, h1]
    refine ⟨_, _, rfl, rfl, rfl, ?_, rfl⟩
    simp only [go_sem, Nat.reduceAdd, Nat.reduceMul, Nat.reduceEqDiff, Nat.reduceLT, Nat.reduceLeDiff, Nat.reduceBEq, h1]
    all_goals
      simp [isAll, h1']
  try simp only [Bool.not_eq_true', Bool.not_eq_false', Bool.not_not, Bool.not_eq_eq_eq_not, Bool.not_true, Bool.not_false] at h1
  have h1' := h1
  try simp [inr] at h1'
  obtain ⟨x, t, rfl⟩ : ∃ x t, g = x :: t := by cases g with | nil => simp at h1' | cons x t => exact ⟨x, t, rfl⟩
  refine a_skip ?_
  refine hK1 _ ?_
  clear hK1 K1
  refine a_rs fun K hK => ?_   -- region 3
  simp (disch := omega) only [go_sem, Nat.reduceAdd, Nat.reduceMul, Nat.reduceEqDiff, Nat.reduceLT, Nat.reduceLeDiff, Nat.reduceBEq, w64, chk_pos, h1]
  refine gIf_both (fun hg1 => ?_) (fun hg1 => ?_)
  · try simp only [Bool.not_eq_true', Bool.not_eq_false', Bool.not_not, Bool.not_eq_eq_eq_not, Bool.not_true, Bool.not_false] at hg1
    have hg1' := hg1
    try simp [inr] at hg1'
    simp (disch := omega) only [go_sem, Nat.reduceAdd, Nat.reduceMul, Nat.reduceEqDiff, Nat.reduceLT, Nat.reduceLeDiff, Nat.reduceBEq, w64, chk_pos, h1, hg1]
    refine gIf_both (fun hg2 => ?_) (fun hg2 => ?_)
    · try simp only [Bool.not_eq_true', Bool.not_eq_false', Bool.not_not, Bool.not_eq_eq_eq_not, Bool.not_true, Bool.not_false] at hg2
      have hg2' := hg2
      try simp [inr] at hg2'
      simp (disch := omega) only [go_sem, Nat.reduceAdd, Nat.reduceMul, Nat.reduceEqDiff, Nat.reduceLT, Nat.reduceLeDiff, Nat.reduceBEq, w64, chk_pos, h1, hg1, hg2]
      refine gIf_both (fun hg3 => ?_) (fun hg3 => ?_)
      · try simp only [Bool.not_eq_true', Bool.not_eq_false', Bool.not_not, Bool.not_eq_eq_eq_not, Bool.not_true, Bool.not_false] at hg3
        have hg3' := hg3
        try simp [inr] at hg3'
        simp (disch := omega) only [go_sem, Nat.reduceAdd, Nat.reduceMul, Nat.reduceEqDiff, Nat.reduceLT, Nat.reduceLeDiff, Nat.reduceBEq, w64, chk_pos, h1, hg1, hg2, hg3]
        refine r_callL (ρ := [(3, 1000)]) rfl rfl rfl rfl rfl (spec_ContainsFunc_isAll x.Rows k (hr x (by simp))) (by first | rfl | (simp only [go_sem, Nat.reduceAdd, Nat.reduceMul, Nat.reduceEqDiff, Nat.reduceLT, Nat.reduceLeDiff, Nat.reduceBEq, h1, hg1, hg2, hg3]; done) | (simp only [go_sem, Nat.reduceAdd, Nat.reduceMul, Nat.reduceEqDiff, Nat.reduceLT, Nat.reduceLeDiff, Nat.reduceBEq, h1, hg1, hg2, hg3]; rfl)) (by first | rfl | (simp only [go_sem, Nat.reduceAdd, Nat.reduceMul, Nat.reduceEqDiff, Nat.reduceLT, Nat.reduceLeDiff, Nat.reduceBEq, h1, hg1, hg2, hg3]; done) | (simp only [go_sem, Nat.reduceAdd, Nat.reduceMul, Nat.reduceEqDiff, Nat.reduceLT, Nat.reduceLeDiff, Nat.reduceBEq, h1, hg1, hg2, hg3]; rfl)) (by refine ⟨?_, ?_, ?_, ?_⟩ <;> first | rfl | (simp only [go_sem, Nat.reduceAdd, Nat.reduceMul, Nat.reduceEqDiff, Nat.reduceLT, Nat.reduceLeDiff, Nat.reduceBEq, h1, hg1, hg2, hg3]; done) | (simp [go_sem, AV.okIds, AV.ok1]; done)) (by rfl) ?_
        rw [back_cons (by rfl)]
        simp only [go_sem, Nat.reduceAdd, Nat.reduceMul, Nat.reduceEqDiff, Nat.reduceLT, Nat.reduceLeDiff, Nat.reduceBEq, h1, hg1, hg2, hg3]
        refine hK _ ?_
        clear hK K
        refine a_ret ⟨trivial, [.keep [4] []], ?_⟩
        simp only [go_sem, Nat.reduceAdd, Nat.reduceMul, Nat.reduceEqDiff, Nat.reduceLT, Nat.reduceLeDiff, Nat.reduceBEq, h1, hg1, hg2, hg3]
        refine ⟨_, _, rfl, rfl, rfl, ?_, rfl⟩
        simp only [go_sem, Nat.reduceAdd, Nat.reduceMul, Nat.reduceEqDiff, Nat.reduceLT, Nat.reduceLeDiff, Nat.reduceBEq, h1, hg1, hg2, hg3]
        all_goals
          cases t with
          | nil => simp_all [isAll, any_ne]
          | cons y t => first | (simp_all [isAll]; done) | (simp_all [isAll]; omega)
      try simp only [Bool.not_eq_true', Bool.not_eq_false', Bool.not_not, Bool.not_eq_eq_eq_not, Bool.not_true, Bool.not_false] at hg3
      have hg3' := hg3
      try simp [inr] at hg3'
      simp (disch := omega) only [go_sem, Nat.reduceAdd, Nat.reduceMul, Nat.reduceEqDiff, Nat.reduceLT, Nat.reduceLeDiff, Nat.reduceBEq, w64, chk_pos, h1, hg1, hg2, hg3]
      refine hK _ ?_
      clear hK K
      refine a_ret ⟨trivial, [.keep [4] []], ?_⟩
      simp only [go_sem, Nat.reduceAdd, Nat.reduceMul, Nat.reduceEqDiff, Nat.reduceLT, Nat.reduceLeDiff, Nat.reduceBEq, h1, hg1, hg2, hg3]
      refine ⟨_, _, rfl, rfl, rfl, ?_, rfl⟩
      simp only [go_sem, Nat.reduceAdd, Nat.reduceMul, Nat.reduceEqDiff, Nat.reduceLT, Nat.reduceLeDiff, Nat.reduceBEq, h1, hg1, hg2, hg3]
      all_goals
        cases t with
        | nil => simp_all [isAll, any_ne]
        | cons y t => first | (simp_all [isAll]; done) | (simp_all [isAll]; omega)
    try simp only [Bool.not_eq_true', Bool.not_eq_false', Bool.not_not, Bool.not_eq_eq_eq_not, Bool.not_true, Bool.not_false] at hg2
    have hg2' := hg2
    try simp [inr] at hg2'
    simp (disch := omega) only [go_sem, Nat.reduceAdd, Nat.reduceMul, Nat.reduceEqDiff, Nat.reduceLT, Nat.reduceLeDiff, Nat.reduceBEq, w64, chk_pos, h1, hg1, hg2]
    refine hK _ ?_
    clear hK K
    refine a_ret ⟨trivial, [.keep [4] []], ?_⟩
    simp only [go_sem, Nat.reduceAdd, Nat.reduceMul, Nat.reduceEqDiff, Nat.reduceLT, Nat.reduceLeDiff, Nat.reduceBEq, h1, hg1, hg2]
    refine ⟨_, _, rfl, rfl, rfl, ?_, rfl⟩
    simp only [go_sem, Nat.reduceAdd, Nat.reduceMul, Nat.reduceEqDiff, Nat.reduceLT, Nat.reduceLeDiff, Nat.reduceBEq, h1, hg1, hg2]
    all_goals
      cases t with
      | nil => simp_all [isAll, any_ne]
      | cons y t => first | (simp_all [isAll]; done) | (simp_all [isAll]; omega)
  try simp only [Bool.not_eq_true', Bool.not_eq_false', Bool.not_not, Bool.not_eq_eq_eq_not, Bool.not_true, Bool.not_false] at hg1
  have hg1' := hg1
  try simp [inr] at hg1'
  simp (disch := omega) only [go_sem, Nat.reduceAdd, Nat.reduceMul, Nat.reduceEqDiff, Nat.reduceLT, Nat.reduceLeDiff, Nat.reduceBEq, w64, chk_pos, h1, hg1]
  refine hK _ ?_
  clear hK K
  refine a_ret ⟨trivial, [.keep [4] []], ?_⟩
  simp only [go_sem, Nat.reduceAdd, Nat.reduceMul, Nat.reduceEqDiff, Nat.reduceLT, Nat.reduceLeDiff, Nat.reduceBEq, h1, hg1]
  refine ⟨_, _, rfl, rfl, rfl, ?_, rfl⟩
  simp only [go_sem, Nat.reduceAdd, Nat.reduceMul, Nat.reduceEqDiff, Nat.reduceLT, Nat.reduceLeDiff, Nat.reduceBEq, h1, hg1]
  all_goals
    cases t with
    | nil => simp_all [isAll, any_ne]
    | cons y t => first | (simp_all [isAll]; done) | (simp_all [isAll]; omega)

theorem nm_spec_l15All : (Tryd.f44.name == "runtime.NumGoroutine") = false := by kernel_rfl
theorem spec_spec_l15All (g : List Group) (k : Int) (hl : g.length ≤ 1099511627776) (hr : ∀ x ∈ g, x.Rows.length ≤ 1099511627776) :
    Spec Tryd.prog 44 [.sh (.sl 0 (g.map (dGroup tS))), .sh (.int .i64 k)] [] (.sh (.bool (isAll g k))) [] := by
  refine spec_of_awp hm (fun _ _ => {}) Tryd.func44 rfl nm_spec_l15All ?_
  rw [Tryd.ntmps44, Sp_start (by simp)]
  simp only [go_sem, Nat.reduceAdd, Nat.reduceMul, Nat.reduceEqDiff, Nat.reduceLT, Nat.reduceLeDiff, Nat.reduceBEq]
  refine a_rs fun K hK => ?_   -- region 0
  simp only [go_sem, Nat.reduceAdd, Nat.reduceMul, Nat.reduceEqDiff, Nat.reduceLT, Nat.reduceLeDiff, Nat.reduceBEq]
  refine hK _ ?_
  clear hK K
  refine a_seqK fun K1 hK1 => ?_
  refine a_rs fun K hK => ?_   -- region 1
  simp (disch := omega) only [go_sem, Nat.reduceAdd, Nat.reduceMul, Nat.reduceEqDiff, Nat.reduceLT, Nat.reduceLeDiff, Nat.reduceBEq, w64, chk_pos]
  refine hK _ ?_
  clear hK K
  refine a_block ?_   -- block 0
  refine a_loopU (ι := Nat) [0, 1, 9, 10] [] (fun i => [(11, .sh (.int .i64 i))]) (fun i => []) (fun i => i ≤ g.length ∧ (g.drop i).all (isAll1 k) = g.all (isAll1 k)) (fun i => g.length - i) 0 ?_ ?_ ?_
  · try simp (disch := omega) only [go_sem, Nat.reduceAdd, Nat.reduceMul, Nat.reduceEqDiff, Nat.reduceLT, Nat.reduceLeDiff, Nat.reduceBEq, w64, chk_pos]
    try rfl
  · simp
  rintro i hi
  simp only [go_sem, Nat.reduceAdd, Nat.reduceMul, Nat.reduceEqDiff, Nat.reduceLT, Nat.reduceLeDiff, Nat.reduceBEq]
  refine a_rs fun K hK => ?_   -- region 2
  simp only [go_sem, Nat.reduceAdd, Nat.reduceMul, Nat.reduceEqDiff, Nat.reduceLT, Nat.reduceLeDiff, Nat.reduceBEq]
  refine hK _ ?_
  clear hK K
  refine a_seqK fun K2 hK2 => ?_
  refine a_cond rfl (fun h1 => ?_) (fun h1 => ?_)   -- if t12
  · try simp only [Bool.not_eq_true', Bool.not_eq_false', Bool.not_not, Bool.not_eq_eq_eq_not, Bool.not_true, Bool.not_false] at h1
    have h1' := h1
    try simp [inr] at h1'
    obtain ⟨x, hx⟩ : ∃ x, g[i]? = some x := ⟨_, List.getElem?_eq_getElem h1'⟩
    have hxr := hr x (List.mem_of_getElem? hx)
    refine a_skip ?_
    refine hK2 _ ?_
    clear hK2 K2
    refine a_seqK fun K3 hK3 => ?_
    refine a_block ?_   -- block 1
    refine a_rs fun K hK => ?_   -- region 3
    simp (disch := omega) only [go_sem, Nat.reduceAdd, Nat.reduceMul, Nat.reduceEqDiff, Nat.reduceLT, Nat.reduceLeDiff, Nat.reduceBEq, w64, chk_pos, h1, hx]
    refine hK _ ?_
    clear hK K
    refine a_seqK fun K4 hK4 => ?_
    refine a_rs fun K hK => ?_   -- region 4
    simp (disch := omega) only [go_sem, Nat.reduceAdd, Nat.reduceMul, Nat.reduceEqDiff, Nat.reduceLT, Nat.reduceLeDiff, Nat.reduceBEq, w64, chk_pos, h1, hx]
    refine hK _ ?_
    clear hK K
    refine a_block ?_   -- block 2
    refine a_loopU (ι := Nat) [0, 1, 6, 9, 10, 11, 16, 17] [6] (fun j => [(18, .sh (.int .i64 j))]) (fun j => [(6, [dGroup tS x])]) (fun j => j ≤ x.Rows.length ∧ (x.Rows.drop j).all (fun r => r.Kind == k) = x.Rows.all (fun r => r.Kind == k)) (fun j => x.Rows.length - j) 0 ?_ ?_ ?_
    · try simp (disch := omega) only [go_sem, Nat.reduceAdd, Nat.reduceMul, Nat.reduceEqDiff, Nat.reduceLT, Nat.reduceLeDiff, Nat.reduceBEq, w64, chk_pos, h1, hx]
      try rfl
    · simp
    rintro j hj
    simp only [go_sem, Nat.reduceAdd, Nat.reduceMul, Nat.reduceEqDiff, Nat.reduceLT, Nat.reduceLeDiff, Nat.reduceBEq, h1, hx]
    refine a_rs fun K hK => ?_   -- region 5
    simp only [go_sem, Nat.reduceAdd, Nat.reduceMul, Nat.reduceEqDiff, Nat.reduceLT, Nat.reduceLeDiff, Nat.reduceBEq, h1, hx]
    refine hK _ ?_
    clear hK K
    refine a_seqK fun K5 hK5 => ?_
    refine a_cond rfl (fun h2 => ?_) (fun h2 => ?_)   -- if t19
    · try simp only [Bool.not_eq_true', Bool.not_eq_false', Bool.not_not, Bool.not_eq_eq_eq_not, Bool.not_true, Bool.not_false] at h2
      have h2' := h2
      try simp [inr] at h2'
      obtain ⟨r, hrr⟩ : ∃ r, x.Rows[j]? = some r := ⟨_, List.getElem?_eq_getElem h2'⟩
      refine a_skip ?_
      refine hK5 _ ?_
      clear hK5 K5
      refine a_seqK fun K6 hK6 => ?_
      refine a_block ?_   -- block 3
      refine a_rs fun K hK => ?_   -- region 6
      simp (disch := omega) only [go_sem, Nat.reduceAdd, Nat.reduceMul, Nat.reduceEqDiff, Nat.reduceLT, Nat.reduceLeDiff, Nat.reduceBEq, w64, chk_pos, h1, hx, h2, hrr]
      refine hK _ ?_
      clear hK K
      refine a_rs fun K hK => ?_   -- region 7
      simp only [go_sem, Nat.reduceAdd, Nat.reduceMul, Nat.reduceEqDiff, Nat.reduceLT, Nat.reduceLeDiff, Nat.reduceBEq, h1, hx, h2, hrr]
      refine hK _ ?_
      clear hK K
      refine a_cond rfl (fun h3 => ?_) (fun h3 => ?_)   -- if t25
      · try simp only [Bool.not_eq_true', Bool.not_eq_false', Bool.not_not, Bool.not_eq_eq_eq_not, Bool.not_true, Bool.not_false] at h3
        have h3' := h3
        try simp [inr] at h3'
        refine a_rs fun K hK => ?_   -- region 8
        simp only [go_sem, Nat.reduceAdd, Nat.reduceMul, Nat.reduceEqDiff, Nat.reduceLT, Nat.reduceLeDiff, Nat.reduceBEq, h1, hx, h2, hrr, h3]
        refine hK _ ?_
        clear hK K
        refine a_ret ⟨trivial, [.keep [4] []], ?_⟩
        simp only [go_sem, Nat.reduceAdd, Nat.reduceMul, Nat.reduceEqDiff, Nat.reduceLT, Nat.reduceLeDiff, Nat.reduceBEq, h1, hx, h2, hrr, h3]
        refine ⟨_, _, rfl, rfl, rfl, ?_, rfl⟩
        simp only [go_sem, Nat.reduceAdd, Nat.reduceMul, Nat.reduceEqDiff, Nat.reduceLT, Nat.reduceLeDiff, Nat.reduceBEq, h1, hx, h2, hrr, h3]
        all_goals
          have : x.Rows.all (fun r => r.Kind == k) = false := by rw [← hj.2, drop_cons hrr, List.all_cons]; simp at h3; simp [h3]
          rw [isAll_false (by rw [← hi.2, drop_cons hx, List.all_cons]; simp [isAll1, this])]
      try simp only [Bool.not_eq_true', Bool.not_eq_false', Bool.not_not, Bool.not_eq_eq_eq_not, Bool.not_true, Bool.not_false] at h3
      have h3' := h3
      try simp [inr] at h3'
      refine a_skip ?_
      refine hK6 _ ?_
      clear hK6 K6
      refine a_regP ?_
      simp (disch := omega) only [go_sem, Nat.reduceAdd, Nat.reduceMul, Nat.reduceEqDiff, Nat.reduceLT, Nat.reduceLeDiff, Nat.reduceBEq, w64, chk_pos, h1, hx, h2, hrr, h3]
      refine ⟨j + 1, ?_, ?_, ?_⟩   -- round E1
      · try simp (disch := omega) only [go_sem, Nat.reduceAdd, Nat.reduceMul, Nat.reduceEqDiff, Nat.reduceLT, Nat.reduceLeDiff, Nat.reduceBEq, w64, chk_pos, h1, hx, h2, hrr, h3]
        try rfl
      all_goals try dsimp only
      · refine ⟨by omega, ?_⟩
        rw [← hj.2, drop_cons hrr, List.all_cons]; simp at h3; simp [h3]
      · omega
    try simp only [Bool.not_eq_true', Bool.not_eq_false', Bool.not_not, Bool.not_eq_eq_eq_not, Bool.not_true, Bool.not_false] at h2
    have h2' := h2
    try simp [inr] at h2'
    have hall : x.Rows.all (fun r => r.Kind == k) = true := by rw [← hj.2, List.drop_eq_nil_iff.2 (by omega)]; rfl
    refine a_exit ?_
    simp only [go_sem, Nat.reduceAdd, Nat.reduceMul, Nat.reduceEqDiff, Nat.reduceLT, Nat.reduceLeDiff, Nat.reduceBEq, h1, hx, h2]
    clear hK5 K5
    refine hK4 _ ?_
    clear hK4 K4
    refine a_rsm [0, 1, 9, 10, 11] [] [(34, .sh (.bool (!(x.At == 0) || !(x.To == 0))))] ?_ ?_   -- region 10
    · simp only [go_sem, Nat.reduceAdd, Nat.reduceMul, Nat.reduceEqDiff, Nat.reduceLT, Nat.reduceLeDiff, Nat.reduceBEq, h1, hx, h2]
      refine gIf_both (fun hg1 => ?_) (fun hg1 => ?_)
      · try simp only [Bool.not_eq_true', Bool.not_eq_false', Bool.not_not, Bool.not_eq_eq_eq_not, Bool.not_true, Bool.not_false] at hg1
        have hg1' := hg1
        try simp [inr] at hg1'
        simp only [go_sem, Nat.reduceAdd, Nat.reduceMul, Nat.reduceEqDiff, Nat.reduceLT, Nat.reduceLeDiff, Nat.reduceBEq, h1, hx, h2, hg1]
        all_goals (first | rfl | ((first | refine sp_hd ?_ | refine sp_hd' ?_) <;> first | rfl | (simp_all; done) | (simp_all [bne]; done)))
      try simp only [Bool.not_eq_true', Bool.not_eq_false', Bool.not_not, Bool.not_eq_eq_eq_not, Bool.not_true, Bool.not_false] at hg1
      have hg1' := hg1
      try simp [inr] at hg1'
      simp only [go_sem, Nat.reduceAdd, Nat.reduceMul, Nat.reduceEqDiff, Nat.reduceLT, Nat.reduceLeDiff, Nat.reduceBEq, h1, hx, h2, hg1]
      all_goals (first | rfl | ((first | refine sp_hd ?_ | refine sp_hd' ?_) <;> first | rfl | (simp_all; done) | (simp_all [bne]; done)))
    simp only [go_sem, Nat.reduceAdd, Nat.reduceMul, Nat.reduceEqDiff, Nat.reduceLT, Nat.reduceLeDiff, Nat.reduceBEq, h1, hx, h2]
    refine a_cond rfl (fun h4 => ?_) (fun h4 => ?_)   -- if t34
    · try simp only [Bool.not_eq_true', Bool.not_eq_false', Bool.not_not, Bool.not_eq_eq_eq_not, Bool.not_true, Bool.not_false] at h4
      have h4' := h4
      try simp [inr] at h4'
      refine a_rs fun K hK => ?_   -- region 11
      simp only [go_sem, Nat.reduceAdd, Nat.reduceMul, Nat.reduceEqDiff, Nat.reduceLT, Nat.reduceLeDiff, Nat.reduceBEq, h1, hx, h2, h4]
      refine hK _ ?_
      clear hK K
      refine a_ret ⟨trivial, [.keep [4] []], ?_⟩
      simp only [go_sem, Nat.reduceAdd, Nat.reduceMul, Nat.reduceEqDiff, Nat.reduceLT, Nat.reduceLeDiff, Nat.reduceBEq, h1, hx, h2, h4]
      refine ⟨_, _, rfl, rfl, rfl, ?_, rfl⟩
      simp only [go_sem, Nat.reduceAdd, Nat.reduceMul, Nat.reduceEqDiff, Nat.reduceLT, Nat.reduceLeDiff, Nat.reduceBEq, h1, hx, h2, h4]
      all_goals
        rw [isAll_false (by rw [← hi.2, drop_cons hx, List.all_cons]; simp at h4; simp [isAll1]; intro a b; simp_all)]
    try simp only [Bool.not_eq_true', Bool.not_eq_false', Bool.not_not, Bool.not_eq_eq_eq_not, Bool.not_true, Bool.not_false] at h4
    have h4' := h4
    try simp [inr] at h4'
    refine a_skip ?_
    refine hK3 _ ?_
    clear hK3 K3
    refine a_regP ?_
    simp (disch := omega) only [go_sem, Nat.reduceAdd, Nat.reduceMul, Nat.reduceEqDiff, Nat.reduceLT, Nat.reduceLeDiff, Nat.reduceBEq, w64, chk_pos, h1, hx, h2, h4]
    refine ⟨i + 1, ?_, ?_, ?_⟩   -- round E2
    · try simp (disch := omega) only [go_sem, Nat.reduceAdd, Nat.reduceMul, Nat.reduceEqDiff, Nat.reduceLT, Nat.reduceLeDiff, Nat.reduceBEq, w64, chk_pos, h1, hx, h2, h4]
      try rfl
    all_goals try dsimp only
    · refine ⟨by omega, ?_⟩
      rw [← hi.2, drop_cons hx, List.all_cons]; simp at h4; simp [isAll1, h4, hall]
    · omega
  try simp only [Bool.not_eq_true', Bool.not_eq_false', Bool.not_not, Bool.not_eq_eq_eq_not, Bool.not_true, Bool.not_false] at h1
  have h1' := h1
  try simp [inr] at h1'
  refine a_exit ?_
  simp only [go_sem, Nat.reduceAdd, Nat.reduceMul, Nat.reduceEqDiff, Nat.reduceLT, Nat.reduceLeDiff, Nat.reduceBEq, h1]
  clear hK2 K2
  refine hK1 _ ?_
  clear hK1 K1
  refine a_rs fun K hK => ?_   -- region 13
  simp (disch := omega) only [go_sem, Nat.reduceAdd, Nat.reduceMul, Nat.reduceEqDiff, Nat.reduceLT, Nat.reduceLeDiff, Nat.reduceBEq, w64, chk_pos, h1]
  refine hK _ ?_
  clear hK K
  refine a_ret ⟨trivial, [.keep [4] []], ?_⟩
  simp only [go_sem, Nat.reduceAdd, Nat.reduceMul, Nat.reduceEqDiff, Nat.reduceLT, Nat.reduceLeDiff, Nat.reduceBEq, h1]
  refine ⟨_, _, rfl, rfl, rfl, ?_, rfl⟩
  simp only [go_sem, Nat.reduceAdd, Nat.reduceMul, Nat.reduceEqDiff, Nat.reduceLT, Nat.reduceLeDiff, Nat.reduceBEq, h1]
  all_goals
    have : g.all (isAll1 k) = true := by rw [← hi.2, List.drop_eq_nil_iff.2 (by omega)]; rfl
    rw [isAll_true this]

theorem nm_spec_l15Diff : (Tryd.f30.name == "runtime.NumGoroutine") = false := by kernel_rfl
theorem spec_spec_l15Diff (d : FDiff) (hn : d.Name.length ≤ 1099511627776) (hl : d.Part.length ≤ 1099511627776) (hr : ∀ g ∈ d.Part, g.Rows.length ≤ 1099511627776) (hs : ∀ g ∈ d.Part, ∀ r ∈ g.Rows, r.Line.length ≤ 1099511627776) :
    Spec Tryd.prog 30 [.sh (dFD tS d)] [] (.sh (.bool (goodPart d))) [] := by
  refine spec_of_awp hm (fun _ _ => {}) Tryd.func30 rfl nm_spec_l15Diff ?_
  rw [Tryd.ntmps30, Sp_start (by simp)]
  simp only [go_sem, Nat.reduceAdd, Nat.reduceMul, Nat.reduceEqDiff, Nat.reduceLT, Nat.reduceLeDiff, Nat.reduceBEq]
  refine a_rs fun K hK => ?_   -- region 0
  simp (disch := omega) only [go_sem, Nat.reduceAdd, Nat.reduceMul, Nat.reduceEqDiff, Nat.reduceLT, Nat.reduceLeDiff, Nat.reduceBEq, w64, chk_pos]
  refine hK _ ?_
  clear hK K
  refine a_seqK fun K1 hK1 => ?_
  refine a_rsm [1] [1] [(12, .sh (.bool (!(isName d.Name && goodGroups d.Part))))] ?_ ?_   -- region 1
  · simp only [go_sem, Nat.reduceAdd, Nat.reduceMul, Nat.reduceEqDiff, Nat.reduceLT, Nat.reduceLeDiff, Nat.reduceBEq]
    refine r_callT rfl rfl rfl rfl rfl (spec_spec_l15Name d.Name hn) (by first | rfl | (simp only [go_sem, Nat.reduceAdd, Nat.reduceMul, Nat.reduceEqDiff, Nat.reduceLT, Nat.reduceLeDiff, Nat.reduceBEq]; done) | (simp only [go_sem, Nat.reduceAdd, Nat.reduceMul, Nat.reduceEqDiff, Nat.reduceLT, Nat.reduceLeDiff, Nat.reduceBEq]; rfl)) (by first | rfl | (simp [AV.okIds, AV.ok1]; done)) (by rfl) ?_
    simp only [go_sem, Nat.reduceAdd, Nat.reduceMul, Nat.reduceEqDiff, Nat.reduceLT, Nat.reduceLeDiff, Nat.reduceBEq]
    refine gIf_both (fun hg1 => ?_) (fun hg1 => ?_)
    · try simp only [Bool.not_eq_true', Bool.not_eq_false', Bool.not_not, Bool.not_eq_eq_eq_not, Bool.not_true, Bool.not_false] at hg1
      have hg1' := hg1
      try simp [inr] at hg1'
      simp only [go_sem, Nat.reduceAdd, Nat.reduceMul, Nat.reduceEqDiff, Nat.reduceLT, Nat.reduceLeDiff, Nat.reduceBEq, hg1]
      refine r_callT rfl rfl rfl rfl rfl (spec_spec_l6Good d.Part hl hr hs) (by first | rfl | (simp only [go_sem, Nat.reduceAdd, Nat.reduceMul, Nat.reduceEqDiff, Nat.reduceLT, Nat.reduceLeDiff, Nat.reduceBEq, hg1]; done) | (simp only [go_sem, Nat.reduceAdd, Nat.reduceMul, Nat.reduceEqDiff, Nat.reduceLT, Nat.reduceLeDiff, Nat.reduceBEq, hg1]; rfl)) (by first | rfl | (simp [AV.okIds, AV.ok1]; done)) (by rfl) ?_
      simp only [go_sem, Nat.reduceAdd, Nat.reduceMul, Nat.reduceEqDiff, Nat.reduceLT, Nat.reduceLeDiff, Nat.reduceBEq, hg1]
      all_goals (first | rfl | ((first | refine sp_hd ?_ | refine sp_hd' ?_) <;> first | rfl | (simp; done) | (simp []; omega) | (simp_all []; done) | (simp_all []; omega)))
    try simp only [Bool.not_eq_true', Bool.not_eq_false', Bool.not_not, Bool.not_eq_eq_eq_not, Bool.not_true, Bool.not_false] at hg1
    have hg1' := hg1
    try simp [inr] at hg1'
    simp only [go_sem, Nat.reduceAdd, Nat.reduceMul, Nat.reduceEqDiff, Nat.reduceLT, Nat.reduceLeDiff, Nat.reduceBEq, hg1]
    all_goals (first | rfl | ((first | refine sp_hd ?_ | refine sp_hd' ?_) <;> first | rfl | (simp; done) | (simp []; omega) | (simp_all []; done) | (simp_all []; omega)))
  simp only [go_sem, Nat.reduceAdd, Nat.reduceMul, Nat.reduceEqDiff, Nat.reduceLT, Nat.reduceLeDiff, Nat.reduceBEq]
  refine a_cond rfl (fun h1 => ?_) (fun h1 => ?_)   -- if t12
  · try simp only [Bool.not_eq_true', Bool.not_eq_false', Bool.not_not, Bool.not_eq_eq_eq_not, Bool.not_true, Bool.not_false] at h1
    have h1' := h1
    try simp [inr] at h1'
    refine a_rs fun K hK => ?_   -- region 2
    simp only [go_sem, Nat.reduceAdd, Nat.reduceMul, Nat.reduceEqDiff, Nat.reduceLT, Nat.reduceLeDiff, Nat.reduceBEq, h1]
    refine hK _ ?_
    clear hK K
    refine a_ret ⟨trivial, [.keep [2] []], ?_⟩
    simp only [go_sem, Nat.reduceAdd, Nat.reduceMul, Nat.reduceEqDiff, Nat.reduceLT, Nat.reduceLeDiff, Nat.reduceBEq, h1]
    refine ⟨_, _, rfl, rfl, rfl, ?_, rfl⟩
    simp only [go_sem, Nat.reduceAdd, Nat.reduceMul, Nat.reduceEqDiff, Nat.reduceLT, Nat.reduceLeDiff, Nat.reduceBEq, h1]
    all_goals
      simp at h1; unfold goodPart; by_cases hh : isName d.Name = true <;> simp_all
  try simp only [Bool.not_eq_true', Bool.not_eq_false', Bool.not_not, Bool.not_eq_eq_eq_not, Bool.not_true, Bool.not_false] at h1
  have h1' := h1
  try simp [inr] at h1'
  refine a_skip ?_
  refine hK1 _ ?_
  clear hK1 K1
  refine a_seqK fun K2 hK2 => ?_
  refine a_rs fun K hK => ?_   -- region 3
  simp only [go_sem, Nat.reduceAdd, Nat.reduceMul, Nat.reduceEqDiff, Nat.reduceLT, Nat.reduceLeDiff, Nat.reduceBEq, h1]
  refine hK _ ?_
  clear hK K
  refine a_block ?_   -- block 0
  refine a_rs fun K hK => ?_   -- region 4
  simp only [go_sem, Nat.reduceAdd, Nat.reduceMul, Nat.reduceEqDiff, Nat.reduceLT, Nat.reduceLeDiff, Nat.reduceBEq, h1]
  refine hK _ ?_
  clear hK K
  refine a_cond rfl (fun h2 => ?_) (fun h2 => ?_)   -- if t15
  · try simp only [Bool.not_eq_true', Bool.not_eq_false', Bool.not_not, Bool.not_eq_eq_eq_not, Bool.not_true, Bool.not_false] at h2
    have h2' := h2
    try simp [inr] at h2'
    refine a_rs fun K hK => ?_   -- region 5
    simp only [go_sem, Nat.reduceAdd, Nat.reduceMul, Nat.reduceEqDiff, Nat.reduceLT, Nat.reduceLeDiff, Nat.reduceBEq, h1, h2]
    refine r_callT rfl rfl rfl rfl rfl (spec_spec_l15All d.Part 3 hl hr) (by first | rfl | (simp only [go_sem, Nat.reduceAdd, Nat.reduceMul, Nat.reduceEqDiff, Nat.reduceLT, Nat.reduceLeDiff, Nat.reduceBEq, h1, h2]; done) | (simp only [go_sem, Nat.reduceAdd, Nat.reduceMul, Nat.reduceEqDiff, Nat.reduceLT, Nat.reduceLeDiff, Nat.reduceBEq, h1, h2]; rfl)) (by first | rfl | (simp [AV.okIds, AV.ok1]; done)) (by rfl) ?_
    simp only [go_sem, Nat.reduceAdd, Nat.reduceMul, Nat.reduceEqDiff, Nat.reduceLT, Nat.reduceLeDiff, Nat.reduceBEq, h1, h2]
    refine hK _ ?_
    clear hK K
    refine a_ret ⟨trivial, [.keep [2] []], ?_⟩
    simp only [go_sem, Nat.reduceAdd, Nat.reduceMul, Nat.reduceEqDiff, Nat.reduceLT, Nat.reduceLeDiff, Nat.reduceBEq, h1, h2]
    refine ⟨_, _, rfl, rfl, rfl, ?_, rfl⟩
    simp only [go_sem, Nat.reduceAdd, Nat.reduceMul, Nat.reduceEqDiff, Nat.reduceLT, Nat.reduceLeDiff, Nat.reduceBEq, h1, h2]
    all_goals
      simp_all [goodPart]
  try simp only [Bool.not_eq_true', Bool.not_eq_false', Bool.not_not, Bool.not_eq_eq_eq_not, Bool.not_true, Bool.not_false] at h2
  have h2' := h2
  try simp [inr] at h2'
  refine a_rs fun K hK => ?_   -- region 6
  simp only [go_sem, Nat.reduceAdd, Nat.reduceMul, Nat.reduceEqDiff, Nat.reduceLT, Nat.reduceLeDiff, Nat.reduceBEq, h1, h2]
  refine hK _ ?_
  clear hK K
  refine a_cond rfl (fun h3 => ?_) (fun h3 => ?_)   -- if t20
  · try simp only [Bool.not_eq_true', Bool.not_eq_false', Bool.not_not, Bool.not_eq_eq_eq_not, Bool.not_true, Bool.not_false] at h3
    have h3' := h3
    try simp [inr] at h3'
    refine a_rs fun K hK => ?_   -- region 7
    simp only [go_sem, Nat.reduceAdd, Nat.reduceMul, Nat.reduceEqDiff, Nat.reduceLT, Nat.reduceLeDiff, Nat.reduceBEq, h1, h2, h3]
    refine r_callT rfl rfl rfl rfl rfl (spec_spec_l15All d.Part 2 hl hr) (by first | rfl | (simp only [go_sem, Nat.reduceAdd, Nat.reduceMul, Nat.reduceEqDiff, Nat.reduceLT, Nat.reduceLeDiff, Nat.reduceBEq, h1, h2, h3]; done) | (simp only [go_sem, Nat.reduceAdd, Nat.reduceMul, Nat.reduceEqDiff, Nat.reduceLT, Nat.reduceLeDiff, Nat.reduceBEq, h1, h2, h3]; rfl)) (by first | rfl | (simp [AV.okIds, AV.ok1]; done)) (by rfl) ?_
    simp only [go_sem, Nat.reduceAdd, Nat.reduceMul, Nat.reduceEqDiff, Nat.reduceLT, Nat.reduceLeDiff, Nat.reduceBEq, h1, h2, h3]
    refine hK _ ?_
    clear hK K
    refine a_ret ⟨trivial, [.keep [2] []], ?_⟩
    simp only [go_sem, Nat.reduceAdd, Nat.reduceMul, Nat.reduceEqDiff, Nat.reduceLT, Nat.reduceLeDiff, Nat.reduceBEq, h1, h2, h3]
    refine ⟨_, _, rfl, rfl, rfl, ?_, rfl⟩
    simp only [go_sem, Nat.reduceAdd, Nat.reduceMul, Nat.reduceEqDiff, Nat.reduceLT, Nat.reduceLeDiff, Nat.reduceBEq, h1, h2, h3]
    all_goals
      simp_all [goodPart]
  try simp only [Bool.not_eq_true', Bool.not_eq_false', Bool.not_not, Bool.not_eq_eq_eq_not, Bool.not_true, Bool.not_false] at h3
  have h3' := h3
  try simp [inr] at h3'
  refine a_skip ?_
  refine hK2 _ ?_
  clear hK2 K2
  refine a_rs fun K hK => ?_   -- region 8
  simp (disch := omega) only [go_sem, Nat.reduceAdd, Nat.reduceMul, Nat.reduceEqDiff, Nat.reduceLT, Nat.reduceLeDiff, Nat.reduceBEq, w64, chk_pos, h1, h2, h3]
  refine gIf_both (fun hg2 => ?_) (fun hg2 => ?_)
  · try simp only [Bool.not_eq_true', Bool.not_eq_false', Bool.not_not, Bool.not_eq_eq_eq_not, Bool.not_true, Bool.not_false] at hg2
    have hg2' := hg2
    try simp [inr] at hg2'
    simp (disch := omega) only [go_sem, Nat.reduceAdd, Nat.reduceMul, Nat.reduceEqDiff, Nat.reduceLT, Nat.reduceLeDiff, Nat.reduceBEq, w64, chk_pos, h1, h2, h3, hg2]
    refine hK _ ?_
    clear hK K
    refine a_ret ⟨trivial, [.keep [2] []], ?_⟩
    simp only [go_sem, Nat.reduceAdd, Nat.reduceMul, Nat.reduceEqDiff, Nat.reduceLT, Nat.reduceLeDiff, Nat.reduceBEq, h1, h2, h3, hg2]
    refine ⟨_, _, rfl, rfl, rfl, ?_, rfl⟩
    simp only [go_sem, Nat.reduceAdd, Nat.reduceMul, Nat.reduceEqDiff, Nat.reduceLT, Nat.reduceLeDiff, Nat.reduceBEq, h1, h2, h3, hg2]
    all_goals
      simp_all [goodPart]
  try simp only [Bool.not_eq_true', Bool.not_eq_false', Bool.not_not, Bool.not_eq_eq_eq_not, Bool.not_true, Bool.not_false] at hg2
  have hg2' := hg2
  try simp [inr] at hg2'
  simp (disch := omega) only [go_sem, Nat.reduceAdd, Nat.reduceMul, Nat.reduceEqDiff, Nat.reduceLT, Nat.reduceLeDiff, Nat.reduceBEq, w64, chk_pos, h1, h2, h3, hg2]
  refine hK _ ?_
  clear hK K
  refine a_ret ⟨trivial, [.keep [2] []], ?_⟩
  simp only [go_sem, Nat.reduceAdd, Nat.reduceMul, Nat.reduceEqDiff, Nat.reduceLT, Nat.reduceLeDiff, Nat.reduceBEq, h1, h2, h3, hg2]
  refine ⟨_, _, rfl, rfl, rfl, ?_, rfl⟩
  simp only [go_sem, Nat.reduceAdd, Nat.reduceMul, Nat.reduceEqDiff, Nat.reduceLT, Nat.reduceLeDiff, Nat.reduceBEq, h1, h2, h3, hg2]
  all_goals
    simp_all [goodPart]

theorem nm_spec_l15Diffs : (Tryd.f18.name == "runtime.NumGoroutine") = false := by kernel_rfl
theorem spec_spec_l15Diffs (l : List FDiff) (hl : l.length ≤ 1099511627776) (hd : ∀ d ∈ l, FDok d) :
    Spec Tryd.prog 18 [.sh (.sl 0 (l.map (dFD tS)))] [] (.sh (.bool (goodDiffs l))) [] := by
  refine spec_of_awp hm (tkT [3000]) Tryd.func18 rfl nm_spec_l15Diffs ?_
  rw [Tryd.ntmps18, Sp_start (by simp)]
  simp only [go_sem, Nat.reduceAdd, Nat.reduceMul, Nat.reduceEqDiff, Nat.reduceLT, Nat.reduceLeDiff, Nat.reduceBEq]
  refine a_rs fun K hK => ?_   -- region 0
  simp only [go_sem, Nat.reduceAdd, Nat.reduceMul, Nat.reduceEqDiff, Nat.reduceLT, Nat.reduceLeDiff, Nat.reduceBEq]
  refine hK _ ?_
  clear hK K
  refine a_seqK fun K1 hK1 => ?_
  refine a_rs fun K hK => ?_   -- region 1
  simp (disch := omega) only [go_sem, Nat.reduceAdd, Nat.reduceMul, Nat.reduceEqDiff, Nat.reduceLT, Nat.reduceLeDiff, Nat.reduceBEq, w64, chk_pos]
  refine hK _ ?_
  clear hK K
  refine a_block ?_   -- block 0
  refine a_loopU (ι := Nat) [0, 5, 6] [] (fun i => [(7, .sh (.int .i64 i))]) (fun i => []) (fun i => i ≤ l.length ∧ chain okD (prevOf l i) (l.drop i) = chain okD none l) (fun i => l.length - i) 0 ?_ ?_ ?_
  · try simp (disch := omega) only [go_sem, Nat.reduceAdd, Nat.reduceMul, Nat.reduceEqDiff, Nat.reduceLT, Nat.reduceLeDiff, Nat.reduceBEq, w64, chk_pos]
    try rfl
  · exact ⟨by omega, rfl⟩
  rintro i hi
  simp only [go_sem, Nat.reduceAdd, Nat.reduceMul, Nat.reduceEqDiff, Nat.reduceLT, Nat.reduceLeDiff, Nat.reduceBEq]
  refine a_rs fun K hK => ?_   -- region 2
  simp only [go_sem, Nat.reduceAdd, Nat.reduceMul, Nat.reduceEqDiff, Nat.reduceLT, Nat.reduceLeDiff, Nat.reduceBEq]
  refine hK _ ?_
  clear hK K
  refine a_seqK fun K2 hK2 => ?_
  refine a_cond rfl (fun h1 => ?_) (fun h1 => ?_)   -- if t8
  · try simp only [Bool.not_eq_true', Bool.not_eq_false', Bool.not_not, Bool.not_eq_eq_eq_not, Bool.not_true, Bool.not_false] at h1
    have h1' := h1
    try simp [inr] at h1'
    obtain ⟨x, hx⟩ : ∃ x, l[i]? = some x := ⟨_, List.getElem?_eq_getElem h1'⟩
    have hxd := hd x (List.mem_of_getElem? hx)
    obtain ⟨y, hy⟩ : ∃ y, l[i - 1]? = some y := ⟨_, List.getElem?_eq_getElem (by omega)⟩
    have hp := prevOf_if hy
    refine a_skip ?_
    refine hK2 _ ?_
    clear hK2 K2
    refine a_seqK fun K3 hK3 => ?_
    refine a_block ?_   -- block 1
    refine a_rs fun K hK => ?_   -- region 3
    simp (disch := omega) only [go_sem, Nat.reduceAdd, Nat.reduceMul, Nat.reduceEqDiff, Nat.reduceLT, Nat.reduceLeDiff, Nat.reduceBEq, w64, chk_pos, h1, hx, hy]
    refine hK _ ?_
    clear hK K
    refine a_rdm rfl [0, 5, 6, 7] [4] [(29, .sh (.bool (!goodPart x || decide (0 < (i : Int)) && !bytesLess y.Name x.Name)))] (fun I hI => ?_) ?_   -- region 4
    · simp (disch := omega) only [go_sem, Nat.reduceAdd, Nat.reduceMul, Nat.reduceEqDiff, Nat.reduceLT, Nat.reduceLeDiff, Nat.reduceBEq, w64, chk_pos, h1, hx, hy]
      refine r_callD0 rfl rfl rfl rfl rfl (spec_spec_l15Diff x hxd.1 hxd.2.1 hxd.2.2.1 hxd.2.2.2) (by first | rfl | (simp only [go_sem, Nat.reduceAdd, Nat.reduceMul, Nat.reduceEqDiff, Nat.reduceLT, Nat.reduceLeDiff, Nat.reduceBEq, h1, hx, hy]; done) | (simp only [go_sem, Nat.reduceAdd, Nat.reduceMul, Nat.reduceEqDiff, Nat.reduceLT, Nat.reduceLeDiff, Nat.reduceBEq, h1, hx, hy]; rfl)) (by first | rfl | (simp [AV.okIds, AV.ok1]; done)) (by rfl) ?_
      simp (disch := omega) only [go_sem, Nat.reduceAdd, Nat.reduceMul, Nat.reduceEqDiff, Nat.reduceLT, Nat.reduceLeDiff, Nat.reduceBEq, w64, chk_pos, h1, hx, hy]
      refine gIf_both (fun hg1 => ?_) (fun hg1 => ?_)
      · try simp only [Bool.not_eq_true', Bool.not_eq_false', Bool.not_not, Bool.not_eq_eq_eq_not, Bool.not_true, Bool.not_false] at hg1
        have hg1' := hg1
        try simp [inr] at hg1'
        simp (disch := omega) only [go_sem, Nat.reduceAdd, Nat.reduceMul, Nat.reduceEqDiff, Nat.reduceLT, Nat.reduceLeDiff, Nat.reduceBEq, w64, chk_pos, h1, hx, hy, hg1]
        refine gIf_both (fun hg2 => ?_) (fun hg2 => ?_)
        · try simp only [Bool.not_eq_true', Bool.not_eq_false', Bool.not_not, Bool.not_eq_eq_eq_not, Bool.not_true, Bool.not_false] at hg2
          have hg2' := hg2
          try simp [inr] at hg2'
          simp (disch := omega) only [go_sem, Nat.reduceAdd, Nat.reduceMul, Nat.reduceEqDiff, Nat.reduceLT, Nat.reduceLeDiff, Nat.reduceBEq, w64, chk_pos, h1, hx, hy, hg1, hg2]
          first | refine ⟨hI _ (by first | kernel_rfl | rfl), ?_⟩ | exact hI _ (by first | kernel_rfl | rfl)
          all_goals (first | rfl | ((first | refine sp_hd ?_ | refine sp_hd' ?_) <;> first | rfl | (simp; done) | (simp []; omega) | (simp_all []; done) | (simp_all []; omega)))
        try simp only [Bool.not_eq_true', Bool.not_eq_false', Bool.not_not, Bool.not_eq_eq_eq_not, Bool.not_true, Bool.not_false] at hg2
        have hg2' := hg2
        try simp [inr] at hg2'
        simp (disch := omega) only [go_sem, Nat.reduceAdd, Nat.reduceMul, Nat.reduceEqDiff, Nat.reduceLT, Nat.reduceLeDiff, Nat.reduceBEq, w64, chk_pos, h1, hx, hy, hg1, hg2]
        first | refine ⟨hI _ (by first | kernel_rfl | rfl), ?_⟩ | exact hI _ (by first | kernel_rfl | rfl)
        all_goals (first | rfl | ((first | refine sp_hd ?_ | refine sp_hd' ?_) <;> first | rfl | (simp; done) | (simp []; omega) | (simp_all []; done) | (simp_all []; omega)))
      try simp only [Bool.not_eq_true', Bool.not_eq_false', Bool.not_not, Bool.not_eq_eq_eq_not, Bool.not_true, Bool.not_false] at hg1
      have hg1' := hg1
      try simp [inr] at hg1'
      simp (disch := omega) only [go_sem, Nat.reduceAdd, Nat.reduceMul, Nat.reduceEqDiff, Nat.reduceLT, Nat.reduceLeDiff, Nat.reduceBEq, w64, chk_pos, h1, hx, hy, hg1]
      first | refine ⟨hI _ (by first | kernel_rfl | rfl), ?_⟩ | exact hI _ (by first | kernel_rfl | rfl)
      all_goals (first | rfl | ((first | refine sp_hd ?_ | refine sp_hd' ?_) <;> first | rfl | (simp; done) | (simp []; omega) | (simp_all []; done) | (simp_all []; omega)))
    simp only [go_sem, Nat.reduceAdd, Nat.reduceMul, Nat.reduceEqDiff, Nat.reduceLT, Nat.reduceLeDiff, Nat.reduceBEq, h1, hx, hy]
    refine a_cond rfl (fun h2 => ?_) (fun h2 => ?_)   -- if t29
    · try simp only [Bool.not_eq_true', Bool.not_eq_false', Bool.not_not, Bool.not_eq_eq_eq_not, Bool.not_true, Bool.not_false] at h2
      have h2' := h2
      try simp [inr] at h2'
      refine a_rs fun K hK => ?_   -- region 5
      simp only [go_sem, Nat.reduceAdd, Nat.reduceMul, Nat.reduceEqDiff, Nat.reduceLT, Nat.reduceLeDiff, Nat.reduceBEq, h1, hx, hy, h2]
      refine hK _ ?_
      clear hK K
      refine a_ret ⟨trivial, [.keep [2] []], ?_⟩
      simp only [go_sem, Nat.reduceAdd, Nat.reduceMul, Nat.reduceEqDiff, Nat.reduceLT, Nat.reduceLeDiff, Nat.reduceBEq, h1, hx, hy, h2]
      refine ⟨_, _, rfl, rfl, rfl, ?_, rfl⟩
      simp only [go_sem, Nat.reduceAdd, Nat.reduceMul, Nat.reduceEqDiff, Nat.reduceLT, Nat.reduceLeDiff, Nat.reduceBEq, h1, hx, hy, h2]
      all_goals
        rw [goodDiffs_bad (by rw [← hi.2]; exact chain_bad hx (by rw [hp]; by_cases h0 : (0 : Int) < i <;> simp_all [okD] <;> intros <;> simp_all))]
    try simp only [Bool.not_eq_true', Bool.not_eq_false', Bool.not_not, Bool.not_eq_eq_eq_not, Bool.not_true, Bool.not_false] at h2
    have h2' := h2
    try simp [inr] at h2'
    refine a_skip ?_
    refine hK3 _ ?_
    clear hK3 K3
    refine a_regP ?_
    simp (disch := omega) only [go_sem, Nat.reduceAdd, Nat.reduceMul, Nat.reduceEqDiff, Nat.reduceLT, Nat.reduceLeDiff, Nat.reduceBEq, w64, chk_pos, h1, hx, hy, h2]
    refine ⟨i + 1, ?_, ?_, ?_⟩   -- round E1
    · try simp (disch := omega) only [go_sem, Nat.reduceAdd, Nat.reduceMul, Nat.reduceEqDiff, Nat.reduceLT, Nat.reduceLeDiff, Nat.reduceBEq, w64, chk_pos, h1, hx, hy, h2]
      try rfl
    all_goals try dsimp only
    · have ho : okD (prevOf l i) x = true := by rw [hp]; by_cases h0 : (0 : Int) < i <;> simp_all [okD]
      exact ⟨by omega, by rw [← hi.2, chain_step hx ho]⟩
    · omega
  try simp only [Bool.not_eq_true', Bool.not_eq_false', Bool.not_not, Bool.not_eq_eq_eq_not, Bool.not_true, Bool.not_false] at h1
  have h1' := h1
  try simp [inr] at h1'
  refine a_exit ?_
  simp only [go_sem, Nat.reduceAdd, Nat.reduceMul, Nat.reduceEqDiff, Nat.reduceLT, Nat.reduceLeDiff, Nat.reduceBEq, h1]
  clear hK2 K2
  refine hK1 _ ?_
  clear hK1 K1
  refine a_rs fun K hK => ?_   -- region 7
  simp (disch := omega) only [go_sem, Nat.reduceAdd, Nat.reduceMul, Nat.reduceEqDiff, Nat.reduceLT, Nat.reduceLeDiff, Nat.reduceBEq, w64, chk_pos, h1]
  refine hK _ ?_
  clear hK K
  refine a_ret ⟨trivial, [.keep [2] []], ?_⟩
  simp only [go_sem, Nat.reduceAdd, Nat.reduceMul, Nat.reduceEqDiff, Nat.reduceLT, Nat.reduceLeDiff, Nat.reduceBEq, h1]
  refine ⟨_, _, rfl, rfl, rfl, ?_, rfl⟩
  simp only [go_sem, Nat.reduceAdd, Nat.reduceMul, Nat.reduceEqDiff, Nat.reduceLT, Nat.reduceLeDiff, Nat.reduceBEq, h1]
  all_goals
    have hdn : l.drop i = [] := List.drop_eq_nil_iff.2 (by omega)
    have hc : chain okD none l = true := by rw [← hi.2, hdn]; rfl
    simp [goodDiffs, hc]; omega

theorem nm_impl_goodDiffs : (Tryd.f20.name == "runtime.NumGoroutine") = false := by kernel_rfl
theorem spec_impl_goodDiffs (l : List FDiff) (hl : l.length ≤ 1099511627776) (hd : ∀ d ∈ l, FDok d) :
    Spec Tryd.prog 20 [.sh (.sl 0 (l.map (dFD tS)))] [] (.sh (.bool (goodDiffs l))) [] := by
  refine spec_of_awp hm (tkT [3000]) Tryd.func20 rfl nm_impl_goodDiffs ?_
  rw [Tryd.ntmps20, Sp_start (by simp)]
  simp only [go_sem, Nat.reduceAdd, Nat.reduceMul, Nat.reduceEqDiff, Nat.reduceLT, Nat.reduceLeDiff, Nat.reduceBEq]
  refine a_rs fun K hK => ?_   -- region 0
  simp only [go_sem, Nat.reduceAdd, Nat.reduceMul, Nat.reduceEqDiff, Nat.reduceLT, Nat.reduceLeDiff, Nat.reduceBEq]
  refine hK _ ?_
  clear hK K
  refine a_seqK fun K1 hK1 => ?_
  refine a_rs fun K hK => ?_   -- region 1
  simp (disch := omega) only [go_sem, Nat.reduceAdd, Nat.reduceMul, Nat.reduceEqDiff, Nat.reduceLT, Nat.reduceLeDiff, Nat.reduceBEq, w64, chk_pos]
  refine hK _ ?_
  clear hK K
  refine a_block ?_   -- block 0
  refine a_loopU (ι := Nat) [0, 6, 7] [] (fun i => [(8, .sh (.int .i64 i))]) (fun i => []) (fun i => i ≤ l.length ∧ chain okD (prevOf l i) (l.drop i) = chain okD none l) (fun i => l.length - i) 0 ?_ ?_ ?_
  · try simp (disch := omega) only [go_sem, Nat.reduceAdd, Nat.reduceMul, Nat.reduceEqDiff, Nat.reduceLT, Nat.reduceLeDiff, Nat.reduceBEq, w64, chk_pos]
    try rfl
  · exact ⟨by omega, rfl⟩
  rintro i hi
  simp only [go_sem, Nat.reduceAdd, Nat.reduceMul, Nat.reduceEqDiff, Nat.reduceLT, Nat.reduceLeDiff, Nat.reduceBEq]
  refine a_rs fun K hK => ?_   -- region 2
  simp only [go_sem, Nat.reduceAdd, Nat.reduceMul, Nat.reduceEqDiff, Nat.reduceLT, Nat.reduceLeDiff, Nat.reduceBEq]
  refine hK _ ?_
  clear hK K
  refine a_seqK fun K2 hK2 => ?_
  refine a_cond rfl (fun h1 => ?_) (fun h1 => ?_)   -- if t9
  · try simp only [Bool.not_eq_true', Bool.not_eq_false', Bool.not_not, Bool.not_eq_eq_eq_not, Bool.not_true, Bool.not_false] at h1
    have h1' := h1
    try simp [inr] at h1'
    obtain ⟨x, hx⟩ : ∃ x, l[i]? = some x := ⟨_, List.getElem?_eq_getElem h1'⟩
    have hxd := hd x (List.mem_of_getElem? hx)
    obtain ⟨y, hy⟩ : ∃ y, l[i - 1]? = some y := ⟨_, List.getElem?_eq_getElem (by omega)⟩
    have hp := prevOf_if hy
    refine a_skip ?_
    refine hK2 _ ?_
    clear hK2 K2
    refine a_seqK fun K3 hK3 => ?_
    refine a_block ?_   -- block 1
    refine a_rs fun K hK => ?_   -- region 3
    simp (disch := omega) only [go_sem, Nat.reduceAdd, Nat.reduceMul, Nat.reduceEqDiff, Nat.reduceLT, Nat.reduceLeDiff, Nat.reduceBEq, w64, chk_pos, h1, hx, hy]
    refine hK _ ?_
    clear hK K
    refine a_seqK fun K4 hK4 => ?_
    refine a_rdm rfl [0, 4, 6, 7, 8] [4] [(37, .sh (.bool (!(isName x.Name && goodGroups x.Part) || decide (0 < (i : Int)) && (bytesLess x.Name y.Name || x.Name == y.Name))))] (fun I hI => ?_) ?_   -- region 4
    · simp (disch := omega) only [go_sem, Nat.reduceAdd, Nat.reduceMul, Nat.reduceEqDiff, Nat.reduceLT, Nat.reduceLeDiff, Nat.reduceBEq, w64, chk_pos, h1, hx, hy]
      refine r_callD0 rfl rfl rfl rfl rfl (spec_impl_isName x.Name hxd.1) (by first | rfl | (simp only [go_sem, Nat.reduceAdd, Nat.reduceMul, Nat.reduceEqDiff, Nat.reduceLT, Nat.reduceLeDiff, Nat.reduceBEq, h1, hx, hy]; done) | (simp only [go_sem, Nat.reduceAdd, Nat.reduceMul, Nat.reduceEqDiff, Nat.reduceLT, Nat.reduceLeDiff, Nat.reduceBEq, h1, hx, hy]; rfl)) (by first | rfl | (simp [AV.okIds, AV.ok1]; done)) (by rfl) ?_
      simp (disch := omega) only [go_sem, Nat.reduceAdd, Nat.reduceMul, Nat.reduceEqDiff, Nat.reduceLT, Nat.reduceLeDiff, Nat.reduceBEq, w64, chk_pos, h1, hx, hy]
      refine gIf_both (fun hg1 => ?_) (fun hg1 => ?_)
      · try simp only [Bool.not_eq_true', Bool.not_eq_false', Bool.not_not, Bool.not_eq_eq_eq_not, Bool.not_true, Bool.not_false] at hg1
        have hg1' := hg1
        try simp [inr] at hg1'
        simp (disch := omega) only [go_sem, Nat.reduceAdd, Nat.reduceMul, Nat.reduceEqDiff, Nat.reduceLT, Nat.reduceLeDiff, Nat.reduceBEq, w64, chk_pos, h1, hx, hy, hg1]
        refine r_callD0 rfl rfl rfl rfl rfl (spec_impl_goodGroups x.Part hxd.2.1 hxd.2.2.1 hxd.2.2.2) (by first | rfl | (simp only [go_sem, Nat.reduceAdd, Nat.reduceMul, Nat.reduceEqDiff, Nat.reduceLT, Nat.reduceLeDiff, Nat.reduceBEq, h1, hx, hy, hg1]; done) | (simp only [go_sem, Nat.reduceAdd, Nat.reduceMul, Nat.reduceEqDiff, Nat.reduceLT, Nat.reduceLeDiff, Nat.reduceBEq, h1, hx, hy, hg1]; rfl)) (by first | rfl | (simp [AV.okIds, AV.ok1]; done)) (by rfl) ?_
        simp (disch := omega) only [go_sem, Nat.reduceAdd, Nat.reduceMul, Nat.reduceEqDiff, Nat.reduceLT, Nat.reduceLeDiff, Nat.reduceBEq, w64, chk_pos, h1, hx, hy, hg1]
        refine gIf_both (fun hg2 => ?_) (fun hg2 => ?_)
        · try simp only [Bool.not_eq_true', Bool.not_eq_false', Bool.not_not, Bool.not_eq_eq_eq_not, Bool.not_true, Bool.not_false] at hg2
          have hg2' := hg2
          try simp [inr] at hg2'
          simp (disch := omega) only [go_sem, Nat.reduceAdd, Nat.reduceMul, Nat.reduceEqDiff, Nat.reduceLT, Nat.reduceLeDiff, Nat.reduceBEq, w64, chk_pos, h1, hx, hy, hg1, hg2]
          refine gIf_both (fun hg3 => ?_) (fun hg3 => ?_)
          · try simp only [Bool.not_eq_true', Bool.not_eq_false', Bool.not_not, Bool.not_eq_eq_eq_not, Bool.not_true, Bool.not_false] at hg3
            have hg3' := hg3
            try simp [inr] at hg3'
            simp (disch := omega) only [go_sem, Nat.reduceAdd, Nat.reduceMul, Nat.reduceEqDiff, Nat.reduceLT, Nat.reduceLeDiff, Nat.reduceBEq, w64, chk_pos, h1, hx, hy, hg1, hg2, hg3]
            first | refine ⟨hI _ (by first | kernel_rfl | rfl), ?_⟩ | exact hI _ (by first | kernel_rfl | rfl)
            all_goals (first | rfl | ((first | refine sp_hd ?_ | refine sp_hd' ?_) <;> first | rfl | (simp; done) | (simp []; omega) | (simp_all []; done) | (simp_all []; omega)))
          try simp only [Bool.not_eq_true', Bool.not_eq_false', Bool.not_not, Bool.not_eq_eq_eq_not, Bool.not_true, Bool.not_false] at hg3
          have hg3' := hg3
          try simp [inr] at hg3'
          simp (disch := omega) only [go_sem, Nat.reduceAdd, Nat.reduceMul, Nat.reduceEqDiff, Nat.reduceLT, Nat.reduceLeDiff, Nat.reduceBEq, w64, chk_pos, h1, hx, hy, hg1, hg2, hg3]
          first | refine ⟨hI _ (by first | kernel_rfl | rfl), ?_⟩ | exact hI _ (by first | kernel_rfl | rfl)
          all_goals (first | rfl | ((first | refine sp_hd ?_ | refine sp_hd' ?_) <;> first | rfl | (simp; done) | (simp []; omega) | (simp_all []; done) | (simp_all []; omega)))
        try simp only [Bool.not_eq_true', Bool.not_eq_false', Bool.not_not, Bool.not_eq_eq_eq_not, Bool.not_true, Bool.not_false] at hg2
        have hg2' := hg2
        try simp [inr] at hg2'
        simp (disch := omega) only [go_sem, Nat.reduceAdd, Nat.reduceMul, Nat.reduceEqDiff, Nat.reduceLT, Nat.reduceLeDiff, Nat.reduceBEq, w64, chk_pos, h1, hx, hy, hg1, hg2]
        first | refine ⟨hI _ (by first | kernel_rfl | rfl), ?_⟩ | exact hI _ (by first | kernel_rfl | rfl)
        all_goals (first | rfl | ((first | refine sp_hd ?_ | refine sp_hd' ?_) <;> first | rfl | (simp; done) | (simp []; omega) | (simp_all []; done) | (simp_all []; omega)))
      try simp only [Bool.not_eq_true', Bool.not_eq_false', Bool.not_not, Bool.not_eq_eq_eq_not, Bool.not_true, Bool.not_false] at hg1
      have hg1' := hg1
      try simp [inr] at hg1'
      simp (disch := omega) only [go_sem, Nat.reduceAdd, Nat.reduceMul, Nat.reduceEqDiff, Nat.reduceLT, Nat.reduceLeDiff, Nat.reduceBEq, w64, chk_pos, h1, hx, hy, hg1]
      first | refine ⟨hI _ (by first | kernel_rfl | rfl), ?_⟩ | exact hI _ (by first | kernel_rfl | rfl)
      all_goals (first | rfl | ((first | refine sp_hd ?_ | refine sp_hd' ?_) <;> first | rfl | (simp; done) | (simp []; omega) | (simp_all []; done) | (simp_all []; omega)))
    simp only [go_sem, Nat.reduceAdd, Nat.reduceMul, Nat.reduceEqDiff, Nat.reduceLT, Nat.reduceLeDiff, Nat.reduceBEq, h1, hx, hy]
    refine a_cond rfl (fun h2 => ?_) (fun h2 => ?_)   -- if t37
    · try simp only [Bool.not_eq_true', Bool.not_eq_false', Bool.not_not, Bool.not_eq_eq_eq_not, Bool.not_true, Bool.not_false] at h2
      have h2' := h2
      try simp [inr] at h2'
      refine a_rs fun K hK => ?_   -- region 5
      simp only [go_sem, Nat.reduceAdd, Nat.reduceMul, Nat.reduceEqDiff, Nat.reduceLT, Nat.reduceLeDiff, Nat.reduceBEq, h1, hx, hy, h2]
      refine hK _ ?_
      clear hK K
      refine a_ret ⟨trivial, [.keep [2] []], ?_⟩
      simp only [go_sem, Nat.reduceAdd, Nat.reduceMul, Nat.reduceEqDiff, Nat.reduceLT, Nat.reduceLeDiff, Nat.reduceBEq, h1, hx, hy, h2]
      refine ⟨_, _, rfl, rfl, rfl, ?_, rfl⟩
      simp only [go_sem, Nat.reduceAdd, Nat.reduceMul, Nat.reduceEqDiff, Nat.reduceLT, Nat.reduceLeDiff, Nat.reduceBEq, h1, hx, hy, h2]
      all_goals
        rw [goodDiffs_bad (by rw [← hi.2]; exact chain_bad hx (by have := less_tri x.Name y.Name; rw [hp]; by_cases h0 : (0 : Int) < i <;> simp_all [okD, goodPart] <;> intros <;> simp_all))]
    try simp only [Bool.not_eq_true', Bool.not_eq_false', Bool.not_not, Bool.not_eq_eq_eq_not, Bool.not_true, Bool.not_false] at h2
    have h2' := h2
    try simp [inr] at h2'
    refine a_skip ?_
    refine hK4 _ ?_
    clear hK4 K4
    refine a_rs fun K hK => ?_   -- region 6
    simp only [go_sem, Nat.reduceAdd, Nat.reduceMul, Nat.reduceEqDiff, Nat.reduceLT, Nat.reduceLeDiff, Nat.reduceBEq, h1, hx, hy, h2]
    refine hK _ ?_
    clear hK K
    refine a_seqK fun K5 hK5 => ?_
    refine a_rs fun K hK => ?_   -- region 7
    simp only [go_sem, Nat.reduceAdd, Nat.reduceMul, Nat.reduceEqDiff, Nat.reduceLT, Nat.reduceLeDiff, Nat.reduceBEq, h1, hx, hy, h2]
    refine hK _ ?_
    clear hK K
    refine a_block ?_   -- block 2
    refine a_rs fun K hK => ?_   -- region 8
    simp only [go_sem, Nat.reduceAdd, Nat.reduceMul, Nat.reduceEqDiff, Nat.reduceLT, Nat.reduceLeDiff, Nat.reduceBEq, h1, hx, hy, h2]
    refine hK _ ?_
    clear hK K
    refine a_cond rfl (fun h3 => ?_) (fun h3 => ?_)   -- if t40
    · try simp only [Bool.not_eq_true', Bool.not_eq_false', Bool.not_not, Bool.not_eq_eq_eq_not, Bool.not_true, Bool.not_false] at h3
      have h3' := h3
      try simp [inr] at h3'
      refine a_regP ?_
      simp only [go_sem, Nat.reduceAdd, Nat.reduceMul, Nat.reduceEqDiff, Nat.reduceLT, Nat.reduceLeDiff, Nat.reduceBEq, h1, hx, hy, h2, h3]
      refine r_callT rfl rfl rfl rfl rfl (spec_impl_isAll x.Part 3 hxd.2.1 hxd.2.2.1) (by first | rfl | (simp only [go_sem, Nat.reduceAdd, Nat.reduceMul, Nat.reduceEqDiff, Nat.reduceLT, Nat.reduceLeDiff, Nat.reduceBEq, h1, hx, hy, h2, h3]; done) | (simp only [go_sem, Nat.reduceAdd, Nat.reduceMul, Nat.reduceEqDiff, Nat.reduceLT, Nat.reduceLeDiff, Nat.reduceBEq, h1, hx, hy, h2, h3]; rfl)) (by first | rfl | (simp [AV.okIds, AV.ok1]; done)) (by rfl) ?_
      simp only [go_sem, Nat.reduceAdd, Nat.reduceMul, Nat.reduceEqDiff, Nat.reduceLT, Nat.reduceLeDiff, Nat.reduceBEq, h1, hx, hy, h2, h3]
      refine hK5 _ ?_
      clear hK5 K5
      refine a_rs fun K hK => ?_   -- region 14
      simp only [go_sem, Nat.reduceAdd, Nat.reduceMul, Nat.reduceEqDiff, Nat.reduceLT, Nat.reduceLeDiff, Nat.reduceBEq, h1, hx, hy, h2, h3]
      refine hK _ ?_
      clear hK K
      refine a_cond rfl (fun h6 => ?_) (fun h6 => ?_)   -- if t57
      · try simp only [Bool.not_eq_true', Bool.not_eq_false', Bool.not_not, Bool.not_eq_eq_eq_not, Bool.not_true, Bool.not_false] at h6
        have h6' := h6
        try simp [inr] at h6'
        refine a_rs fun K hK => ?_   -- region 15
        simp only [go_sem, Nat.reduceAdd, Nat.reduceMul, Nat.reduceEqDiff, Nat.reduceLT, Nat.reduceLeDiff, Nat.reduceBEq, h1, hx, hy, h2, h3, h6]
        refine hK _ ?_
        clear hK K
        refine a_ret ⟨trivial, [.keep [2] []], ?_⟩
        simp only [go_sem, Nat.reduceAdd, Nat.reduceMul, Nat.reduceEqDiff, Nat.reduceLT, Nat.reduceLeDiff, Nat.reduceBEq, h1, hx, hy, h2, h3, h6]
        refine ⟨_, _, rfl, rfl, rfl, ?_, rfl⟩
        simp only [go_sem, Nat.reduceAdd, Nat.reduceMul, Nat.reduceEqDiff, Nat.reduceLT, Nat.reduceLeDiff, Nat.reduceBEq, h1, hx, hy, h2, h3, h6]
        all_goals
          rw [goodDiffs_bad (by rw [← hi.2]; exact chain_bad hx (by rw [okD_parts]; simp_all))]
      try simp only [Bool.not_eq_true', Bool.not_eq_false', Bool.not_not, Bool.not_eq_eq_eq_not, Bool.not_true, Bool.not_false] at h6
      have h6' := h6
      try simp [inr] at h6'
      all_goals
        refine a_skip ?_
        refine hK3 _ ?_
        clear hK3 K3
        refine a_regP ?_
        simp (disch := omega) only [go_sem, Nat.reduceAdd, Nat.reduceMul, Nat.reduceEqDiff, Nat.reduceLT, Nat.reduceLeDiff, Nat.reduceBEq, w64, chk_pos, h1, hx, hy, h2, h3, h6]
        refine ⟨i + 1, ?_, ?_, ?_⟩   -- round E1
        · try simp (disch := omega) only [go_sem, Nat.reduceAdd, Nat.reduceMul, Nat.reduceEqDiff, Nat.reduceLT, Nat.reduceLeDiff, Nat.reduceBEq, w64, chk_pos, h1, hx, hy, h2, h3, h6]
          try rfl
        all_goals try dsimp only
        · have ho : okD (prevOf l i) x = true := by have := less_tri x.Name y.Name; rw [hp, okD_parts]; by_cases h0 : (0 : Int) < i <;> simp_all
          exact ⟨by omega, by rw [← hi.2, chain_step hx ho]⟩
        · omega
    try simp only [Bool.not_eq_true', Bool.not_eq_false', Bool.not_not, Bool.not_eq_eq_eq_not, Bool.not_true, Bool.not_false] at h3
    have h3' := h3
    try simp [inr] at h3'
    refine a_rs fun K hK => ?_   -- region 10
    simp only [go_sem, Nat.reduceAdd, Nat.reduceMul, Nat.reduceEqDiff, Nat.reduceLT, Nat.reduceLeDiff, Nat.reduceBEq, h1, hx, hy, h2, h3]
    refine hK _ ?_
    clear hK K
    refine a_cond rfl (fun h4 => ?_) (fun h4 => ?_)   -- if t45
    · try simp only [Bool.not_eq_true', Bool.not_eq_false', Bool.not_not, Bool.not_eq_eq_eq_not, Bool.not_true, Bool.not_false] at h4
      have h4' := h4
      try simp [inr] at h4'
      refine a_regP ?_
      simp only [go_sem, Nat.reduceAdd, Nat.reduceMul, Nat.reduceEqDiff, Nat.reduceLT, Nat.reduceLeDiff, Nat.reduceBEq, h1, hx, hy, h2, h3, h4]
      refine r_callT rfl rfl rfl rfl rfl (spec_impl_isAll x.Part 2 hxd.2.1 hxd.2.2.1) (by first | rfl | (simp only [go_sem, Nat.reduceAdd, Nat.reduceMul, Nat.reduceEqDiff, Nat.reduceLT, Nat.reduceLeDiff, Nat.reduceBEq, h1, hx, hy, h2, h3, h4]; done) | (simp only [go_sem, Nat.reduceAdd, Nat.reduceMul, Nat.reduceEqDiff, Nat.reduceLT, Nat.reduceLeDiff, Nat.reduceBEq, h1, hx, hy, h2, h3, h4]; rfl)) (by first | rfl | (simp [AV.okIds, AV.ok1]; done)) (by rfl) ?_
      simp only [go_sem, Nat.reduceAdd, Nat.reduceMul, Nat.reduceEqDiff, Nat.reduceLT, Nat.reduceLeDiff, Nat.reduceBEq, h1, hx, hy, h2, h3, h4]
      refine hK5 _ ?_
      clear hK5 K5
      refine a_rs fun K hK => ?_   -- region 14
      simp only [go_sem, Nat.reduceAdd, Nat.reduceMul, Nat.reduceEqDiff, Nat.reduceLT, Nat.reduceLeDiff, Nat.reduceBEq, h1, hx, hy, h2, h3, h4]
      refine hK _ ?_
      clear hK K
      refine a_cond rfl (fun h6 => ?_) (fun h6 => ?_)   -- if t57
      · try simp only [Bool.not_eq_true', Bool.not_eq_false', Bool.not_not, Bool.not_eq_eq_eq_not, Bool.not_true, Bool.not_false] at h6
        have h6' := h6
        try simp [inr] at h6'
        refine a_rs fun K hK => ?_   -- region 15
        simp only [go_sem, Nat.reduceAdd, Nat.reduceMul, Nat.reduceEqDiff, Nat.reduceLT, Nat.reduceLeDiff, Nat.reduceBEq, h1, hx, hy, h2, h3, h4, h6]
        refine hK _ ?_
        clear hK K
        refine a_ret ⟨trivial, [.keep [2] []], ?_⟩
        simp only [go_sem, Nat.reduceAdd, Nat.reduceMul, Nat.reduceEqDiff, Nat.reduceLT, Nat.reduceLeDiff, Nat.reduceBEq, h1, hx, hy, h2, h3, h4, h6]
        refine ⟨_, _, rfl, rfl, rfl, ?_, rfl⟩
        simp only [go_sem, Nat.reduceAdd, Nat.reduceMul, Nat.reduceEqDiff, Nat.reduceLT, Nat.reduceLeDiff, Nat.reduceBEq, h1, hx, hy, h2, h3, h4, h6]
        all_goals
          rw [goodDiffs_bad (by rw [← hi.2]; exact chain_bad hx (by rw [okD_parts]; simp_all))]
      try simp only [Bool.not_eq_true', Bool.not_eq_false', Bool.not_not, Bool.not_eq_eq_eq_not, Bool.not_true, Bool.not_false] at h6
      have h6' := h6
      try simp [inr] at h6'
      all_goals
        refine a_skip ?_
        refine hK3 _ ?_
        clear hK3 K3
        refine a_regP ?_
        simp (disch := omega) only [go_sem, Nat.reduceAdd, Nat.reduceMul, Nat.reduceEqDiff, Nat.reduceLT, Nat.reduceLeDiff, Nat.reduceBEq, w64, chk_pos, h1, hx, hy, h2, h3, h4, h6]
        refine ⟨i + 1, ?_, ?_, ?_⟩   -- round E2
        · try simp (disch := omega) only [go_sem, Nat.reduceAdd, Nat.reduceMul, Nat.reduceEqDiff, Nat.reduceLT, Nat.reduceLeDiff, Nat.reduceBEq, w64, chk_pos, h1, hx, hy, h2, h3, h4, h6]
          try rfl
        all_goals try dsimp only
        · have ho : okD (prevOf l i) x = true := by have := less_tri x.Name y.Name; rw [hp, okD_parts]; by_cases h0 : (0 : Int) < i <;> simp_all
          exact ⟨by omega, by rw [← hi.2, chain_step hx ho]⟩
        · omega
    try simp only [Bool.not_eq_true', Bool.not_eq_false', Bool.not_not, Bool.not_eq_eq_eq_not, Bool.not_true, Bool.not_false] at h4
    have h4' := h4
    try simp [inr] at h4'
    refine a_rs fun K hK => ?_   -- region 12
    simp only [go_sem, Nat.reduceAdd, Nat.reduceMul, Nat.reduceEqDiff, Nat.reduceLT, Nat.reduceLeDiff, Nat.reduceBEq, h1, hx, hy, h2, h3, h4]
    refine hK _ ?_
    clear hK K
    refine a_cond rfl (fun h5 => ?_) (fun h5 => ?_)   -- if t50
    · try simp only [Bool.not_eq_true', Bool.not_eq_false', Bool.not_not, Bool.not_eq_eq_eq_not, Bool.not_true, Bool.not_false] at h5
      have h5' := h5
      try simp [inr] at h5'
      refine a_regP ?_
      simp (disch := omega) only [go_sem, Nat.reduceAdd, Nat.reduceMul, Nat.reduceEqDiff, Nat.reduceLT, Nat.reduceLeDiff, Nat.reduceBEq, w64, chk_pos, h1, hx, hy, h2, h3, h4, h5]
      refine hK5 _ ?_
      clear hK5 K5
      refine a_rs fun K hK => ?_   -- region 14
      simp only [go_sem, Nat.reduceAdd, Nat.reduceMul, Nat.reduceEqDiff, Nat.reduceLT, Nat.reduceLeDiff, Nat.reduceBEq, h1, hx, hy, h2, h3, h4, h5]
      refine hK _ ?_
      clear hK K
      refine a_cond rfl (fun h6 => ?_) (fun h6 => ?_)   -- if t57
      · try simp only [Bool.not_eq_true', Bool.not_eq_false', Bool.not_not, Bool.not_eq_eq_eq_not, Bool.not_true, Bool.not_false] at h6
        have h6' := h6
        try simp [inr] at h6'
        refine a_rs fun K hK => ?_   -- region 15
        simp only [go_sem, Nat.reduceAdd, Nat.reduceMul, Nat.reduceEqDiff, Nat.reduceLT, Nat.reduceLeDiff, Nat.reduceBEq, h1, hx, hy, h2, h3, h4, h5, h6]
        refine hK _ ?_
        clear hK K
        refine a_ret ⟨trivial, [.keep [2] []], ?_⟩
        simp only [go_sem, Nat.reduceAdd, Nat.reduceMul, Nat.reduceEqDiff, Nat.reduceLT, Nat.reduceLeDiff, Nat.reduceBEq, h1, hx, hy, h2, h3, h4, h5, h6]
        refine ⟨_, _, rfl, rfl, rfl, ?_, rfl⟩
        simp only [go_sem, Nat.reduceAdd, Nat.reduceMul, Nat.reduceEqDiff, Nat.reduceLT, Nat.reduceLeDiff, Nat.reduceBEq, h1, hx, hy, h2, h3, h4, h5, h6]
        all_goals
          rw [goodDiffs_bad (by rw [← hi.2]; exact chain_bad hx (by rw [okD_parts]; simp_all))]
      try simp only [Bool.not_eq_true', Bool.not_eq_false', Bool.not_not, Bool.not_eq_eq_eq_not, Bool.not_true, Bool.not_false] at h6
      have h6' := h6
      try simp [inr] at h6'
      all_goals
        refine a_skip ?_
        refine hK3 _ ?_
        clear hK3 K3
        refine a_regP ?_
        simp (disch := omega) only [go_sem, Nat.reduceAdd, Nat.reduceMul, Nat.reduceEqDiff, Nat.reduceLT, Nat.reduceLeDiff, Nat.reduceBEq, w64, chk_pos, h1, hx, hy, h2, h3, h4, h5, h6]
        refine ⟨i + 1, ?_, ?_, ?_⟩   -- round E3
        · try simp (disch := omega) only [go_sem, Nat.reduceAdd, Nat.reduceMul, Nat.reduceEqDiff, Nat.reduceLT, Nat.reduceLeDiff, Nat.reduceBEq, w64, chk_pos, h1, hx, hy, h2, h3, h4, h5, h6]
          try rfl
        all_goals try dsimp only
        · have ho : okD (prevOf l i) x = true := by have := less_tri x.Name y.Name; rw [hp, okD_parts]; by_cases h0 : (0 : Int) < i <;> simp_all
          exact ⟨by omega, by rw [← hi.2, chain_step hx ho]⟩
        · omega
    try simp only [Bool.not_eq_true', Bool.not_eq_false', Bool.not_not, Bool.not_eq_eq_eq_not, Bool.not_true, Bool.not_false] at h5
    have h5' := h5
    try simp [inr] at h5'
    refine a_skip ?_
    refine hK5 _ ?_
    clear hK5 K5
    refine a_rs fun K hK => ?_   -- region 14
    simp only [go_sem, Nat.reduceAdd, Nat.reduceMul, Nat.reduceEqDiff, Nat.reduceLT, Nat.reduceLeDiff, Nat.reduceBEq, h1, hx, hy, h2, h3, h4, h5]
    refine hK _ ?_
    clear hK K
    refine a_cond rfl (fun h6 => ?_) (fun h6 => ?_)   -- if t57
    · try simp only [Bool.not_eq_true', Bool.not_eq_false', Bool.not_not, Bool.not_eq_eq_eq_not, Bool.not_true, Bool.not_false] at h6
      have h6' := h6
      try simp [inr] at h6'
      refine a_rs fun K hK => ?_   -- region 15
      simp only [go_sem, Nat.reduceAdd, Nat.reduceMul, Nat.reduceEqDiff, Nat.reduceLT, Nat.reduceLeDiff, Nat.reduceBEq, h1, hx, hy, h2, h3, h4, h5, h6]
      refine hK _ ?_
      clear hK K
      refine a_ret ⟨trivial, [.keep [2] []], ?_⟩
      simp only [go_sem, Nat.reduceAdd, Nat.reduceMul, Nat.reduceEqDiff, Nat.reduceLT, Nat.reduceLeDiff, Nat.reduceBEq, h1, hx, hy, h2, h3, h4, h5, h6]
      refine ⟨_, _, rfl, rfl, rfl, ?_, rfl⟩
      simp only [go_sem, Nat.reduceAdd, Nat.reduceMul, Nat.reduceEqDiff, Nat.reduceLT, Nat.reduceLeDiff, Nat.reduceBEq, h1, hx, hy, h2, h3, h4, h5, h6]
      all_goals
        rw [goodDiffs_bad (by rw [← hi.2]; exact chain_bad hx (by rw [okD_parts]; simp_all))]
    try simp only [Bool.not_eq_true', Bool.not_eq_false', Bool.not_not, Bool.not_eq_eq_eq_not, Bool.not_true, Bool.not_false] at h6
    have h6' := h6
    try simp [inr] at h6'
    all_goals
      refine a_skip ?_
      refine hK3 _ ?_
      clear hK3 K3
      refine a_regP ?_
      simp (disch := omega) only [go_sem, Nat.reduceAdd, Nat.reduceMul, Nat.reduceEqDiff, Nat.reduceLT, Nat.reduceLeDiff, Nat.reduceBEq, w64, chk_pos, h1, hx, hy, h2, h3, h4, h5, h6]
      refine ⟨i + 1, ?_, ?_, ?_⟩   -- round E4
      · try simp (disch := omega) only [go_sem, Nat.reduceAdd, Nat.reduceMul, Nat.reduceEqDiff, Nat.reduceLT, Nat.reduceLeDiff, Nat.reduceBEq, w64, chk_pos, h1, hx, hy, h2, h3, h4, h5, h6]
        try rfl
      all_goals try dsimp only
      · have ho : okD (prevOf l i) x = true := by have := less_tri x.Name y.Name; rw [hp, okD_parts]; by_cases h0 : (0 : Int) < i <;> simp_all
        exact ⟨by omega, by rw [← hi.2, chain_step hx ho]⟩
      · omega
  try simp only [Bool.not_eq_true', Bool.not_eq_false', Bool.not_not, Bool.not_eq_eq_eq_not, Bool.not_true, Bool.not_false] at h1
  have h1' := h1
  try simp [inr] at h1'
  refine a_exit ?_
  simp only [go_sem, Nat.reduceAdd, Nat.reduceMul, Nat.reduceEqDiff, Nat.reduceLT, Nat.reduceLeDiff, Nat.reduceBEq, h1]
  clear hK2 K2
  refine hK1 _ ?_
  clear hK1 K1
  refine a_rs fun K hK => ?_   -- region 17
  simp (disch := omega) only [go_sem, Nat.reduceAdd, Nat.reduceMul, Nat.reduceEqDiff, Nat.reduceLT, Nat.reduceLeDiff, Nat.reduceBEq, w64, chk_pos, h1]
  refine hK _ ?_
  clear hK K
  refine a_ret ⟨trivial, [.keep [2] []], ?_⟩
  simp only [go_sem, Nat.reduceAdd, Nat.reduceMul, Nat.reduceEqDiff, Nat.reduceLT, Nat.reduceLeDiff, Nat.reduceBEq, h1]
  refine ⟨_, _, rfl, rfl, rfl, ?_, rfl⟩
  simp only [go_sem, Nat.reduceAdd, Nat.reduceMul, Nat.reduceEqDiff, Nat.reduceLT, Nat.reduceLeDiff, Nat.reduceBEq, h1]
  all_goals
    have hdn : l.drop i = [] := List.drop_eq_nil_iff.2 (by omega)
    have hc : chain okD none l = true := by rw [← hi.2, hdn]; rfl
    simp [goodDiffs, hc]; omega

theorem nm_impl_GoodDiffs : (Tryd.f9.name == "runtime.NumGoroutine") = false := by kernel_rfl
theorem spec_impl_GoodDiffs (l : List FDiff) (hl : l.length ≤ 1099511627776) (hd : ∀ d ∈ l, FDok d) :
    Spec Tryd.prog 9 [.sh (.sl 0 (l.map (dFD tS)))] [] (.sh (.bool (goodDiffs l))) [] := by
  refine spec_of_awp hm (fun _ _ => {}) Tryd.func9 rfl nm_impl_GoodDiffs ?_
  rw [Tryd.ntmps9, Sp_start (by simp)]
  simp only [go_sem, Nat.reduceAdd, Nat.reduceMul, Nat.reduceEqDiff, Nat.reduceLT, Nat.reduceLeDiff, Nat.reduceBEq]
  refine a_rs fun K hK => ?_   -- region 0
  simp only [go_sem, Nat.reduceAdd, Nat.reduceMul, Nat.reduceEqDiff, Nat.reduceLT, Nat.reduceLeDiff, Nat.reduceBEq]
  refine hK _ ?_
  clear hK K
  refine a_rs fun K hK => ?_   -- region 1
  simp only [go_sem, Nat.reduceAdd, Nat.reduceMul, Nat.reduceEqDiff, Nat.reduceLT, Nat.reduceLeDiff, Nat.reduceBEq]
  refine r_callT rfl rfl rfl rfl rfl (spec_impl_goodDiffs l hl hd) (by first | rfl | (simp only [go_sem, Nat.reduceAdd, Nat.reduceMul, Nat.reduceEqDiff, Nat.reduceLT, Nat.reduceLeDiff, Nat.reduceBEq]; done) | (simp only [go_sem, Nat.reduceAdd, Nat.reduceMul, Nat.reduceEqDiff, Nat.reduceLT, Nat.reduceLeDiff, Nat.reduceBEq]; rfl)) (by first | rfl | (simp [AV.okIds, AV.ok1]; done)) (by rfl) ?_
  simp only [go_sem, Nat.reduceAdd, Nat.reduceMul, Nat.reduceEqDiff, Nat.reduceLT, Nat.reduceLeDiff, Nat.reduceBEq]
  refine hK _ ?_
  clear hK K
  refine a_ret ⟨trivial, [.keep [2] []], ?_⟩
  simp only [go_sem, Nat.reduceAdd, Nat.reduceMul, Nat.reduceEqDiff, Nat.reduceLT, Nat.reduceLeDiff, Nat.reduceBEq]
  refine ⟨_, _, rfl, rfl, rfl, ?_, rfl⟩
  simp only [go_sem, Nat.reduceAdd, Nat.reduceMul, Nat.reduceEqDiff, Nat.reduceLT, Nat.reduceLeDiff, Nat.reduceBEq]
  all_goals
    first | rfl | (simp_all []; done) | (simp_all []; omega)

theorem nm_spec_GoodDiffs : (Tryd.f7.name == "runtime.NumGoroutine") = false := by kernel_rfl
theorem spec_spec_GoodDiffs (l : List FDiff) (hl : l.length ≤ 1099511627776) (hd : ∀ d ∈ l, FDok d) :
    Spec Tryd.prog 7 [.sh (.sl 0 (l.map (dFD tS)))] [] (.sh (.bool (goodDiffs l))) [] := by
  refine spec_of_awp hm (fun _ _ => {}) Tryd.func7 rfl nm_spec_GoodDiffs ?_
  rw [Tryd.ntmps7, Sp_start (by simp)]
  simp only [go_sem, Nat.reduceAdd, Nat.reduceMul, Nat.reduceEqDiff, Nat.reduceLT, Nat.reduceLeDiff, Nat.reduceBEq]
  refine a_rs fun K hK => ?_   -- region 0
  simp only [go_sem, Nat.reduceAdd, Nat.reduceMul, Nat.reduceEqDiff, Nat.reduceLT, Nat.reduceLeDiff, Nat.reduceBEq]
  refine hK _ ?_
  clear hK K
  refine a_rs fun K hK => ?_   -- region 1
  simp only [go_sem, Nat.reduceAdd, Nat.reduceMul, Nat.reduceEqDiff, Nat.reduceLT, Nat.reduceLeDiff, Nat.reduceBEq]
  refine r_callT rfl rfl rfl rfl rfl (spec_spec_l15Diffs l hl hd
  ) (by first | rfl | (simp only [go_sem, Nat.reduceAdd, Nat.reduceMul, Nat.reduceEqDiff, Nat.reduceLT, Nat.reduceLeDiff, Nat.reduceBEq]; done) | (simp only [go_sem, Nat.reduceAdd, Nat.reduceMul, Nat.reduceEqDiff, Nat.reduceLT, Nat.reduceLeDiff, Nat.reduceBEq]; rfl)) (by first | rfl | (simp [AV.okIds, AV.ok1]; done)) (by rfl) ?_
  simp only [go_sem, Nat.reduceAdd, Nat.reduceMul, Nat.reduceEqDiff, Nat.reduceLT, Nat.reduceLeDiff, Nat.reduceBEq]
  refine hK _ ?_
  clear hK K
  refine a_ret ⟨trivial, [.keep [2] []], ?_⟩
  simp only [go_sem, Nat.reduceAdd, Nat.reduceMul, Nat.reduceEqDiff, Nat.reduceLT, Nat.reduceLeDiff, Nat.reduceBEq]
  refine ⟨_, _, rfl, rfl, rfl, ?_, rfl⟩
  simp only [go_sem, Nat.reduceAdd, Nat.reduceMul, Nat.reduceEqDiff, Nat.reduceLT, Nat.reduceLeDiff, Nat.reduceBEq]
  all_goals
    first | rfl | (simp_all []; done) | (simp_all []; omega)

end Go.Vi
