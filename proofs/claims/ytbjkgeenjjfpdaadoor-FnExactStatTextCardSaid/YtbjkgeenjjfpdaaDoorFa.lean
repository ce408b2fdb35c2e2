/- Contracts of functions of the seat. No statement is proved in this text. -/
import Derived.Test.YtbjkgeenjjfpdaaDoorFl
set_option linter.all false
set_option autoImplicit true
namespace Go.Vi
open Go Go.Proofs
set_option maxRecDepth 100000
set_option maxHeartbeats 4000000
set_option linter.unusedVariables false
set_option linter.unusedSimpArgs false
theorem nm_impl_in : (Tryd.f46.name == "runtime.NumGoroutine") = false := by kernel_rfl
theorem spec_impl_in (a b c : Int) :
    Spec Tryd.prog 46 [.sh (.int .i64 a), .sh (.int .i64 b), .sh (.int .i64 c)] [] (.sh (.bool (inr a b c))) [] := by
  refine spec_of_awp hm (fun _ _ => {}) Tryd.func46 rfl nm_impl_in ?_
  rw [Tryd.ntmps46, Sp_start (by simp)]
  simp only [go_sem, Nat.reduceAdd, Nat.reduceMul, Nat.reduceEqDiff, Nat.reduceLT, Nat.reduceLeDiff, Nat.reduceBEq]
  refine a_rs fun K hK => ?_   -- region 0
  simp only [go_sem, Nat.reduceAdd, Nat.reduceMul, Nat.reduceEqDiff, Nat.reduceLT, Nat.reduceLeDiff, Nat.reduceBEq]
  refine hK _ ?_
  clear hK K
  refine a_rs fun K hK => ?_   -- region 1
  simp only [go_sem, Nat.reduceAdd, Nat.reduceMul, Nat.reduceEqDiff, Nat.reduceLT, Nat.reduceLeDiff, Nat.reduceBEq]
  refine gIf_both (fun hg1 => ?_) (fun hg1 => ?_)
  · try simp only [Bool.not_eq_true', Bool.not_eq_false', Bool.not_not, Bool.not_eq_eq_eq_not, Bool.not_true, Bool.not_false] at hg1
    have hg1' := hg1
    try simp [inr] at hg1'
    simp only [go_sem, Nat.reduceAdd, Nat.reduceMul, Nat.reduceEqDiff, Nat.reduceLT, Nat.reduceLeDiff, Nat.reduceBEq, hg1]
    refine hK _ ?_
    clear hK K
    refine a_ret ⟨trivial, [.keep [6] []], ?_⟩
    simp only [go_sem, Nat.reduceAdd, Nat.reduceMul, Nat.reduceEqDiff, Nat.reduceLT, Nat.reduceLeDiff, Nat.reduceBEq, hg1]
    refine ⟨_, _, rfl, rfl, rfl, ?_, rfl⟩
    simp only [go_sem, Nat.reduceAdd, Nat.reduceMul, Nat.reduceEqDiff, Nat.reduceLT, Nat.reduceLeDiff, Nat.reduceBEq, hg1]
    all_goals
      first | rfl | (simp_all [inr]; done) | (simp_all [inr]; omega)
  try simp only [Bool.not_eq_true', Bool.not_eq_false', Bool.not_not, Bool.not_eq_eq_eq_not, Bool.not_true, Bool.not_false] at hg1
  have hg1' := hg1
  try simp [inr] at hg1'
  simp only [go_sem, Nat.reduceAdd, Nat.reduceMul, Nat.reduceEqDiff, Nat.reduceLT, Nat.reduceLeDiff, Nat.reduceBEq, hg1]
  refine hK _ ?_
  clear hK K
  refine a_ret ⟨trivial, [.keep [6] []], ?_⟩
  simp only [go_sem, Nat.reduceAdd, Nat.reduceMul, Nat.reduceEqDiff, Nat.reduceLT, Nat.reduceLeDiff, Nat.reduceBEq, hg1]
  refine ⟨_, _, rfl, rfl, rfl, ?_, rfl⟩
  simp only [go_sem, Nat.reduceAdd, Nat.reduceMul, Nat.reduceEqDiff, Nat.reduceLT, Nat.reduceLeDiff, Nat.reduceBEq, hg1]
  all_goals
    first | rfl | (simp_all [inr]; done) | (simp_all [inr]; omega)

theorem nm_spec_l1In : (Tryd.f60.name == "runtime.NumGoroutine") = false := by kernel_rfl
theorem spec_spec_l1In (a b c : Int) :
    Spec Tryd.prog 60 [.sh (.int .i64 a), .sh (.int .i64 b), .sh (.int .i64 c)] [] (.sh (.bool (inr a b c))) [] := by
  refine spec_of_awp hm (fun _ _ => {}) Tryd.func60 rfl nm_spec_l1In ?_
  rw [Tryd.ntmps60, Sp_start (by simp)]
  simp only [go_sem, Nat.reduceAdd, Nat.reduceMul, Nat.reduceEqDiff, Nat.reduceLT, Nat.reduceLeDiff, Nat.reduceBEq]
  refine a_rs fun K hK => ?_   -- region 0
  simp only [go_sem, Nat.reduceAdd, Nat.reduceMul, Nat.reduceEqDiff, Nat.reduceLT, Nat.reduceLeDiff, Nat.reduceBEq]
  refine hK _ ?_
  clear hK K
  refine a_rs fun K hK => ?_   -- region 1
  simp only [go_sem, Nat.reduceAdd, Nat.reduceMul, Nat.reduceEqDiff, Nat.reduceLT, Nat.reduceLeDiff, Nat.reduceBEq]
  refine gIf_both (fun hg1 => ?_) (fun hg1 => ?_)
  · try simp only [Bool.not_eq_true', Bool.not_eq_false', Bool.not_not, Bool.not_eq_eq_eq_not, Bool.not_true, Bool.not_false] at hg1
    have hg1' := hg1
    try simp [inr] at hg1'
    simp only [go_sem, Nat.reduceAdd, Nat.reduceMul, Nat.reduceEqDiff, Nat.reduceLT, Nat.reduceLeDiff, Nat.reduceBEq, hg1]
    refine hK _ ?_
    clear hK K
    refine a_ret ⟨trivial, [.keep [6] []], ?_⟩
    simp only [go_sem, Nat.reduceAdd, Nat.reduceMul, Nat.reduceEqDiff, Nat.reduceLT, Nat.reduceLeDiff, Nat.reduceBEq, hg1]
    refine ⟨_, _, rfl, rfl, rfl, ?_, rfl⟩
    simp only [go_sem, Nat.reduceAdd, Nat.reduceMul, Nat.reduceEqDiff, Nat.reduceLT, Nat.reduceLeDiff, Nat.reduceBEq, hg1]
    all_goals
      first | rfl | (simp_all [inr]; done) | (simp_all [inr]; omega)
  try simp only [Bool.not_eq_true', Bool.not_eq_false', Bool.not_not, Bool.not_eq_eq_eq_not, Bool.not_true, Bool.not_false] at hg1
  have hg1' := hg1
  try simp [inr] at hg1'
  simp only [go_sem, Nat.reduceAdd, Nat.reduceMul, Nat.reduceEqDiff, Nat.reduceLT, Nat.reduceLeDiff, Nat.reduceBEq, hg1]
  refine hK _ ?_
  clear hK K
  refine a_ret ⟨trivial, [.keep [6] []], ?_⟩
  simp only [go_sem, Nat.reduceAdd, Nat.reduceMul, Nat.reduceEqDiff, Nat.reduceLT, Nat.reduceLeDiff, Nat.reduceBEq, hg1]
  refine ⟨_, _, rfl, rfl, rfl, ?_, rfl⟩
  simp only [go_sem, Nat.reduceAdd, Nat.reduceMul, Nat.reduceEqDiff, Nat.reduceLT, Nat.reduceLeDiff, Nat.reduceBEq, hg1]
  all_goals
    first | rfl | (simp_all [inr]; done) | (simp_all [inr]; omega)

def hasSuffix (s t : Str) : Bool := decide (t.length ≤ s.length) && s.drop (s.length - t.length) == t
theorem hasSuffix_nl (s : Str) : hasSuffix s [10] = ends s := by
  unfold hasSuffix ends
  rcases List.eq_nil_or_concat s with rfl | ⟨a, b, rfl⟩
  · rfl
  · simp
theorem drop_toNat (s : Str) (a b : Nat) (h : b ≤ a) : ((a : Int) - (b : Int)).toNat = a - b := by omega

theorem nm_internal_stringslite_HasSuffix : (Tryd.f111.name == "runtime.NumGoroutine") = false := by kernel_rfl
theorem spec_internal_stringslite_HasSuffix (s t : Str) (hs : s.length ≤ 1099511627776) (ht : t.length ≤ 1099511627776) :
    Spec Tryd.prog 111 [.sh (.str s), .sh (.str t)] [] (.sh (.bool (hasSuffix s t))) [] := by
  refine spec_of_awp hm (fun _ _ => {}) Tryd.func111 rfl nm_internal_stringslite_HasSuffix ?_
  rw [Tryd.ntmps111, Sp_start (by simp)]
  simp only [go_sem, Nat.reduceAdd, Nat.reduceMul, Nat.reduceEqDiff, Nat.reduceLT, Nat.reduceLeDiff, Nat.reduceBEq]
  refine a_rs fun K hK => ?_   -- region 0
  simp only [go_sem, Nat.reduceAdd, Nat.reduceMul, Nat.reduceEqDiff, Nat.reduceLT, Nat.reduceLeDiff, Nat.reduceBEq]
  refine hK _ ?_
  clear hK K
  refine a_rs fun K hK => ?_   -- region 1
  simp (disch := omega) only [go_sem, Nat.reduceAdd, Nat.reduceMul, Nat.reduceEqDiff, Nat.reduceLT, Nat.reduceLeDiff, Nat.reduceBEq, w64, chk_pos]
  refine gIf_both (fun hg1 => ?_) (fun hg1 => ?_)
  · try simp only [Bool.not_eq_true', Bool.not_eq_false', Bool.not_not, Bool.not_eq_eq_eq_not, Bool.not_true, Bool.not_false] at hg1
    have hg1' := hg1
    try simp [inr] at hg1'
    simp (disch := omega) only [go_sem, Nat.reduceAdd, Nat.reduceMul, Nat.reduceEqDiff, Nat.reduceLT, Nat.reduceLeDiff, Nat.reduceBEq, w64, chk_pos, hg1]
    refine hK _ ?_
    clear hK K
    refine a_ret ⟨trivial, [.keep [4] []], ?_⟩
    simp only [go_sem, Nat.reduceAdd, Nat.reduceMul, Nat.reduceEqDiff, Nat.reduceLT, Nat.reduceLeDiff, Nat.reduceBEq, hg1]
    refine ⟨_, _, rfl, rfl, rfl, ?_, rfl⟩
    simp only [go_sem, Nat.reduceAdd, Nat.reduceMul, Nat.reduceEqDiff, Nat.reduceLT, Nat.reduceLeDiff, Nat.reduceBEq, hg1]
    all_goals
      first | rfl | (simp_all [hasSuffix]; done) | (simp_all [hasSuffix]; omega)
  try simp only [Bool.not_eq_true', Bool.not_eq_false', Bool.not_not, Bool.not_eq_eq_eq_not, Bool.not_true, Bool.not_false] at hg1
  have hg1' := hg1
  try simp [inr] at hg1'
  simp (disch := omega) only [go_sem, Nat.reduceAdd, Nat.reduceMul, Nat.reduceEqDiff, Nat.reduceLT, Nat.reduceLeDiff, Nat.reduceBEq, w64, chk_pos, hg1]
  refine hK _ ?_
  clear hK K
  refine a_ret ⟨trivial, [.keep [4] []], ?_⟩
  simp only [go_sem, Nat.reduceAdd, Nat.reduceMul, Nat.reduceEqDiff, Nat.reduceLT, Nat.reduceLeDiff, Nat.reduceBEq, hg1]
  refine ⟨_, _, rfl, rfl, rfl, ?_, rfl⟩
  simp only [go_sem, Nat.reduceAdd, Nat.reduceMul, Nat.reduceEqDiff, Nat.reduceLT, Nat.reduceLeDiff, Nat.reduceBEq, hg1]
  all_goals
    first | rfl | (simp_all [hasSuffix]; done) | (simp_all [hasSuffix]; omega)

theorem nm_strings_HasSuffix : (Tryd.f102.name == "runtime.NumGoroutine") = false := by kernel_rfl
theorem spec_strings_HasSuffix (s t : Str) (hs : s.length ≤ 1099511627776) (ht : t.length ≤ 1099511627776) :
    Spec Tryd.prog 102 [.sh (.str s), .sh (.str t)] [] (.sh (.bool (hasSuffix s t))) [] := by
  refine spec_of_awp hm (fun _ _ => {}) Tryd.func102 rfl nm_strings_HasSuffix ?_
  rw [Tryd.ntmps102, Sp_start (by simp)]
  simp only [go_sem, Nat.reduceAdd, Nat.reduceMul, Nat.reduceEqDiff, Nat.reduceLT, Nat.reduceLeDiff, Nat.reduceBEq]
  refine a_rs fun K hK => ?_   -- region 0
  simp only [go_sem, Nat.reduceAdd, Nat.reduceMul, Nat.reduceEqDiff, Nat.reduceLT, Nat.reduceLeDiff, Nat.reduceBEq]
  refine hK _ ?_
  clear hK K
  refine a_rs fun K hK => ?_   -- region 1
  simp only [go_sem, Nat.reduceAdd, Nat.reduceMul, Nat.reduceEqDiff, Nat.reduceLT, Nat.reduceLeDiff, Nat.reduceBEq]
  refine r_callT rfl rfl rfl rfl rfl (spec_internal_stringslite_HasSuffix _ _ hs ht) (by first | rfl | (simp only [go_sem, Nat.reduceAdd, Nat.reduceMul, Nat.reduceEqDiff, Nat.reduceLT, Nat.reduceLeDiff, Nat.reduceBEq]; done) | (simp only [go_sem, Nat.reduceAdd, Nat.reduceMul, Nat.reduceEqDiff, Nat.reduceLT, Nat.reduceLeDiff, Nat.reduceBEq]; rfl)) (by first | rfl | (simp [AV.okIds, AV.ok1]; done)) (by rfl) ?_
  simp only [go_sem, Nat.reduceAdd, Nat.reduceMul, Nat.reduceEqDiff, Nat.reduceLT, Nat.reduceLeDiff, Nat.reduceBEq]
  refine hK _ ?_
  clear hK K
  refine a_ret ⟨trivial, [.keep [4] []], ?_⟩
  simp only [go_sem, Nat.reduceAdd, Nat.reduceMul, Nat.reduceEqDiff, Nat.reduceLT, Nat.reduceLeDiff, Nat.reduceBEq]
  refine ⟨_, _, rfl, rfl, rfl, ?_, rfl⟩
  simp only [go_sem, Nat.reduceAdd, Nat.reduceMul, Nat.reduceEqDiff, Nat.reduceLT, Nat.reduceLeDiff, Nat.reduceBEq]
  all_goals
    first | rfl | (simp_all []; done) | (simp_all []; omega)

theorem nm_impl_isEnded : (Tryd.f88.name == "runtime.NumGoroutine") = false := by kernel_rfl
theorem spec_impl_isEnded (s : Str) (hs : s.length ≤ 1099511627776) :
    Spec Tryd.prog 88 [.sh (.str s)] [] (.sh (.bool (ends s))) [] := by
  refine spec_of_awp hm (fun _ _ => {}) Tryd.func88 rfl nm_impl_isEnded ?_
  rw [Tryd.ntmps88, Sp_start (by simp)]
  simp only [go_sem, Nat.reduceAdd, Nat.reduceMul, Nat.reduceEqDiff, Nat.reduceLT, Nat.reduceLeDiff, Nat.reduceBEq]
  refine a_rs fun K hK => ?_   -- region 0
  simp only [go_sem, Nat.reduceAdd, Nat.reduceMul, Nat.reduceEqDiff, Nat.reduceLT, Nat.reduceLeDiff, Nat.reduceBEq]
  refine hK _ ?_
  clear hK K
  refine a_rs fun K hK => ?_   -- region 1
  simp only [go_sem, Nat.reduceAdd, Nat.reduceMul, Nat.reduceEqDiff, Nat.reduceLT, Nat.reduceLeDiff, Nat.reduceBEq]
  refine r_callT rfl rfl rfl rfl rfl (spec_strings_HasSuffix s [10] hs (by simp)) (by first | rfl | (simp only [go_sem, Nat.reduceAdd, Nat.reduceMul, Nat.reduceEqDiff, Nat.reduceLT, Nat.reduceLeDiff, Nat.reduceBEq]; done) | (simp only [go_sem, Nat.reduceAdd, Nat.reduceMul, Nat.reduceEqDiff, Nat.reduceLT, Nat.reduceLeDiff, Nat.reduceBEq]; rfl)) (by first | rfl | (simp [AV.okIds, AV.ok1]; done)) (by rfl) ?_
  simp only [go_sem, Nat.reduceAdd, Nat.reduceMul, Nat.reduceEqDiff, Nat.reduceLT, Nat.reduceLeDiff, Nat.reduceBEq]
  refine hK _ ?_
  clear hK K
  refine a_ret ⟨trivial, [.keep [2] []], ?_⟩
  simp only [go_sem, Nat.reduceAdd, Nat.reduceMul, Nat.reduceEqDiff, Nat.reduceLT, Nat.reduceLeDiff, Nat.reduceBEq]
  refine ⟨_, _, rfl, rfl, rfl, ?_, rfl⟩
  simp only [go_sem, Nat.reduceAdd, Nat.reduceMul, Nat.reduceEqDiff, Nat.reduceLT, Nat.reduceLeDiff, Nat.reduceBEq]
  all_goals
    rw [← hasSuffix_nl]

theorem nm_impl_isLine : (Tryd.f69.name == "runtime.NumGoroutine") = false := by kernel_rfl
theorem spec_impl_isLine (s : Str) (hs : s.length ≤ 1099511627776) :
    Spec Tryd.prog 69 [.sh (.str s)] [] (.sh (.bool (isLine s))) [] := by
  refine spec_of_awp hm (fun _ _ => {}) Tryd.func69 rfl nm_impl_isLine ?_
  rw [Tryd.ntmps69, Sp_start (by simp)]
  simp only [go_sem, Nat.reduceAdd, Nat.reduceMul, Nat.reduceEqDiff, Nat.reduceLT, Nat.reduceLeDiff, Nat.reduceBEq]
  refine a_rs fun K hK => ?_   -- region 0
  simp only [go_sem, Nat.reduceAdd, Nat.reduceMul, Nat.reduceEqDiff, Nat.reduceLT, Nat.reduceLeDiff, Nat.reduceBEq]
  refine hK _ ?_
  clear hK K
  refine a_rs fun K hK => ?_   -- region 1
  simp (disch := omega) only [go_sem, Nat.reduceAdd, Nat.reduceMul, Nat.reduceEqDiff, Nat.reduceLT, Nat.reduceLeDiff, Nat.reduceBEq, w64, chk_pos]
  refine r_callT rfl rfl rfl rfl rfl (spec_impl_in _ _ _) (by first | rfl | (simp only [go_sem, Nat.reduceAdd, Nat.reduceMul, Nat.reduceEqDiff, Nat.reduceLT, Nat.reduceLeDiff, Nat.reduceBEq]; done) | (simp only [go_sem, Nat.reduceAdd, Nat.reduceMul, Nat.reduceEqDiff, Nat.reduceLT, Nat.reduceLeDiff, Nat.reduceBEq]; rfl)) (by first | rfl | (simp [AV.okIds, AV.ok1]; done)) (by rfl) ?_
  simp (disch := omega) only [go_sem, Nat.reduceAdd, Nat.reduceMul, Nat.reduceEqDiff, Nat.reduceLT, Nat.reduceLeDiff, Nat.reduceBEq, w64, chk_pos]
  refine gIf_both (fun hg1 => ?_) (fun hg1 => ?_)
  · try simp only [Bool.not_eq_true', Bool.not_eq_false', Bool.not_not, Bool.not_eq_eq_eq_not, Bool.not_true, Bool.not_false] at hg1
    have hg1' := hg1
    try simp [inr] at hg1'
    simp (disch := omega) only [go_sem, Nat.reduceAdd, Nat.reduceMul, Nat.reduceEqDiff, Nat.reduceLT, Nat.reduceLeDiff, Nat.reduceBEq, w64, chk_pos, hg1]
    refine r_callT rfl rfl rfl rfl rfl (spec_Contains_nl _) (by first | rfl | (simp only [go_sem, Nat.reduceAdd, Nat.reduceMul, Nat.reduceEqDiff, Nat.reduceLT, Nat.reduceLeDiff, Nat.reduceBEq, hg1]; done) | (simp only [go_sem, Nat.reduceAdd, Nat.reduceMul, Nat.reduceEqDiff, Nat.reduceLT, Nat.reduceLeDiff, Nat.reduceBEq, hg1]; rfl)) (by first | rfl | (simp [AV.okIds, AV.ok1]; done)) (by rfl) ?_
    simp only [go_sem, Nat.reduceAdd, Nat.reduceMul, Nat.reduceEqDiff, Nat.reduceLT, Nat.reduceLeDiff, Nat.reduceBEq, hg1]
    refine hK _ ?_
    clear hK K
    refine a_ret ⟨trivial, [.keep [2] []], ?_⟩
    simp only [go_sem, Nat.reduceAdd, Nat.reduceMul, Nat.reduceEqDiff, Nat.reduceLT, Nat.reduceLeDiff, Nat.reduceBEq, hg1]
    refine ⟨_, _, rfl, rfl, rfl, ?_, rfl⟩
    simp only [go_sem, Nat.reduceAdd, Nat.reduceMul, Nat.reduceEqDiff, Nat.reduceLT, Nat.reduceLeDiff, Nat.reduceBEq, hg1]
    all_goals
      first | rfl | (simp_all [isLine, List.dropLast_eq_take]; done) | (simp_all [isLine, List.dropLast_eq_take]; omega)
  try simp only [Bool.not_eq_true', Bool.not_eq_false', Bool.not_not, Bool.not_eq_eq_eq_not, Bool.not_true, Bool.not_false] at hg1
  have hg1' := hg1
  try simp [inr] at hg1'
  simp (disch := omega) only [go_sem, Nat.reduceAdd, Nat.reduceMul, Nat.reduceEqDiff, Nat.reduceLT, Nat.reduceLeDiff, Nat.reduceBEq, w64, chk_pos, hg1]
  refine hK _ ?_
  clear hK K
  refine a_ret ⟨trivial, [.keep [2] []], ?_⟩
  simp only [go_sem, Nat.reduceAdd, Nat.reduceMul, Nat.reduceEqDiff, Nat.reduceLT, Nat.reduceLeDiff, Nat.reduceBEq, hg1]
  refine ⟨_, _, rfl, rfl, rfl, ?_, rfl⟩
  simp only [go_sem, Nat.reduceAdd, Nat.reduceMul, Nat.reduceEqDiff, Nat.reduceLT, Nat.reduceLeDiff, Nat.reduceBEq, hg1]
  all_goals
    first | rfl | (simp_all [isLine, List.dropLast_eq_take]; done) | (simp_all [isLine, List.dropLast_eq_take]; omega)

theorem nm_impl_areLines_1 : (Tryd.f101.name == "runtime.NumGoroutine") = false := by kernel_rfl
theorem spec_impl_areLines_1 (s : Str) (hs : s.length ≤ 1099511627776) :
    Spec Tryd.prog 101 [.sh (.str s)] [] (.sh (.bool (!isLine s))) [] := by
  refine spec_of_awp hm (fun _ _ => {}) Tryd.func101 rfl nm_impl_areLines_1 ?_
  rw [Tryd.ntmps101, Sp_start (by simp)]
  simp only [go_sem, Nat.reduceAdd, Nat.reduceMul, Nat.reduceEqDiff, Nat.reduceLT, Nat.reduceLeDiff, Nat.reduceBEq]
  refine a_rs fun K hK => ?_   -- region 0
  simp only [go_sem, Nat.reduceAdd, Nat.reduceMul, Nat.reduceEqDiff, Nat.reduceLT, Nat.reduceLeDiff, Nat.reduceBEq]
  refine hK _ ?_
  clear hK K
  refine a_rs fun K hK => ?_   -- region 1
  simp only [go_sem, Nat.reduceAdd, Nat.reduceMul, Nat.reduceEqDiff, Nat.reduceLT, Nat.reduceLeDiff, Nat.reduceBEq]
  refine r_callT rfl rfl rfl rfl rfl (spec_impl_isLine _ hs) (by first | rfl | (simp only [go_sem, Nat.reduceAdd, Nat.reduceMul, Nat.reduceEqDiff, Nat.reduceLT, Nat.reduceLeDiff, Nat.reduceBEq]; done) | (simp only [go_sem, Nat.reduceAdd, Nat.reduceMul, Nat.reduceEqDiff, Nat.reduceLT, Nat.reduceLeDiff, Nat.reduceBEq]; rfl)) (by first | rfl | (simp [AV.okIds, AV.ok1]; done)) (by rfl) ?_
  simp only [go_sem, Nat.reduceAdd, Nat.reduceMul, Nat.reduceEqDiff, Nat.reduceLT, Nat.reduceLeDiff, Nat.reduceBEq]
  refine hK _ ?_
  clear hK K
  refine a_ret ⟨trivial, [.keep [2] []], ?_⟩
  simp only [go_sem, Nat.reduceAdd, Nat.reduceMul, Nat.reduceEqDiff, Nat.reduceLT, Nat.reduceLeDiff, Nat.reduceBEq]
  refine ⟨_, _, rfl, rfl, rfl, ?_, rfl⟩
  simp only [go_sem, Nat.reduceAdd, Nat.reduceMul, Nat.reduceEqDiff, Nat.reduceLT, Nat.reduceLeDiff, Nat.reduceBEq]
  all_goals
    first | rfl | (simp_all []; done) | (simp_all []; omega)

theorem nm_slices_IndexFunc___string_string_ : (Tryd.f110.name == "runtime.NumGoroutine") = false := by kernel_rfl
theorem spec_slices_IndexFunc___string_string_ (l : List Str) (p : Str → Bool) (fid : FuncId) (caps : List AV) (hl : l.length ≤ 1099511627776) (hc : capsOk caps) (hp : ∀ x ∈ l, Spec Tryd.prog fid ([.sh (.str x)] ++ caps) [] (.sh (.bool (p x))) []) :
    Spec Tryd.prog 110 [.sh (dStrs tS l), .fn fid caps] [] (.sh (.int .i64 (idxOf p l))) [] := by
  have hc' := hc (kept [])
  refine spec_of_awp hm (tkT [3000, 5000]) Tryd.func110 rfl nm_slices_IndexFunc___string_string_ ?_
  rw [Tryd.ntmps110, Sp_start (by simp)]
  simp only [go_sem, Nat.reduceAdd, Nat.reduceMul, Nat.reduceEqDiff, Nat.reduceLT, Nat.reduceLeDiff, Nat.reduceBEq, hc']
  refine a_rs fun K hK => ?_   -- region 0
  simp only [go_sem, Nat.reduceAdd, Nat.reduceMul, Nat.reduceEqDiff, Nat.reduceLT, Nat.reduceLeDiff, Nat.reduceBEq, hc']
  refine hK _ ?_
  clear hK K
  refine a_seqK fun K1 hK1 => ?_
  refine a_rs fun K hK => ?_   -- region 1
  simp (disch := omega) only [go_sem, Nat.reduceAdd, Nat.reduceMul, Nat.reduceEqDiff, Nat.reduceLT, Nat.reduceLeDiff, Nat.reduceBEq, w64, chk_pos, hc']
  refine hK _ ?_
  clear hK K
  refine a_block ?_   -- block 0
  refine a_loopU (ι := Nat) [0, 1, 7] [] (fun i => [(8, .sh (.int .i64 i))]) (fun i => []) (fun i => i ≤ l.length ∧ ∀ j x, j < i → l[j]? = some x → p x = false) (fun i => l.length - i) 0 ?_ ?_ ?_
  · try simp (disch := omega) only [go_sem, Nat.reduceAdd, Nat.reduceMul, Nat.reduceEqDiff, Nat.reduceLT, Nat.reduceLeDiff, Nat.reduceBEq, w64, chk_pos, hc']
    try rfl
  · simp
  rintro i hi
  simp only [go_sem, Nat.reduceAdd, Nat.reduceMul, Nat.reduceEqDiff, Nat.reduceLT, Nat.reduceLeDiff, Nat.reduceBEq, hc']
  refine a_rs fun K hK => ?_   -- region 2
  simp only [go_sem, Nat.reduceAdd, Nat.reduceMul, Nat.reduceEqDiff, Nat.reduceLT, Nat.reduceLeDiff, Nat.reduceBEq, hc']
  refine hK _ ?_
  clear hK K
  refine a_seqK fun K2 hK2 => ?_
  refine a_cond rfl (fun h1 => ?_) (fun h1 => ?_)   -- if t9
  · try simp only [Bool.not_eq_true', Bool.not_eq_false', Bool.not_not, Bool.not_eq_eq_eq_not, Bool.not_true, Bool.not_false] at h1
    have h1' := h1
    try simp [inr] at h1'
    obtain ⟨x, hx⟩ : ∃ x, l[i]? = some x := ⟨_, List.getElem?_eq_getElem h1'⟩
    refine a_skip ?_
    refine hK2 _ ?_
    clear hK2 K2
    refine a_seqK fun K3 hK3 => ?_
    refine a_block ?_   -- block 1
    refine a_rs fun K hK => ?_   -- region 3
    simp only [go_sem, Nat.reduceAdd, Nat.reduceMul, Nat.reduceEqDiff, Nat.reduceLT, Nat.reduceLeDiff, Nat.reduceBEq, hc', h1, hx]
    refine hK _ ?_
    clear hK K
    refine a_rs fun K hK => ?_   -- region 4
    simp (disch := omega) only [go_sem, Nat.reduceAdd, Nat.reduceMul, Nat.reduceEqDiff, Nat.reduceLT, Nat.reduceLeDiff, Nat.reduceBEq, w64, chk_pos, hc', h1, hx]
    refine r_callT rfl rfl rfl rfl rfl (hp _ (List.mem_of_getElem? hx)) (by first | rfl | (simp only [go_sem, Nat.reduceAdd, Nat.reduceMul, Nat.reduceEqDiff, Nat.reduceLT, Nat.reduceLeDiff, Nat.reduceBEq, hc', h1, hx]; done) | (simp only [go_sem, Nat.reduceAdd, Nat.reduceMul, Nat.reduceEqDiff, Nat.reduceLT, Nat.reduceLeDiff, Nat.reduceBEq, hc', h1, hx]; rfl)) (by first | rfl | (simp [AV.okIds, AV.ok1, hc.okIds]; done)) (by rfl) ?_
    simp only [go_sem, Nat.reduceAdd, Nat.reduceMul, Nat.reduceEqDiff, Nat.reduceLT, Nat.reduceLeDiff, Nat.reduceBEq, hc', h1, hx]
    refine hK _ ?_
    clear hK K
    refine a_cond rfl (fun h2 => ?_) (fun h2 => ?_)   -- if t16
    · try simp only [Bool.not_eq_true', Bool.not_eq_false', Bool.not_not, Bool.not_eq_eq_eq_not, Bool.not_true, Bool.not_false] at h2
      have h2' := h2
      try simp [inr] at h2'
      refine a_rs fun K hK => ?_   -- region 5
      simp only [go_sem, Nat.reduceAdd, Nat.reduceMul, Nat.reduceEqDiff, Nat.reduceLT, Nat.reduceLeDiff, Nat.reduceBEq, hc', h1, hx, h2]
      refine hK _ ?_
      clear hK K
      refine a_ret ⟨trivial, [.keep [4] []], ?_⟩
      simp only [go_sem, Nat.reduceAdd, Nat.reduceMul, Nat.reduceEqDiff, Nat.reduceLT, Nat.reduceLeDiff, Nat.reduceBEq, hc', h1, hx, h2]
      refine ⟨_, _, rfl, rfl, rfl, ?_, rfl⟩
      simp only [go_sem, Nat.reduceAdd, Nat.reduceMul, Nat.reduceEqDiff, Nat.reduceLT, Nat.reduceLeDiff, Nat.reduceBEq, hc', h1, hx, h2]
      all_goals
        rw [idxOf_found hi.2 hx h2]
    try simp only [Bool.not_eq_true', Bool.not_eq_false', Bool.not_not, Bool.not_eq_eq_eq_not, Bool.not_true, Bool.not_false] at h2
    have h2' := h2
    try simp [inr] at h2'
    refine a_skip ?_
    refine hK3 _ ?_
    clear hK3 K3
    refine a_regP ?_
    simp (disch := omega) only [go_sem, Nat.reduceAdd, Nat.reduceMul, Nat.reduceEqDiff, Nat.reduceLT, Nat.reduceLeDiff, Nat.reduceBEq, w64, chk_pos, hc', h1, hx, h2]
    refine ⟨i + 1, ?_, ?_, ?_⟩   -- round E1
    · try simp (disch := omega) only [go_sem, Nat.reduceAdd, Nat.reduceMul, Nat.reduceEqDiff, Nat.reduceLT, Nat.reduceLeDiff, Nat.reduceBEq, w64, chk_pos, hc', h1, hx, h2]
      try rfl
    all_goals try dsimp only
    · refine ⟨by omega, fun j y hj hy => ?_⟩
      by_cases e : j = i
      · subst e; rw [hx] at hy; obtain rfl := Option.some.inj hy; exact h2
      · exact hi.2 j y (by omega) hy
    · omega
  try simp only [Bool.not_eq_true', Bool.not_eq_false', Bool.not_not, Bool.not_eq_eq_eq_not, Bool.not_true, Bool.not_false] at h1
  have h1' := h1
  try simp [inr] at h1'
  refine a_exit ?_
  simp only [go_sem, Nat.reduceAdd, Nat.reduceMul, Nat.reduceEqDiff, Nat.reduceLT, Nat.reduceLeDiff, Nat.reduceBEq, hc', h1]
  clear hK2 K2
  refine hK1 _ ?_
  clear hK1 K1
  refine a_rs fun K hK => ?_   -- region 7
  simp only [go_sem, Nat.reduceAdd, Nat.reduceMul, Nat.reduceEqDiff, Nat.reduceLT, Nat.reduceLeDiff, Nat.reduceBEq, hc', h1]
  refine hK _ ?_
  clear hK K
  refine a_ret ⟨trivial, [.keep [4] []], ?_⟩
  simp only [go_sem, Nat.reduceAdd, Nat.reduceMul, Nat.reduceEqDiff, Nat.reduceLT, Nat.reduceLeDiff, Nat.reduceBEq, hc', h1]
  refine ⟨_, _, rfl, rfl, rfl, ?_, rfl⟩
  simp only [go_sem, Nat.reduceAdd, Nat.reduceMul, Nat.reduceEqDiff, Nat.reduceLT, Nat.reduceLeDiff, Nat.reduceBEq, hc', h1]
  all_goals
    rw [idxOf_none fun j y hy => hi.2 j y (by have := (List.getElem?_eq_some_iff.1 hy).1; omega) hy]

theorem nm_slices_ContainsFunc___string_string_ : (Tryd.f100.name == "runtime.NumGoroutine") = false := by kernel_rfl
theorem spec_slices_ContainsFunc___string_string_ (l : List Str) (p : Str → Bool) (fid : FuncId) (caps : List AV) (hl : l.length ≤ 1099511627776) (hc : capsOk caps) (hp : ∀ x ∈ l, Spec Tryd.prog fid ([.sh (.str x)] ++ caps) [] (.sh (.bool (p x))) []) :
    Spec Tryd.prog 100 [.sh (dStrs tS l), .fn fid caps] [] (.sh (.bool (l.any p))) [] := by
  refine spec_of_awp hm (fun _ _ => {}) Tryd.func100 rfl nm_slices_ContainsFunc___string_string_ ?_
  rw [Tryd.ntmps100, Sp_start (by simp)]
  simp only [go_sem, Nat.reduceAdd, Nat.reduceMul, Nat.reduceEqDiff, Nat.reduceLT, Nat.reduceLeDiff, Nat.reduceBEq]
  refine a_rs fun K hK => ?_   -- region 0
  simp only [go_sem, Nat.reduceAdd, Nat.reduceMul, Nat.reduceEqDiff, Nat.reduceLT, Nat.reduceLeDiff, Nat.reduceBEq]
  refine hK _ ?_
  clear hK K
  refine a_rs fun K hK => ?_   -- region 1
  simp only [go_sem, Nat.reduceAdd, Nat.reduceMul, Nat.reduceEqDiff, Nat.reduceLT, Nat.reduceLeDiff, Nat.reduceBEq]
  refine r_callT rfl rfl rfl rfl rfl (spec_slices_IndexFunc___string_string_ l p fid caps hl hc hp) (by first | rfl | (simp only [go_sem, Nat.reduceAdd, Nat.reduceMul, Nat.reduceEqDiff, Nat.reduceLT, Nat.reduceLeDiff, Nat.reduceBEq]; done) | (simp only [go_sem, Nat.reduceAdd, Nat.reduceMul, Nat.reduceEqDiff, Nat.reduceLT, Nat.reduceLeDiff, Nat.reduceBEq]; rfl)) (by first | rfl | (simp [AV.okIds, AV.ok1, hc _, hc.okIds]; done)) (by rfl) ?_
  simp only [go_sem, Nat.reduceAdd, Nat.reduceMul, Nat.reduceEqDiff, Nat.reduceLT, Nat.reduceLeDiff, Nat.reduceBEq]
  refine hK _ ?_
  clear hK K
  refine a_ret ⟨trivial, [.keep [4] []], ?_⟩
  simp only [go_sem, Nat.reduceAdd, Nat.reduceMul, Nat.reduceEqDiff, Nat.reduceLT, Nat.reduceLeDiff, Nat.reduceBEq]
  refine ⟨_, _, rfl, rfl, rfl, ?_, rfl⟩
  simp only [go_sem, Nat.reduceAdd, Nat.reduceMul, Nat.reduceEqDiff, Nat.reduceLT, Nat.reduceLeDiff, Nat.reduceBEq]
  all_goals
    rw [idxOf_nonneg]

theorem nm_impl_areLines : (Tryd.f87.name == "runtime.NumGoroutine") = false := by kernel_rfl
theorem spec_impl_areLines (l : List Str) (hl : l.length ≤ 1099511627776) (hs : ∀ s ∈ l, s.length ≤ 1099511627776) :
    Spec Tryd.prog 87 [.sh (dStrs tS l)] [] (.sh (.bool (areLines l))) [] := by
  refine spec_of_awp hm (fun _ _ => {}) Tryd.func87 rfl nm_impl_areLines ?_
  rw [Tryd.ntmps87, Sp_start (by simp)]
  simp only [go_sem, Nat.reduceAdd, Nat.reduceMul, Nat.reduceEqDiff, Nat.reduceLT, Nat.reduceLeDiff, Nat.reduceBEq]
  refine a_rs fun K hK => ?_   -- region 0
  simp only [go_sem, Nat.reduceAdd, Nat.reduceMul, Nat.reduceEqDiff, Nat.reduceLT, Nat.reduceLeDiff, Nat.reduceBEq]
  refine hK _ ?_
  clear hK K
  refine a_rs fun K hK => ?_   -- region 1
  simp (disch := omega) only [go_sem, Nat.reduceAdd, Nat.reduceMul, Nat.reduceEqDiff, Nat.reduceLT, Nat.reduceLeDiff, Nat.reduceBEq, w64, chk_pos]
  refine gIf_both (fun hg1 => ?_) (fun hg1 => ?_)
  · try simp only [Bool.not_eq_true', Bool.not_eq_false', Bool.not_not, Bool.not_eq_eq_eq_not, Bool.not_true, Bool.not_false] at hg1
    have hg1' := hg1
    try simp [inr] at hg1'
    simp only [go_sem, Nat.reduceAdd, Nat.reduceMul, Nat.reduceEqDiff, Nat.reduceLT, Nat.reduceLeDiff, Nat.reduceBEq, hg1]
    refine r_callT rfl rfl rfl rfl rfl (spec_slices_ContainsFunc___string_string_ l (fun s => !isLine s) _ _ hl capsOk_nil (fun s h => spec_impl_areLines_1 s (hs s h))) (by first | rfl | (simp only [go_sem, Nat.reduceAdd, Nat.reduceMul, Nat.reduceEqDiff, Nat.reduceLT, Nat.reduceLeDiff, Nat.reduceBEq, hg1]; done) | (simp only [go_sem, Nat.reduceAdd, Nat.reduceMul, Nat.reduceEqDiff, Nat.reduceLT, Nat.reduceLeDiff, Nat.reduceBEq, hg1]; rfl)) (by first | rfl | (simp [AV.okIds, AV.ok1]; done)) (by rfl) ?_
    simp only [go_sem, Nat.reduceAdd, Nat.reduceMul, Nat.reduceEqDiff, Nat.reduceLT, Nat.reduceLeDiff, Nat.reduceBEq, hg1]
    refine hK _ ?_
    clear hK K
    refine a_ret ⟨trivial, [.keep [2] []], ?_⟩
    simp only [go_sem, Nat.reduceAdd, Nat.reduceMul, Nat.reduceEqDiff, Nat.reduceLT, Nat.reduceLeDiff, Nat.reduceBEq, hg1]
    refine ⟨_, _, rfl, rfl, rfl, ?_, rfl⟩
    simp only [go_sem, Nat.reduceAdd, Nat.reduceMul, Nat.reduceEqDiff, Nat.reduceLT, Nat.reduceLeDiff, Nat.reduceBEq, hg1]
    all_goals
      first | rfl | (simp_all [areLines, any_not]; done) | (simp_all [areLines, any_not]; omega)
  try simp only [Bool.not_eq_true', Bool.not_eq_false', Bool.not_not, Bool.not_eq_eq_eq_not, Bool.not_true, Bool.not_false] at hg1
  have hg1' := hg1
  try simp [inr] at hg1'
  simp only [go_sem, Nat.reduceAdd, Nat.reduceMul, Nat.reduceEqDiff, Nat.reduceLT, Nat.reduceLeDiff, Nat.reduceBEq, hg1]
  refine hK _ ?_
  clear hK K
  refine a_ret ⟨trivial, [.keep [2] []], ?_⟩
  simp only [go_sem, Nat.reduceAdd, Nat.reduceMul, Nat.reduceEqDiff, Nat.reduceLT, Nat.reduceLeDiff, Nat.reduceBEq, hg1]
  refine ⟨_, _, rfl, rfl, rfl, ?_, rfl⟩
  simp only [go_sem, Nat.reduceAdd, Nat.reduceMul, Nat.reduceEqDiff, Nat.reduceLT, Nat.reduceLeDiff, Nat.reduceBEq, hg1]
  all_goals
    first | rfl | (simp_all [areLines, any_not]; done) | (simp_all [areLines, any_not]; omega)

theorem nm_impl_goodLines : (Tryd.f70.name == "runtime.NumGoroutine") = false := by kernel_rfl
theorem spec_impl_goodLines (l : List Str) (hl : l.length ≤ 1099511627776) (hs : ∀ s ∈ l, s.length ≤ 1099511627776) :
    Spec Tryd.prog 70 [.sh (dStrs tS l)] [] (.sh (.bool (goodLines l))) [] := by
  refine spec_of_awp hm (tkT [5000]) Tryd.func70 rfl nm_impl_goodLines ?_
  rw [Tryd.ntmps70, Sp_start (by simp)]
  simp only [go_sem, Nat.reduceAdd, Nat.reduceMul, Nat.reduceEqDiff, Nat.reduceLT, Nat.reduceLeDiff, Nat.reduceBEq]
  refine a_rs fun K hK => ?_   -- region 0
  simp only [go_sem, Nat.reduceAdd, Nat.reduceMul, Nat.reduceEqDiff, Nat.reduceLT, Nat.reduceLeDiff, Nat.reduceBEq]
  refine hK _ ?_
  clear hK K
  refine a_seqK fun K1 hK1 => ?_
  refine a_rs fun K hK => ?_   -- region 1
  simp only [go_sem, Nat.reduceAdd, Nat.reduceMul, Nat.reduceEqDiff, Nat.reduceLT, Nat.reduceLeDiff, Nat.reduceBEq]
  refine r_callT rfl rfl rfl rfl rfl (spec_impl_areLines l hl hs) (by first | rfl | (simp only [go_sem, Nat.reduceAdd, Nat.reduceMul, Nat.reduceEqDiff, Nat.reduceLT, Nat.reduceLeDiff, Nat.reduceBEq]; done) | (simp only [go_sem, Nat.reduceAdd, Nat.reduceMul, Nat.reduceEqDiff, Nat.reduceLT, Nat.reduceLeDiff, Nat.reduceBEq]; rfl)) (by first | rfl | (simp [AV.okIds, AV.ok1]; done)) (by rfl) ?_
  simp only [go_sem, Nat.reduceAdd, Nat.reduceMul, Nat.reduceEqDiff, Nat.reduceLT, Nat.reduceLeDiff, Nat.reduceBEq]
  refine hK _ ?_
  clear hK K
  refine a_cond rfl (fun h1 => ?_) (fun h1 => ?_)   -- if t7
  · try simp only [Bool.not_eq_true', Bool.not_eq_false', Bool.not_not, Bool.not_eq_eq_eq_not, Bool.not_true, Bool.not_false] at h1
    have h1' := h1
    try simp [inr] at h1'
    refine a_rs fun K hK => ?_   -- region 2
    simp only [go_sem, Nat.reduceAdd, Nat.reduceMul, Nat.reduceEqDiff, Nat.reduceLT, Nat.reduceLeDiff, Nat.reduceBEq, h1]
    refine hK _ ?_
    clear hK K
    refine a_ret ⟨trivial, [.keep [2] []], ?_⟩
    simp only [go_sem, Nat.reduceAdd, Nat.reduceMul, Nat.reduceEqDiff, Nat.reduceLT, Nat.reduceLeDiff, Nat.reduceBEq, h1]
    refine ⟨_, _, rfl, rfl, rfl, ?_, rfl⟩
    simp only [go_sem, Nat.reduceAdd, Nat.reduceMul, Nat.reduceEqDiff, Nat.reduceLT, Nat.reduceLeDiff, Nat.reduceBEq, h1]
    all_goals
      first | rfl | (simp_all [goodLines]; done) | (simp_all [goodLines]; omega)
  try simp only [Bool.not_eq_true', Bool.not_eq_false', Bool.not_not, Bool.not_eq_eq_eq_not, Bool.not_true, Bool.not_false] at h1
  have h1' := h1
  try simp [inr] at h1'
  refine a_skip ?_
  refine hK1 _ ?_
  clear hK1 K1
  refine a_seqK fun K2 hK2 => ?_
  refine a_rs fun K hK => ?_   -- region 3
  simp (disch := omega) only [go_sem, Nat.reduceAdd, Nat.reduceMul, Nat.reduceEqDiff, Nat.reduceLT, Nat.reduceLeDiff, Nat.reduceBEq, w64, chk_pos, h1]
  refine hK _ ?_
  clear hK K
  refine a_block ?_   -- block 0
  refine a_loopU (ι := Nat) [0, 8, 9] [] (fun i => [(10, .sh (.int .i64 i))]) (fun i => []) (fun i => i ≤ l.length ∧ ∀ j x, j < i → j + 1 < l.length → l[j]? = some x → ends x = true) (fun i => l.length - i) 0 ?_ ?_ ?_
  · try simp (disch := omega) only [go_sem, Nat.reduceAdd, Nat.reduceMul, Nat.reduceEqDiff, Nat.reduceLT, Nat.reduceLeDiff, Nat.reduceBEq, w64, chk_pos, h1]
    try rfl
  · simp
  rintro i hi
  simp only [go_sem, Nat.reduceAdd, Nat.reduceMul, Nat.reduceEqDiff, Nat.reduceLT, Nat.reduceLeDiff, Nat.reduceBEq, h1]
  refine a_rs fun K hK => ?_   -- region 4
  simp only [go_sem, Nat.reduceAdd, Nat.reduceMul, Nat.reduceEqDiff, Nat.reduceLT, Nat.reduceLeDiff, Nat.reduceBEq, h1]
  refine hK _ ?_
  clear hK K
  refine a_seqK fun K3 hK3 => ?_
  refine a_cond rfl (fun h2 => ?_) (fun h2 => ?_)   -- if t11
  · try simp only [Bool.not_eq_true', Bool.not_eq_false', Bool.not_not, Bool.not_eq_eq_eq_not, Bool.not_true, Bool.not_false] at h2
    have h2' := h2
    try simp [inr] at h2'
    obtain ⟨x, hx⟩ : ∃ x, l[i]? = some x := ⟨_, List.getElem?_eq_getElem h2'⟩
    refine a_skip ?_
    refine hK3 _ ?_
    clear hK3 K3
    refine a_seqK fun K4 hK4 => ?_
    refine a_block ?_   -- block 1
    refine a_rs fun K hK => ?_   -- region 5
    simp (disch := omega) only [go_sem, Nat.reduceAdd, Nat.reduceMul, Nat.reduceEqDiff, Nat.reduceLT, Nat.reduceLeDiff, Nat.reduceBEq, w64, chk_pos, h1, h2, hx]
    refine hK _ ?_
    clear hK K
    refine a_rsm [0, 8, 9, 10] [] [(24, .sh (.bool (decide (i + 1 < l.length) && !ends x)))] ?_ ?_   -- region 6
    · simp (disch := omega) only [go_sem, Nat.reduceAdd, Nat.reduceMul, Nat.reduceEqDiff, Nat.reduceLT, Nat.reduceLeDiff, Nat.reduceBEq, w64, chk_pos, h1, h2, hx]
      refine gIf_both (fun hg1 => ?_) (fun hg1 => ?_)
      · try simp only [Bool.not_eq_true', Bool.not_eq_false', Bool.not_not, Bool.not_eq_eq_eq_not, Bool.not_true, Bool.not_false] at hg1
        have hg1' := hg1
        try simp [inr] at hg1'
        simp only [go_sem, Nat.reduceAdd, Nat.reduceMul, Nat.reduceEqDiff, Nat.reduceLT, Nat.reduceLeDiff, Nat.reduceBEq, h1, h2, hx, hg1]
        refine r_callT rfl rfl rfl rfl rfl (spec_impl_isEnded x (hs x (List.mem_of_getElem? hx))) (by first | rfl | (simp only [go_sem, Nat.reduceAdd, Nat.reduceMul, Nat.reduceEqDiff, Nat.reduceLT, Nat.reduceLeDiff, Nat.reduceBEq, h1, h2, hx, hg1]; done) | (simp only [go_sem, Nat.reduceAdd, Nat.reduceMul, Nat.reduceEqDiff, Nat.reduceLT, Nat.reduceLeDiff, Nat.reduceBEq, h1, h2, hx, hg1]; rfl)) (by first | rfl | (simp [AV.okIds, AV.ok1]; done)) (by rfl) ?_
        simp only [go_sem, Nat.reduceAdd, Nat.reduceMul, Nat.reduceEqDiff, Nat.reduceLT, Nat.reduceLeDiff, Nat.reduceBEq, h1, h2, hx, hg1]
        all_goals (first | rfl | ((first | refine sp_hd ?_ | refine sp_hd' ?_) <;> first | rfl | (simp; done) | (simp [goodLines]; omega) | (simp_all [goodLines]; done) | (simp_all [goodLines]; omega)))
      try simp only [Bool.not_eq_true', Bool.not_eq_false', Bool.not_not, Bool.not_eq_eq_eq_not, Bool.not_true, Bool.not_false] at hg1
      have hg1' := hg1
      try simp [inr] at hg1'
      simp only [go_sem, Nat.reduceAdd, Nat.reduceMul, Nat.reduceEqDiff, Nat.reduceLT, Nat.reduceLeDiff, Nat.reduceBEq, h1, h2, hx, hg1]
      all_goals (first | rfl | ((first | refine sp_hd ?_ | refine sp_hd' ?_) <;> first | rfl | (simp; done) | (simp [goodLines]; omega) | (simp_all [goodLines]; done) | (simp_all [goodLines]; omega)))
    simp only [go_sem, Nat.reduceAdd, Nat.reduceMul, Nat.reduceEqDiff, Nat.reduceLT, Nat.reduceLeDiff, Nat.reduceBEq, h1, h2, hx]
    refine a_cond rfl (fun h3 => ?_) (fun h3 => ?_)   -- if t24
    · try simp only [Bool.not_eq_true', Bool.not_eq_false', Bool.not_not, Bool.not_eq_eq_eq_not, Bool.not_true, Bool.not_false] at h3
      have h3' := h3
      try simp [inr] at h3'
      refine a_rs fun K hK => ?_   -- region 7
      simp only [go_sem, Nat.reduceAdd, Nat.reduceMul, Nat.reduceEqDiff, Nat.reduceLT, Nat.reduceLeDiff, Nat.reduceBEq, h1, h2, hx, h3]
      refine hK _ ?_
      clear hK K
      refine a_ret ⟨trivial, [.keep [2] []], ?_⟩
      simp only [go_sem, Nat.reduceAdd, Nat.reduceMul, Nat.reduceEqDiff, Nat.reduceLT, Nat.reduceLeDiff, Nat.reduceBEq, h1, h2, hx, h3]
      refine ⟨_, _, rfl, rfl, rfl, ?_, rfl⟩
      simp only [go_sem, Nat.reduceAdd, Nat.reduceMul, Nat.reduceEqDiff, Nat.reduceLT, Nat.reduceLeDiff, Nat.reduceBEq, h1, h2, hx, h3]
      all_goals
        simp at h3; rw [goodLines_false (by omega) hx h3.2]
    try simp only [Bool.not_eq_true', Bool.not_eq_false', Bool.not_not, Bool.not_eq_eq_eq_not, Bool.not_true, Bool.not_false] at h3
    have h3' := h3
    try simp [inr] at h3'
    refine a_skip ?_
    refine hK4 _ ?_
    clear hK4 K4
    refine a_regP ?_
    simp (disch := omega) only [go_sem, Nat.reduceAdd, Nat.reduceMul, Nat.reduceEqDiff, Nat.reduceLT, Nat.reduceLeDiff, Nat.reduceBEq, w64, chk_pos, h1, h2, hx, h3]
    refine ⟨i + 1, ?_, ?_, ?_⟩   -- round E1
    · try simp (disch := omega) only [go_sem, Nat.reduceAdd, Nat.reduceMul, Nat.reduceEqDiff, Nat.reduceLT, Nat.reduceLeDiff, Nat.reduceBEq, w64, chk_pos, h1, h2, hx, h3]
      try rfl
    all_goals try dsimp only
    · refine ⟨by omega, fun j y hj hj' hy => ?_⟩
      by_cases e : j = i
      · subst e; rw [hx] at hy; obtain rfl := Option.some.inj hy; simp at h3; exact h3 (by omega)
      · exact hi.2 j y (by omega) hj' hy
    · omega
  try simp only [Bool.not_eq_true', Bool.not_eq_false', Bool.not_not, Bool.not_eq_eq_eq_not, Bool.not_true, Bool.not_false] at h2
  have h2' := h2
  try simp [inr] at h2'
  refine a_exit ?_
  simp only [go_sem, Nat.reduceAdd, Nat.reduceMul, Nat.reduceEqDiff, Nat.reduceLT, Nat.reduceLeDiff, Nat.reduceBEq, h1, h2]
  clear hK3 K3
  refine hK2 _ ?_
  clear hK2 K2
  refine a_rs fun K hK => ?_   -- region 9
  simp only [go_sem, Nat.reduceAdd, Nat.reduceMul, Nat.reduceEqDiff, Nat.reduceLT, Nat.reduceLeDiff, Nat.reduceBEq, h1, h2]
  refine hK _ ?_
  clear hK K
  refine a_ret ⟨trivial, [.keep [2] []], ?_⟩
  simp only [go_sem, Nat.reduceAdd, Nat.reduceMul, Nat.reduceEqDiff, Nat.reduceLT, Nat.reduceLeDiff, Nat.reduceBEq, h1, h2]
  refine ⟨_, _, rfl, rfl, rfl, ?_, rfl⟩
  simp only [go_sem, Nat.reduceAdd, Nat.reduceMul, Nat.reduceEqDiff, Nat.reduceLT, Nat.reduceLeDiff, Nat.reduceBEq, h1, h2]
  all_goals
    rw [goodLines_true h1 fun j x hj hx => hi.2 j x (by omega) hj hx]

theorem nm_spec_l1Line : (Tryd.f74.name == "runtime.NumGoroutine") = false := by kernel_rfl
theorem spec_spec_l1Line (s : Str) (hs : s.length ≤ 1099511627776) :
    Spec Tryd.prog 74 [.sh (.str s)] [] (.sh (.bool (isLine s))) [] := by
  refine spec_of_awp hm (fun _ _ => {}) Tryd.func74 rfl nm_spec_l1Line ?_
  rw [Tryd.ntmps74, Sp_start (by simp)]
  simp only [go_sem, Nat.reduceAdd, Nat.reduceMul, Nat.reduceEqDiff, Nat.reduceLT, Nat.reduceLeDiff, Nat.reduceBEq]
  refine a_rs fun K hK => ?_   -- region 0
  simp only [go_sem, Nat.reduceAdd, Nat.reduceMul, Nat.reduceEqDiff, Nat.reduceLT, Nat.reduceLeDiff, Nat.reduceBEq]
  refine hK _ ?_
  clear hK K
  refine a_seqK fun K1 hK1 => ?_
  refine a_rs fun K hK => ?_   -- region 1
  simp only [go_sem, Nat.reduceAdd, Nat.reduceMul, Nat.reduceEqDiff, Nat.reduceLT, Nat.reduceLeDiff, Nat.reduceBEq]
  refine hK _ ?_
  clear hK K
  refine a_block ?_   -- block 0
  refine a_loopU (ι := Nat) [0] [] (fun i => [(3, .sh (.int .i64 i))]) (fun i => []) (fun i => i ≤ s.length ∧ ∀ j, j < i → s[j]? ≠ some 10) (fun i => s.length - i) 0 ?_ ?_ ?_
  · try simp (disch := omega) only [go_sem, Nat.reduceAdd, Nat.reduceMul, Nat.reduceEqDiff, Nat.reduceLT, Nat.reduceLeDiff, Nat.reduceBEq, w64, chk_pos]
    try rfl
  · simp
  rintro i hi
  simp only [go_sem, Nat.reduceAdd, Nat.reduceMul, Nat.reduceEqDiff, Nat.reduceLT, Nat.reduceLeDiff, Nat.reduceBEq]
  refine a_seqK fun K2 hK2 => ?_
  refine a_rs fun K hK => ?_   -- region 2
  simp (disch := omega) only [go_sem, Nat.reduceAdd, Nat.reduceMul, Nat.reduceEqDiff, Nat.reduceLT, Nat.reduceLeDiff, Nat.reduceBEq, w64, chk_pos]
  refine hK _ ?_
  clear hK K
  refine a_cond rfl (fun h1 => ?_) (fun h1 => ?_)   -- if t8
  · try simp only [Bool.not_eq_true', Bool.not_eq_false', Bool.not_not, Bool.not_eq_eq_eq_not, Bool.not_true, Bool.not_false] at h1
    have h1' := h1
    try simp [inr] at h1'
    obtain ⟨x, hx⟩ : ∃ x, s[i]? = some x := ⟨_, List.getElem?_eq_getElem (by omega)⟩
    refine a_skip ?_
    refine hK2 _ ?_
    clear hK2 K2
    refine a_seqK fun K3 hK3 => ?_
    refine a_block ?_   -- block 1
    refine a_rs fun K hK => ?_   -- region 4
    simp (disch := omega) only [go_sem, Nat.reduceAdd, Nat.reduceMul, Nat.reduceEqDiff, Nat.reduceLT, Nat.reduceLeDiff, Nat.reduceBEq, w64, chk_pos, h1, hx]
    refine hK _ ?_
    clear hK K
    refine a_cond rfl (fun h2 => ?_) (fun h2 => ?_)   -- if t14
    · try simp only [Bool.not_eq_true', Bool.not_eq_false', Bool.not_not, Bool.not_eq_eq_eq_not, Bool.not_true, Bool.not_false] at h2
      have h2' := h2
      try simp [inr] at h2'
      refine a_rs fun K hK => ?_   -- region 5
      simp only [go_sem, Nat.reduceAdd, Nat.reduceMul, Nat.reduceEqDiff, Nat.reduceLT, Nat.reduceLeDiff, Nat.reduceBEq, h1, hx, h2]
      refine hK _ ?_
      clear hK K
      refine a_ret ⟨trivial, [.keep [2] []], ?_⟩
      simp only [go_sem, Nat.reduceAdd, Nat.reduceMul, Nat.reduceEqDiff, Nat.reduceLT, Nat.reduceLeDiff, Nat.reduceBEq, h1, hx, h2]
      refine ⟨_, _, rfl, rfl, rfl, ?_, rfl⟩
      simp only [go_sem, Nat.reduceAdd, Nat.reduceMul, Nat.reduceEqDiff, Nat.reduceLT, Nat.reduceLeDiff, Nat.reduceBEq, h1, hx, h2]
      all_goals
        rw [isLine_false (by omega) (hx.trans (congrArg some (byte_eq h2')))]
    try simp only [Bool.not_eq_true', Bool.not_eq_false', Bool.not_not, Bool.not_eq_eq_eq_not, Bool.not_true, Bool.not_false] at h2
    have h2' := h2
    try simp [inr] at h2'
    refine a_skip ?_
    refine hK3 _ ?_
    clear hK3 K3
    refine a_regP ?_
    simp (disch := omega) only [go_sem, Nat.reduceAdd, Nat.reduceMul, Nat.reduceEqDiff, Nat.reduceLT, Nat.reduceLeDiff, Nat.reduceBEq, w64, chk_pos, h1, hx, h2]
    refine ⟨i + 1, ?_, ?_, ?_⟩   -- round E1
    · try simp (disch := omega) only [go_sem, Nat.reduceAdd, Nat.reduceMul, Nat.reduceEqDiff, Nat.reduceLT, Nat.reduceLeDiff, Nat.reduceBEq, w64, chk_pos, h1, hx, h2]
      try rfl
    all_goals try dsimp only
    · refine ⟨by omega, fun j hj => ?_⟩
      by_cases e : j = i
      · subst e; rw [hx]; rintro ⟨⟩; exact absurd h2' (by decide)
      · exact hi.2 j (by omega)
    · omega
  try simp only [Bool.not_eq_true', Bool.not_eq_false', Bool.not_not, Bool.not_eq_eq_eq_not, Bool.not_true, Bool.not_false] at h1
  have h1' := h1
  try simp [inr] at h1'
  refine a_exit ?_
  simp only [go_sem, Nat.reduceAdd, Nat.reduceMul, Nat.reduceEqDiff, Nat.reduceLT, Nat.reduceLeDiff, Nat.reduceBEq, h1]
  clear hK2 K2
  refine hK1 _ ?_
  clear hK1 K1
  refine a_rs fun K hK => ?_   -- region 6
  simp (disch := omega) only [go_sem, Nat.reduceAdd, Nat.reduceMul, Nat.reduceEqDiff, Nat.reduceLT, Nat.reduceLeDiff, Nat.reduceBEq, w64, chk_pos, h1]
  refine r_callT rfl rfl rfl rfl rfl (spec_spec_l1In _ _ _) (by first | rfl | (simp only [go_sem, Nat.reduceAdd, Nat.reduceMul, Nat.reduceEqDiff, Nat.reduceLT, Nat.reduceLeDiff, Nat.reduceBEq, h1]; done) | (simp only [go_sem, Nat.reduceAdd, Nat.reduceMul, Nat.reduceEqDiff, Nat.reduceLT, Nat.reduceLeDiff, Nat.reduceBEq, h1]; rfl)) (by first | rfl | (simp [AV.okIds, AV.ok1]; done)) (by rfl) ?_
  simp only [go_sem, Nat.reduceAdd, Nat.reduceMul, Nat.reduceEqDiff, Nat.reduceLT, Nat.reduceLeDiff, Nat.reduceBEq, h1]
  refine hK _ ?_
  clear hK K
  refine a_ret ⟨trivial, [.keep [2] []], ?_⟩
  simp only [go_sem, Nat.reduceAdd, Nat.reduceMul, Nat.reduceEqDiff, Nat.reduceLT, Nat.reduceLeDiff, Nat.reduceBEq, h1]
  refine ⟨_, _, rfl, rfl, rfl, ?_, rfl⟩
  simp only [go_sem, Nat.reduceAdd, Nat.reduceMul, Nat.reduceEqDiff, Nat.reduceLT, Nat.reduceLeDiff, Nat.reduceBEq, h1]
  all_goals
    cases hl : inr s.length 1 30 <;> first | rw [isLine_len hl] | rw [isLine_true hl fun j hj => hi.2 j (by omega)]

theorem nm_spec_l1Ends : (Tryd.f90.name == "runtime.NumGoroutine") = false := by kernel_rfl
theorem spec_spec_l1Ends (s : Str) (hs : s.length ≤ 1099511627776) (h0 : 0 < s.length) :
    Spec Tryd.prog 90 [.sh (.str s)] [] (.sh (.bool (ends s))) [] := by
  obtain ⟨x, hx⟩ : ∃ x, s[s.length - 1]? = some x := ⟨_, List.getElem?_eq_getElem (by omega)⟩
  refine spec_of_awp hm (fun _ _ => {}) Tryd.func90 rfl nm_spec_l1Ends ?_
  rw [Tryd.ntmps90, Sp_start (by simp)]
  simp only [go_sem, Nat.reduceAdd, Nat.reduceMul, Nat.reduceEqDiff, Nat.reduceLT, Nat.reduceLeDiff, Nat.reduceBEq, hx]
  refine a_rs fun K hK => ?_   -- region 0
  simp only [go_sem, Nat.reduceAdd, Nat.reduceMul, Nat.reduceEqDiff, Nat.reduceLT, Nat.reduceLeDiff, Nat.reduceBEq, hx]
  refine hK _ ?_
  clear hK K
  refine a_rs fun K hK => ?_   -- region 1
  simp (disch := omega) only [go_sem, Nat.reduceAdd, Nat.reduceMul, Nat.reduceEqDiff, Nat.reduceLT, Nat.reduceLeDiff, Nat.reduceBEq, w64, chk_pos, hx]
  refine hK _ ?_
  clear hK K
  refine a_ret ⟨trivial, [.keep [2] []], ?_⟩
  simp only [go_sem, Nat.reduceAdd, Nat.reduceMul, Nat.reduceEqDiff, Nat.reduceLT, Nat.reduceLeDiff, Nat.reduceBEq, hx]
  refine ⟨_, _, rfl, rfl, rfl, ?_, rfl⟩
  simp only [go_sem, Nat.reduceAdd, Nat.reduceMul, Nat.reduceEqDiff, Nat.reduceLT, Nat.reduceLeDiff, Nat.reduceBEq, hx]
  all_goals
    rw [ends_at hx]

theorem nm_spec_l5Lines : (Tryd.f75.name == "runtime.NumGoroutine") = false := by kernel_rfl
theorem spec_spec_l5Lines (l : List Str) (hl : l.length ≤ 1099511627776) (hs : ∀ s ∈ l, s.length ≤ 1099511627776) :
    Spec Tryd.prog 75 [.sh (dStrs tS l)] [] (.sh (.bool (goodLines l))) [] := by
  refine spec_of_awp hm (tkT [3000]) Tryd.func75 rfl nm_spec_l5Lines ?_
  rw [Tryd.ntmps75, Sp_start (by simp)]
  simp only [go_sem, Nat.reduceAdd, Nat.reduceMul, Nat.reduceEqDiff, Nat.reduceLT, Nat.reduceLeDiff, Nat.reduceBEq]
  refine a_rs fun K hK => ?_   -- region 0
  simp only [go_sem, Nat.reduceAdd, Nat.reduceMul, Nat.reduceEqDiff, Nat.reduceLT, Nat.reduceLeDiff, Nat.reduceBEq]
  refine hK _ ?_
  clear hK K
  refine a_seqK fun K1 hK1 => ?_
  refine a_rs fun K hK => ?_   -- region 1
  simp (disch := omega) only [go_sem, Nat.reduceAdd, Nat.reduceMul, Nat.reduceEqDiff, Nat.reduceLT, Nat.reduceLeDiff, Nat.reduceBEq, w64, chk_pos]
  refine hK _ ?_
  clear hK K
  refine a_block ?_   -- block 0
  refine a_loopU (ι := Nat) [0, 5, 6] [] (fun i => [(7, .sh (.int .i64 i))]) (fun i => []) (fun i => i ≤ l.length ∧ (∀ j x, j < i → l[j]? = some x → isLine x = true) ∧ ∀ j x, j < i → j + 1 < l.length → l[j]? = some x → ends x = true) (fun i => l.length - i) 0 ?_ ?_ ?_
  · try simp (disch := omega) only [go_sem, Nat.reduceAdd, Nat.reduceMul, Nat.reduceEqDiff, Nat.reduceLT, Nat.reduceLeDiff, Nat.reduceBEq, w64, chk_pos]
    try rfl
  · simp
  rintro i hi
  simp only [go_sem, Nat.reduceAdd, Nat.reduceMul, Nat.reduceEqDiff, Nat.reduceLT, Nat.reduceLeDiff, Nat.reduceBEq]
  refine a_rs fun K hK => ?_   -- region 2
  simp only [go_sem, Nat.reduceAdd, Nat.reduceMul, Nat.reduceEqDiff, Nat.reduceLT, Nat.reduceLeDiff, Nat.reduceBEq]
  refine hK _ ?_
  clear hK K
  refine a_seqK fun K2 hK2 => ?_
  refine a_cond rfl (fun h1 => ?_) (fun h1 => ?_)   -- if t8
  · try simp only [Bool.not_eq_true', Bool.not_eq_false', Bool.not_not, Bool.not_eq_eq_eq_not, Bool.not_true, Bool.not_false] at h1
    have h1' := h1
    try simp [inr] at h1'
    obtain ⟨x, hx⟩ : ∃ x, l[i]? = some x := ⟨_, List.getElem?_eq_getElem h1'⟩
    have hxs := hs x (List.mem_of_getElem? hx)
    refine a_skip ?_
    refine hK2 _ ?_
    clear hK2 K2
    refine a_seqK fun K3 hK3 => ?_
    refine a_block ?_   -- block 1
    refine a_rs fun K hK => ?_   -- region 3
    simp (disch := omega) only [go_sem, Nat.reduceAdd, Nat.reduceMul, Nat.reduceEqDiff, Nat.reduceLT, Nat.reduceLeDiff, Nat.reduceBEq, w64, chk_pos, h1, hx]
    refine hK _ ?_
    clear hK K
    refine a_rsm [0, 5, 6, 7] [] [(26, .sh (.bool (!isLine x || decide (i + 1 < l.length) && !ends x)))] ?_ ?_   -- region 4
    · simp (disch := omega) only [go_sem, Nat.reduceAdd, Nat.reduceMul, Nat.reduceEqDiff, Nat.reduceLT, Nat.reduceLeDiff, Nat.reduceBEq, w64, chk_pos, h1, hx]
      refine r_callT rfl rfl rfl rfl rfl (spec_spec_l1Line x hxs) (by first | rfl | (simp only [go_sem, Nat.reduceAdd, Nat.reduceMul, Nat.reduceEqDiff, Nat.reduceLT, Nat.reduceLeDiff, Nat.reduceBEq, h1, hx]; done) | (simp only [go_sem, Nat.reduceAdd, Nat.reduceMul, Nat.reduceEqDiff, Nat.reduceLT, Nat.reduceLeDiff, Nat.reduceBEq, h1, hx]; rfl)) (by first | rfl | (simp [AV.okIds, AV.ok1]; done)) (by rfl) ?_
      simp (disch := omega) only [go_sem, Nat.reduceAdd, Nat.reduceMul, Nat.reduceEqDiff, Nat.reduceLT, Nat.reduceLeDiff, Nat.reduceBEq, w64, chk_pos, h1, hx]
      refine gIf_both (fun hg1 => ?_) (fun hg1 => ?_)
      · try simp only [Bool.not_eq_true', Bool.not_eq_false', Bool.not_not, Bool.not_eq_eq_eq_not, Bool.not_true, Bool.not_false] at hg1
        have hg1' := hg1
        try simp [inr] at hg1'
        simp (disch := omega) only [go_sem, Nat.reduceAdd, Nat.reduceMul, Nat.reduceEqDiff, Nat.reduceLT, Nat.reduceLeDiff, Nat.reduceBEq, w64, chk_pos, h1, hx, hg1]
        refine gIf_both (fun hg2 => ?_) (fun hg2 => ?_)
        · try simp only [Bool.not_eq_true', Bool.not_eq_false', Bool.not_not, Bool.not_eq_eq_eq_not, Bool.not_true, Bool.not_false] at hg2
          have hg2' := hg2
          try simp [inr] at hg2'
          simp only [go_sem, Nat.reduceAdd, Nat.reduceMul, Nat.reduceEqDiff, Nat.reduceLT, Nat.reduceLeDiff, Nat.reduceBEq, h1, hx, hg1, hg2]
          refine r_callT rfl rfl rfl rfl rfl (spec_spec_l1Ends x hxs (by have := isLine_pos (s := x) (by assumption); omega)) (by first | rfl | (simp only [go_sem, Nat.reduceAdd, Nat.reduceMul, Nat.reduceEqDiff, Nat.reduceLT, Nat.reduceLeDiff, Nat.reduceBEq, h1, hx, hg1, hg2]; done) | (simp only [go_sem, Nat.reduceAdd, Nat.reduceMul, Nat.reduceEqDiff, Nat.reduceLT, Nat.reduceLeDiff, Nat.reduceBEq, h1, hx, hg1, hg2]; rfl)) (by first | rfl | (simp [AV.okIds, AV.ok1]; done)) (by rfl) ?_
          simp only [go_sem, Nat.reduceAdd, Nat.reduceMul, Nat.reduceEqDiff, Nat.reduceLT, Nat.reduceLeDiff, Nat.reduceBEq, h1, hx, hg1, hg2]
          all_goals (first | rfl | ((first | refine sp_hd ?_ | refine sp_hd' ?_) <;> first | rfl | (simp; done) | (simp [goodLines]; omega) | (simp_all [goodLines]; done) | (simp_all [goodLines]; omega)))
        try simp only [Bool.not_eq_true', Bool.not_eq_false', Bool.not_not, Bool.not_eq_eq_eq_not, Bool.not_true, Bool.not_false] at hg2
        have hg2' := hg2
        try simp [inr] at hg2'
        simp only [go_sem, Nat.reduceAdd, Nat.reduceMul, Nat.reduceEqDiff, Nat.reduceLT, Nat.reduceLeDiff, Nat.reduceBEq, h1, hx, hg1, hg2]
        all_goals (first | rfl | ((first | refine sp_hd ?_ | refine sp_hd' ?_) <;> first | rfl | (simp; done) | (simp [goodLines]; omega) | (simp_all [goodLines]; done) | (simp_all [goodLines]; omega)))
      try simp only [Bool.not_eq_true', Bool.not_eq_false', Bool.not_not, Bool.not_eq_eq_eq_not, Bool.not_true, Bool.not_false] at hg1
      have hg1' := hg1
      try simp [inr] at hg1'
      simp (disch := omega) only [go_sem, Nat.reduceAdd, Nat.reduceMul, Nat.reduceEqDiff, Nat.reduceLT, Nat.reduceLeDiff, Nat.reduceBEq, w64, chk_pos, h1, hx, hg1]
      all_goals (first | rfl | ((first | refine sp_hd ?_ | refine sp_hd' ?_) <;> first | rfl | (simp; done) | (simp [goodLines]; omega) | (simp_all [goodLines]; done) | (simp_all [goodLines]; omega)))
    simp only [go_sem, Nat.reduceAdd, Nat.reduceMul, Nat.reduceEqDiff, Nat.reduceLT, Nat.reduceLeDiff, Nat.reduceBEq, h1, hx]
    refine a_cond rfl (fun h2 => ?_) (fun h2 => ?_)   -- if t26
    · try simp only [Bool.not_eq_true', Bool.not_eq_false', Bool.not_not, Bool.not_eq_eq_eq_not, Bool.not_true, Bool.not_false] at h2
      have h2' := h2
      try simp [inr] at h2'
      refine a_rs fun K hK => ?_   -- region 5
      simp only [go_sem, Nat.reduceAdd, Nat.reduceMul, Nat.reduceEqDiff, Nat.reduceLT, Nat.reduceLeDiff, Nat.reduceBEq, h1, hx, h2]
      refine hK _ ?_
      clear hK K
      refine a_ret ⟨trivial, [.keep [2] []], ?_⟩
      simp only [go_sem, Nat.reduceAdd, Nat.reduceMul, Nat.reduceEqDiff, Nat.reduceLT, Nat.reduceLeDiff, Nat.reduceBEq, h1, hx, h2]
      refine ⟨_, _, rfl, rfl, rfl, ?_, rfl⟩
      simp only [go_sem, Nat.reduceAdd, Nat.reduceMul, Nat.reduceEqDiff, Nat.reduceLT, Nat.reduceLeDiff, Nat.reduceBEq, h1, hx, h2]
      all_goals
        rw [goodLines_bad hx]; simpa using h2
    try simp only [Bool.not_eq_true', Bool.not_eq_false', Bool.not_not, Bool.not_eq_eq_eq_not, Bool.not_true, Bool.not_false] at h2
    have h2' := h2
    try simp [inr] at h2'
    refine a_skip ?_
    refine hK3 _ ?_
    clear hK3 K3
    refine a_regP ?_
    simp (disch := omega) only [go_sem, Nat.reduceAdd, Nat.reduceMul, Nat.reduceEqDiff, Nat.reduceLT, Nat.reduceLeDiff, Nat.reduceBEq, w64, chk_pos, h1, hx, h2]
    refine ⟨i + 1, ?_, ?_, ?_⟩   -- round E1
    · try simp (disch := omega) only [go_sem, Nat.reduceAdd, Nat.reduceMul, Nat.reduceEqDiff, Nat.reduceLT, Nat.reduceLeDiff, Nat.reduceBEq, w64, chk_pos, h1, hx, h2]
      try rfl
    all_goals try dsimp only
    · simp at h2
      refine ⟨by omega, fun j y hj hy => ?_, fun j y hj hj' hy => ?_⟩
      · by_cases e : j = i
        · subst e; rw [hx] at hy; obtain rfl := Option.some.inj hy; exact h2.1
        · exact hi.2.1 j y (by omega) hy
      · by_cases e : j = i
        · subst e; rw [hx] at hy; obtain rfl := Option.some.inj hy; exact h2.2 hj'
        · exact hi.2.2 j y (by omega) hj' hy
    · omega
  try simp only [Bool.not_eq_true', Bool.not_eq_false', Bool.not_not, Bool.not_eq_eq_eq_not, Bool.not_true, Bool.not_false] at h1
  have h1' := h1
  try simp [inr] at h1'
  refine a_exit ?_
  simp only [go_sem, Nat.reduceAdd, Nat.reduceMul, Nat.reduceEqDiff, Nat.reduceLT, Nat.reduceLeDiff, Nat.reduceBEq, h1]
  clear hK2 K2
  refine hK1 _ ?_
  clear hK1 K1
  refine a_rs fun K hK => ?_   -- region 7
  simp (disch := omega) only [go_sem, Nat.reduceAdd, Nat.reduceMul, Nat.reduceEqDiff, Nat.reduceLT, Nat.reduceLeDiff, Nat.reduceBEq, w64, chk_pos, h1]
  refine hK _ ?_
  clear hK K
  refine a_ret ⟨trivial, [.keep [2] []], ?_⟩
  simp only [go_sem, Nat.reduceAdd, Nat.reduceMul, Nat.reduceEqDiff, Nat.reduceLT, Nat.reduceLeDiff, Nat.reduceBEq, h1]
  refine ⟨_, _, rfl, rfl, rfl, ?_, rfl⟩
  simp only [go_sem, Nat.reduceAdd, Nat.reduceMul, Nat.reduceEqDiff, Nat.reduceLT, Nat.reduceLeDiff, Nat.reduceBEq, h1]
  all_goals
    rw [goodLines_all (fun j x hx => hi.2.1 j x (by have := (List.getElem?_eq_some_iff.1 hx).1; omega) hx) fun j x hj hx => hi.2.2 j x (by omega) hj hx]

end Go.Vi
