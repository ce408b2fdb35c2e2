/- Contracts of functions of the seat. No statement is proved in this text. -/
import Derived.Test.YtbjkgeenjjfpdaaDoorBa
import Derived.Test.YtbjkgeenjjfpdaaDoorSh
import Derived.Test.YtbjkgeenjjfpdaaDoorPc
import Derived.Lib.AppendIntMem
set_option linter.all false
set_option autoImplicit true
namespace Go.Vi
open Go Go.Proofs
set_option maxRecDepth 100000
set_option maxHeartbeats 4000000
set_option linter.unusedVariables false
set_option linter.unusedSimpArgs false
open Go.Proofs
theorem goes_Itoa : Goes Tryd.prog 28 := ⟨_, Tryd.func28, by kernel_rfl, by kernel_rfl⟩
theorem spec_Itoa (n : Nat) (hn : n ≤ 1099511627776) : Spec Tryd.prog 28 [.sh (.int .i64 n)] [] (.sh (.str (Lib.decDigits n))) [] := by
  refine spec_of_tab goes_Itoa (vals := [.int .i64 n]) (v := .string ⟨⟨Lib.decDigits n⟩⟩) rfl rfl (by rw [show Tryd.prog.globalNamed "internal/strconv.uint64pow10" = some 0 by kernel_rfl]; simp) fun w ht => ?_
  have htab : Lib.TabIs Tryd.prog w "internal/strconv.uint64pow10" .u64 Lib.pow10Tab := by
    unfold Lib.TabIs
    rw [ht]
    rfl
  refine (Tryd.strconv_Itoa n (by omega) (by omega) w htab).mono fun e w' h => ?_
  obtain ⟨rfl, k, os, rfl⟩ := h
  exact ⟨by rw [Lib.itoa_nonneg], Lib.below_grow _ _ (Nat.le_refl _) k os⟩
theorem ten0 : ((10 : Int) = 0) = False := by simp
theorem tdiv10 (n : Nat) : Int.tdiv (n : Int) 10 = ((n / 10 : Nat) : Int) := rfl
theorem tmod10 (n : Nat) : Int.tmod (n : Int) 10 = ((n % 10 : Nat) : Int) := rfl
theorem wu8 {z : Int} (h1 : 0 ≤ z) (h2 : z ≤ 255) : IntKind.u8.wrap z = z := by
  simp only [IntKind.wrap, IntKind.signed, IntKind.bits, Bool.false_and, Bool.false_eq_true, if_false]
  omega
theorem nat48 (m : Nat) : (48 + (m : Int)).toNat = 48 + m := by omega

theorem nm_spec_l1Num : (Tryd.f27.name == "runtime.NumGoroutine") = false := by kernel_rfl
theorem spec_l1Num_step (n : Nat) (hn : n ≤ 1099511627776) (ih : ∀ m : Nat, m < n → Spec Tryd.prog 27 [.sh (.int .i64 m)] [] (.sh (.str (Lib.decDigits m))) []) :
    Spec Tryd.prog 27 [.sh (.int .i64 n)] [] (.sh (.str (Lib.decDigits n))) [] := by
  have hl := dec_len (n / 10)
  refine spec_of_awp hm (fun _ _ => {}) Tryd.func27 rfl nm_spec_l1Num ?_
  rw [Tryd.ntmps27, Sp_start (by simp)]
  simp only [go_sem, Nat.reduceAdd, Nat.reduceMul, Nat.reduceEqDiff, Nat.reduceLT, Nat.reduceLeDiff, Nat.reduceBEq, ten0, if_false, tdiv10, tmod10, wu8, nat48, convAV, bytesIn, byteOf]
  refine a_rs fun K hK => ?_   -- region 0
  simp only [go_sem, Nat.reduceAdd, Nat.reduceMul, Nat.reduceEqDiff, Nat.reduceLT, Nat.reduceLeDiff, Nat.reduceBEq, ten0, if_false, tdiv10, tmod10, wu8, nat48, convAV, bytesIn, byteOf]
  refine hK _ ?_
  clear hK K
  refine a_seqK fun K1 hK1 => ?_
  refine a_rs fun K hK => ?_   -- region 1
  simp only [go_sem, Nat.reduceAdd, Nat.reduceMul, Nat.reduceEqDiff, Nat.reduceLT, Nat.reduceLeDiff, Nat.reduceBEq, ten0, if_false, tdiv10, tmod10, wu8, nat48, convAV, bytesIn, byteOf]
  refine hK _ ?_
  clear hK K
  refine a_cond rfl (fun h1 => ?_) (fun h1 => ?_)   -- if t4
  · try simp only [Bool.not_eq_true', Bool.not_eq_false', Bool.not_not, Bool.not_eq_eq_eq_not, Bool.not_true, Bool.not_false] at h1
    have h1' := h1
    try simp [inr] at h1'
    refine a_rs fun K hK => ?_   -- region 2
    simp (disch := omega) only [go_sem, Nat.reduceAdd, Nat.reduceMul, Nat.reduceEqDiff, Nat.reduceLT, Nat.reduceLeDiff, Nat.reduceBEq, w64, chk_pos, ten0, if_false, tdiv10, tmod10, wu8, nat48, convAV, bytesIn, byteOf, h1]
    refine hK _ ?_
    clear hK K
    refine a_ret ⟨trivial, [.keep [2] []], ?_⟩
    simp only [go_sem, Nat.reduceAdd, Nat.reduceMul, Nat.reduceEqDiff, Nat.reduceLT, Nat.reduceLeDiff, Nat.reduceBEq, ten0, if_false, tdiv10, tmod10, wu8, nat48, convAV, bytesIn, byteOf, h1]
    refine ⟨_, _, rfl, rfl, rfl, ?_, rfl⟩
    simp only [go_sem, Nat.reduceAdd, Nat.reduceMul, Nat.reduceEqDiff, Nat.reduceLT, Nat.reduceLeDiff, Nat.reduceBEq, ten0, if_false, tdiv10, tmod10, wu8, nat48, convAV, bytesIn, byteOf, h1]
    all_goals
      rw [dec_small (by omega)]
  try simp only [Bool.not_eq_true', Bool.not_eq_false', Bool.not_not, Bool.not_eq_eq_eq_not, Bool.not_true, Bool.not_false] at h1
  have h1' := h1
  try simp [inr] at h1'
  refine a_skip ?_
  refine hK1 _ ?_
  clear hK1 K1
  refine a_rd rfl fun K I hK hI => ?_   -- region 3
  simp (disch := omega) only [go_sem, Nat.reduceAdd, Nat.reduceMul, Nat.reduceEqDiff, Nat.reduceLT, Nat.reduceLeDiff, Nat.reduceBEq, w64, chk_pos, ten0, if_false, tdiv10, tmod10, wu8, nat48, convAV, bytesIn, byteOf, h1]
  refine r_callD0 rfl rfl rfl rfl rfl (ih (n / 10) (by omega)) (by first | rfl | (simp only [go_sem, Nat.reduceAdd, Nat.reduceMul, Nat.reduceEqDiff, Nat.reduceLT, Nat.reduceLeDiff, Nat.reduceBEq, ten0, if_false, tdiv10, tmod10, wu8, nat48, convAV, bytesIn, byteOf, h1]; done) | (simp only [go_sem, Nat.reduceAdd, Nat.reduceMul, Nat.reduceEqDiff, Nat.reduceLT, Nat.reduceLeDiff, Nat.reduceBEq, ten0, if_false, tdiv10, tmod10, wu8, nat48, convAV, bytesIn, byteOf, h1]; rfl)) (by first | rfl | (simp [AV.okIds, AV.ok1]; done)) (by rfl) ?_
  simp (disch := omega) only [go_sem, Nat.reduceAdd, Nat.reduceMul, Nat.reduceEqDiff, Nat.reduceLT, Nat.reduceLeDiff, Nat.reduceBEq, w64, chk_pos, ten0, if_false, tdiv10, tmod10, wu8, nat48, convAV, bytesIn, byteOf, h1]
  refine ⟨hI _ (by first | kernel_rfl | rfl), hK _ ?_⟩
  clear hK hI K I
  refine a_ret ⟨trivial, [.keep [2] []], ?_⟩
  simp only [go_sem, Nat.reduceAdd, Nat.reduceMul, Nat.reduceEqDiff, Nat.reduceLT, Nat.reduceLeDiff, Nat.reduceBEq, ten0, if_false, tdiv10, tmod10, wu8, nat48, convAV, bytesIn, byteOf, h1]
  refine ⟨_, _, rfl, rfl, rfl, ?_, rfl⟩
  simp only [go_sem, Nat.reduceAdd, Nat.reduceMul, Nat.reduceEqDiff, Nat.reduceLT, Nat.reduceLeDiff, Nat.reduceBEq, ten0, if_false, tdiv10, tmod10, wu8, nat48, convAV, bytesIn, byteOf, h1]
  all_goals
    rw [dec_big (n := n) (by omega)]

theorem spec_spec_l1Num : ∀ (n : Nat) (hn : n ≤ 1099511627776), Spec Tryd.prog 27 [.sh (.int .i64 n)] [] (.sh (.str (Lib.decDigits n))) [] := by
  intro n
  induction n using Nat.strongRecOn with
  | _ n ih => exact fun hn => spec_l1Num_step n hn fun m hm => ih m hm (by omega)

end Go.Vi
