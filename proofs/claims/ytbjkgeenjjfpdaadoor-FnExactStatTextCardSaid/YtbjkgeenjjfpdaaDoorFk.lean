/- StatText of the program and of the reference tell the same of all diffs whose lines, names and rows are together 1048576 at most (so the law answers true for every input), and the argument reads behind the call as before. No condition. -/
import Derived.Test.YtbjkgeenjjfpdaaDoorCards
import Derived.Test.YtbjkgeenjjfpdaaDoorTie
import Derived.Test.YtbjkgeenjjfpdaaDoorFj
import Derived.Lib.LaidTab
import Derived.Stop.LaidErr
import Derived.Test.YtbjkgeenjjfpdaaDoorVs
import Derived.ProofKit
import Derived.OpenShut
import Derived.LaidMore
import Derived.Lay
import Derived.SevenTiedAt
import Derived.Stop.Joined
set_option linter.all false
set_option autoImplicit true
namespace Go.Proofs.YtbjkgeenjjfpdaaDoor
open Go.ChangeShapes Go.WideShapes Go.ChangeAt Go.RowKit Go.Vi
set_option linter.unusedVariables false

theorem own : ownKnob Tryd.prog.godebug = none := by kernel_rfl
theorem laidOut : laidOutB Tryd.prog = true := by kernel_rfl
theorem reads_row (W : World) : Rds Tryd.prog W 99 fun D => ∃ r, D = dRow r ∧ RowMax r :=
  rds_mono (rds_two Tryd.underlying99 (by kernel_rfl) rfl rfl (by kernel_rfl) (by kernel_rfl) (rds_int Tryd.underlying3) (rds_str Tryd.underlying9) (fun _ => cell_int) (fun _ => cell_str)) isRow_of
theorem reads_group (W : World) : Rds Tryd.prog W 67 fun D => ∃ g, D = dGroup tS g ∧ GrpMax g :=
  rds_mono (rds_three Tryd.underlying67 (by kernel_rfl) rfl rfl rfl (by kernel_rfl) (by kernel_rfl) (by kernel_rfl) (rds_int Tryd.underlying3) (rds_int Tryd.underlying3) (rds_rows Tryd.underlying65 (of_decide_eq_true (by kernel_rfl)) (reads_row W)) (fun _ => cell_int) (fun _ => cell_int) (fun _ => cell_sl)) isGroup_of
theorem reads_fd (W : World) : Rds Tryd.prog W 37 fun D => ∃ d, D = dFD tS d ∧ FDM d :=
  rds_mono (rds_three Tryd.underlying37 (by kernel_rfl) rfl rfl rfl (by kernel_rfl) (by kernel_rfl) (by kernel_rfl) (rds_str Tryd.underlying9) (rds_int Tryd.underlying3) (rds_rows Tryd.underlying35 (of_decide_eq_true (by kernel_rfl)) (reads_group W)) (fun _ => cell_str) (fun _ => cell_int) (fun _ => cell_sl)) isFD_of
theorem reads_fds (W : World) : Rds Tryd.prog W 22 (RSl (dFD tS) FDM) := rds_rows Tryd.underlying22 (of_decide_eq_true (by kernel_rfl)) (reads_fd W)

set_option maxRecDepth 100000 in
theorem lifted (os : Os) (started : os.Started) (H : Type) (enc : TypeId × Value → H) :
    ReturnsInHanded {} Tryd.checked os 5 .any (fun w args => (Rows.fnExactStatTextSpec.pre enc Tryd.prog Tryd.f5 Rows.fnExactStatTextRow.domain false w args ∧ laidMetH Tryd.prog Rows.fnExactStatTextRow.laid w) ∧ sizedMet enc Tryd.prog Tryd.f5 (OpenSpec.ofChange Rows.fnExactStatTextSpec) false w args)
      (Rows.fnExactStatTextSpec.post enc Tryd.prog Tryd.f5 false true false false) := by
  refine returnsInHanded_of_change_and (C := Tryd.checked) (X := fun w _ => laidMetH Tryd.prog Rows.fnExactStatTextRow.laid w) (fun _ _ _ hh h => h.of_heap hh) own started (by kernel_rfl) Tryd.func5
    (ChangeSpec.witness_shaped (enc := enc) (C := Tryd.checked) (os := os) (X := fun w _ => laidMetH Tryd.prog Rows.fnExactStatTextRow.laid w) false (World.laidAll Tryd.prog os Rows.fnExactStatTextRow.laid) #[.slice none 0 0] 8 (World.laidAll_os _ _ _)
      (World.shaped_of_ZipB (by kernel_rfl) (by kernel_rfl)) (by kernel_rfl) (by kernel_rfl) (by kernel_rfl)
      (by rw [MakeChecks.laidMetH_plain _ _ _ (by kernel_rfl)]; exact laidMet_laidAll _ (by kernel_rfl) (by kernel_rfl))) ?_
  intro W base args ds gs before hval0 hW hc _ hL _
  have hval : ∀ (j : Nat) t v, Tryd.f5.params[j]? = some t → args[j]? = some v → Value.okWide Tryd.prog W .any base t v := hval0
  have hW' := hW
  obtain ⟨p, q, hA0, hV, rfl, _, _⟩ := hW
  have hA : DataW.TrodAll enc Tryd.prog W 0 (fun _ => true) true Tryd.f5.params.toList args.toList ds p := hA0
  rw [Tryd.params5] at hA hval
  obtain ⟨v0, d0, rfl, rfl, h0⟩ := trodAll_one hA
  obtain ⟨rfl, rfl⟩ := trodVars_none hV
  obtain ⟨a0, len0, cap0, rfl⟩ := okWide_slice Tryd.underlying22 (hval 0 22 v0 rfl rfl)
  have k0 := h0
  have lt0 : ∀ x ∈ p, x.block < W.heap.size := by obtain ⟨m, hm⟩ := k0; exact DataW.trod_lt m _ _ _ hm
  have htab : Tabs Tryd.prog W := fun _ => by
    have h1 := hL
    rw [MakeChecks.laidMetH_plain _ _ _ (by kernel_rfl)] at h1
    have h2 : laidMet Tryd.prog (("internal/strconv.uint64pow10", Rows.laid_internal_strconv_uint64pow10) :: [("unicode/utf8.acceptRanges", Rows.laid_unicode_utf8_acceptRanges), ("unicode/utf8.first", Rows.laid_unicode_utf8_first)]) W := (laidMet.tail (laidMet.tail h1))
    rw [show (Rows.laid_internal_strconv_uint64pow10 : DataW Unit) = Lib.tabData .u64 Lib.pow10Tab by kernel_rfl] at h2
    exact Lib.tabIs_of_head (g := 0) (by kernel_rfl) (by kernel_rfl) Tryd.underlying109 Tryd.underlying93 (by kernel_rfl) (by kernel_rfl) h2
  have fin : Calls Tryd.prog 5 #[.slice a0 len0 cap0] W fun e w' => e = .returned (.bool true) ∧ Below W.heap.size W w' := by
    obtain ⟨fuel, hf⟩ := h0
    obtain ⟨D, hcr, rs, rfl, h1, h2⟩ := reads_fds W enc fuel _ _ hf
    refine law_calls htab (spec_laws_FnExactStatText rs h1 fun d hd => (h2 d hd).max) rfl fun i v x hv hx => ?_
    match i with
    | 0 =>
      simp at hv hx
      subst hv hx
      exact ⟨_, rfl, hcr.rel 0 _ _ rfl rfl⟩
    | i + 1 => simp at hv
  refine fin.mono fun e W' ⟨he, bel⟩ => ?_
  subst he
  exact ⟨_, rfl, _, _, _, [], _, [], hW', trodAll_mk1 (shut_bool Tryd.underlying4 _), trodAll_mk1 (Below.trod laidOut (by kernel_rfl) (of_decide_eq_true (by kernel_rfl)) k0 bel lt0), rfl, bel.frame _, fun h => by cases h⟩

theorem holds : Rows.FnExactStatTextSaid :=
  OpenClaim.holds_of_wide 5 Tryd.f5 rfl rfl rfl rfl rfl rfl rfl ⟨rfl, rfl, rfl, rfl, rfl⟩ rfl rfl rfl rfl rfl (by kernel_rfl) Tryd.func5 (by kernel_rfl)
    (of_decide_eq_true (by kernel_rfl)) (by unfold Func.isWrapper; first | (rw [if_pos (by decide +kernel)]; kernel_rfl) | (rw [if_neg (by decide +kernel)]; exact ⟨rfl, rfl⟩))
    (fun os started H enc _ => lifted os started H enc)
theorem card_holds : Rows.FnExactStatTextCardSaid :=
  Claim7.holds_tied_plain_at .later [] [.data, .data, .data, .data, .pinned] true (true, "aa52bb8a982f415a237def7b45c1e03b05315320da197598cb0f2c9264ed2894") false holds (fun _ h => by cases h) (by kernel_rfl) (fun _ h => by cases h) fnExactStatText_row_tie rfl ⟨rfl, rfl⟩ (by kernel_rfl) rfl
    (fun f fn hf hfn => by
      obtain rfl : f = 5 := Option.some.inj ((show Tryd.prog.funcNamed "loop.example/g00825/laws.FnExactStatText" = some 5 by kernel_rfl).symm.trans hf) |>.symm
      obtain rfl : fn = Tryd.f5 := (Option.some.inj (Tryd.func5.symm.trans hfn)).symm
      exact ⟨by kernel_rfl, fun j t ht => by
        rw [Tryd.params5] at ht
        have hm : t ∈ [22] := by simpa using Array.mem_of_getElem? ht
        have hall : ([22].all fun u => !Tryd.prog.wantsStandIn u) = true := by kernel_rfl
        exact (show Tryd.prog.wantsStandIn t = false by simpa using List.all_eq_true.1 hall t hm)⟩)
    (by kernel_rfl)
#print axioms card_holds
end Go.Proofs.YtbjkgeenjjfpdaaDoor
