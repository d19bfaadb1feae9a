/- MidNames returns true: the errors have their numbers, and the chapter's examples of middle and side hold. No condition. -/
import Derived.Test.YtboaamhffphaiaaRows
import Derived.Test.YtboaamhffphaiaaHelp
import Derived.WalkKit
import Derived.ProofKit
import Derived.OpenShut
import Derived.ShutString
import Derived.ChangeOld
import Derived.Below
namespace Go.Proofs.Ytboaamhffphaiaa.midNames
open Go.ChangeShapes Go.WideShapes Go.ChangeAt Go.RowKit
open Go.ChangeMaps (open_string shut_string)
set_option linter.unusedVariables false      -- a walk need not use every 'w<i>' (that an integer argument fits its kind)

theorem own : ownKnob Try.prog.godebug = none := by kernel_rfl

/-! ### The walk -/
theorem walk  (w : World) :
    Calls Try.prog 3 #[] w fun e w' => e = .returned (.bool true) ∧ Below w.heap.size w w' := by
  go_enter Try.func3, Try.ntmps3
  go_wp2_with fail
  have hb := two_below w (.cells #[.int .i64 3] 3) (.cells #[.int .i64 1] 3)
  refine (join_lit (some ⟨w.heap.size, 0, none⟩) (some ⟨w.heap.size + 1, 0, none⟩) 1 1 1 _ [3] [1] _ (Rd.lit2 w #[.int .i64 3] 3 _ .i64 [3] 1 rfl rfl (by omega)) (by have h := Rd.lit (w.alloc (.cells #[.int .i64 3] 3)) #[.int .i64 1] 3 .i64 [1] 1 rfl rfl (by omega); simpa using h) (Nat.le_refl _) (by decide) [4] [2] (by decide) (by decide)).mono ?_
  rintro e w1 hpair
  obtain ⟨A1, c1, A2, c2, rfl, h1, h2, h3, h4⟩ := pair_later hb hpair
  clear hpair h3 hb
  go_wp2_with fail
  refine (split_err (some ⟨w1.heap.size, 0, none⟩) none 1 1 0 0 _ [1] [] _ (Rd.lit w1 #[.int .i64 1] 3 .i64 [1] 1 rfl rfl (by omega)) (Rd.nil _ _ _ _) (Nat.le_refl _) 4 (by decide) (by omega)).mono ?_
  rintro e w2 hpair
  obtain ⟨A3, c3, A4, c4, rfl, _, _, _, k4⟩ := pair_later (below_alloc _ _) hpair
  have g2 := below_ h4 k4
  replace h1 := own_below h1 k4
  replace h2 := own_below h2 k4
  clear hpair h4 k4
  go_wp2_with fail
  have hb := two_below w2 (.cells #[.int .i64 268435456] 3) (.cells #[.int .i64 0] 3)
  refine (join_err (some ⟨w2.heap.size, 0, none⟩) (some ⟨w2.heap.size + 1, 0, none⟩) 1 1 1 1 _ [268435456] [0] _ (Rd.lit2 w2 #[.int .i64 268435456] 3 _ .i64 [268435456] 1 rfl rfl (by omega)) (by have h := Rd.lit (w2.alloc (.cells #[.int .i64 268435456] 3)) #[.int .i64 0] 3 .i64 [0] 1 rfl rfl (by omega); simpa using h) 2 (by decide) (by omega)).mono ?_
  rintro e w3 hpair
  obtain ⟨A5, c5, A6, c6, rfl, _, _, _, k4⟩ := pair_later hb hpair
  have g3 := below_ g2 k4
  replace h1 := own_below h1 k4
  replace h2 := own_below h2 k4
  clear hpair g2 k4 hb
  go_wp2_with fail
  refine (alive_any _).mono ?_
  rintro e w4 ⟨rfl, k4⟩
  replace h1 := own_below h1 k4
  replace h2 := own_below h2 k4
  have g4 := below_ g3 k4
  obtain ⟨g, rfl, hc⟩ := own_one h1
  obtain ⟨g', rfl, hc'⟩ := own_one h2
  clear h1 h2 g3 k4
  go_wp2_with fail
  go_ret
  exact ⟨rfl, g4⟩

/-! ### THE ROW's STEP: WRITTEN OUT: LEAVE IT -/
set_option maxRecDepth 100000 in
theorem lifted (os : Os) (started : os.Started) (H : Type) (enc : TypeId × Value → H) :
    ReturnsInHanded {} Try.checked os 3 .any (Rows.midNamesSpec.pre6 enc Try.prog Try.f3 Rows.midNamesRow.domain false) (Rows.midNamesSpec.post enc Try.prog Try.f3 false true false false) := by
  refine returnsInHanded_of_change (C := Try.checked) own started (by kernel_rfl) Try.func3
    (ChangeSpec.witness6 (enc := enc) (C := Try.checked) false ⟨#[], #[], []⟩ 8 (by kernel_rfl) (by kernel_rfl) (by kernel_rfl) (by kernel_rfl)) ?_
  intro W base args ds gs before hval0 hW hcnd _
  have hval : ∀ (j : Nat) t v, Try.f3.params[j]? = some t → args[j]? = some v → Value.okWide Try.prog W .any base t v := hval0
  have hW' := hW
  obtain ⟨p, q, hA0, hV, rfl, hfz, hnd⟩ := hW
  have hA : DataW.TrodAll enc Try.prog W 0 (fun _ => true) true Try.f3.params.toList args.toList ds p := hA0
  rw [Try.params3] at hA hval
  obtain ⟨rfl, rfl, rfl⟩ := trodAll_none hA
  obtain ⟨rfl, rfl⟩ := trodVars_none hV
  clear hA0 hval0
  refine (walk  W).mono fun e W' ⟨he, bel⟩ => ?_
  subst he
  exact ⟨_, rfl, _, _, _, [], _, [], hW', trodAll_mk1 (shut_bool Try.underlying4 _), trodAll_mk0, rfl, bel.frame _, fun h => by cases h⟩

theorem over : Rows.midNamesRow.holds Try.pinned (OpenSpec.ofChange Rows.midNamesSpec) :=
  OpenClaim.holds_of_wide 3 Try.f3 rfl rfl rfl rfl rfl rfl rfl ⟨rfl, rfl, rfl, rfl, rfl⟩ rfl rfl rfl rfl rfl (by kernel_rfl) Try.func3 (by kernel_rfl)
    (of_decide_eq_true (by kernel_rfl)) (by unfold Func.isWrapper; first | (rw [if_pos (by decide +kernel)]; kernel_rfl) | (rw [if_neg (by decide +kernel)]; exact ⟨rfl, rfl⟩))
    (fun os started H enc _ => lifted os started H enc)

/-- ████ THE STATEMENT ████ -/
theorem proved : Rows.MidNamesSaid :=
  over
#print axioms proved
end Go.Proofs.Ytboaamhffphaiaa.midNames
