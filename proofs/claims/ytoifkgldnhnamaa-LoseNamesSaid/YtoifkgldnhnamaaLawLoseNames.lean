/- LoseNames returns true: the errors have their numbers, and the chapter's examples of lost frames' sequences and lines hold. No condition. -/
import Derived.Test.YtoifkgldnhnamaaRows
import Derived.Test.YtoifkgldnhnamaaHelp
import Derived.WalkKit
import Derived.ProofKit
import Derived.OpenShut
import Derived.ShutString
import Derived.ChangeOld
import Derived.Below
namespace Go.Proofs.Ytoifkgldnhnamaa.loseNames
open Go.ChangeShapes Go.WideShapes Go.ChangeAt Go.RowKit
open Go.ChangeMaps (open_string shut_string)
set_option linter.unusedVariables false      -- a walk need not use every 'w<i>' (that an integer argument fits its kind)

theorem own : ownKnob Try.prog.godebug = none := by kernel_rfl

theorem none_err : errL (cst 9) (cst 3) 0 1 = 2 := by
  unfold errL
  rw [if_pos (by omega)]
theorem none_ans : ansL (cst 9) (cst 3) 0 1 = [] := by
  unfold ansL
  rw [if_neg (by rw [none_err]; omega)]

/-! ### The walk -/
theorem walk  (w : World) :
    Calls Try.prog 7 #[] w fun e w' => e = .returned (.bool true) ∧ Below w.heap.size w w' := by
  have r9 : (-268435455 : Int) ≤ 9 ∧ (9 : Int) ≤ 268435455 := by omega
  have r3 : (-268435455 : Int) ≤ 3 ∧ (3 : Int) ≤ 268435455 := by omega
  have R9 := Lib.hid r9
  have R3 := Lib.hid r3
  clear r9 r3
  go_enter Try.func7, Try.ntmps7
  have b0 : Below w.heap.size w w := Below.refl _ _
  go_wp2_with fail
  refine (filled_any 9 _).mono ?_
  rintro e w1a ⟨A, c, rfl, hown, hb1⟩
  go_wp2_with fail
  refine (filled_any 3 _).mono ?_
  rintro e w1b ⟨A', c', rfl, hown', hb2⟩
  go_wp2_with fail
  refine (lines_lit A A' 256 c 256 c' _ (cst 9) (cst 3) 1 2 _ (Rd.of_own (own_below hown hb2)) (Rd.of_own hown') (Nat.le_refl _) (cst 7) 0 (cst_ans 9 3 1 2 R9.out R3.out (by omega)) (cst_err 9 3 1 2 R9.out R3.out (by omega))).mono ?_
  rintro e w1c ⟨A1, c1, rfl, ho1, hb3⟩
  have b1 := below_ b0 (below_ (below_ hb1 hb2) hb3)
  clear hown hown' hb1 hb2 hb3 b0
  go_wp2_with fail
  refine (filled_any 9 _).mono ?_
  rintro e w2a ⟨A, c, rfl, hown, hb1⟩
  go_wp2_with fail
  refine (lines_lit A none 256 c 0 0 _ (cst 9) [] 1 1 _ (Rd.of_own hown) (Rd.nil _ _ _ _) (Nat.le_refl _) (cst 4) 0 (nil_ans 9 1 1 R9.out (by omega)) (nil_err 9 1 1 R9.out (by omega))).mono ?_
  rintro e w2c ⟨A2, c2, rfl, ho2, hb3⟩
  have b2 := below_ b1 (below_ hb1 hb3)
  replace ho1 := own_below (own_below ho1 hb1) hb3
  clear hown hb1 hb3 b1
  go_wp2_with fail
  refine (filled_any 9 _).mono ?_
  rintro e w3a ⟨A, c, rfl, hown, hb1⟩
  go_wp2_with fail
  refine (filled_any 3 _).mono ?_
  rintro e w3b ⟨A', c', rfl, hown', hb2⟩
  go_wp2_with fail
  refine (lines_lit A A' 256 c 256 c' _ (cst 9) (cst 3) 3 3 _ (Rd.of_own (own_below hown hb2)) (Rd.of_own hown') (Nat.le_refl _) (cst 1) 0 (cst_ans 9 3 3 3 R9.out R3.out (by omega)) (cst_err 9 3 3 3 R9.out R3.out (by omega))).mono ?_
  rintro e w3c ⟨A3, c3, rfl, ho3, hb3⟩
  have b3 := below_ b2 (below_ (below_ hb1 hb2) hb3)
  replace ho1 := own_below (own_below (own_below ho1 hb1) hb2) hb3
  replace ho2 := own_below (own_below (own_below ho2 hb1) hb2) hb3
  clear hown hown' hb1 hb2 hb3 b2
  go_wp2_with fail
  refine (filled_any 9 _).mono ?_
  rintro e w4a ⟨A, c, rfl, hown, hb1⟩
  go_wp2_with fail
  refine (filled_any 3 _).mono ?_
  rintro e w4b ⟨A', c', rfl, hown', hb2⟩
  go_wp2_with fail
  refine (lines_lit A A' 256 c 256 c' _ (cst 9) (cst 3) 9 9 _ (Rd.of_own (own_below hown hb2)) (Rd.of_own hown') (Nat.le_refl _) (cst 0) 0 (cst_ans 9 3 9 9 R9.out R3.out (by omega)) (cst_err 9 3 9 9 R9.out R3.out (by omega))).mono ?_
  rintro e w4c ⟨A4, c4, rfl, ho4, hb3⟩
  have b4 := below_ b3 (below_ (below_ hb1 hb2) hb3)
  replace ho1 := own_below (own_below (own_below ho1 hb1) hb2) hb3
  replace ho2 := own_below (own_below (own_below ho2 hb1) hb2) hb3
  replace ho3 := own_below (own_below (own_below ho3 hb1) hb2) hb3
  clear hown hown' hb1 hb2 hb3 b3
  go_wp2_with fail
  refine (seq_lit 2 3 0 _ (by omega) (by omega) rfl rfl).mono ?_
  rintro e wx ⟨rfl, rfl⟩
  go_wp2_with fail
  refine (seq_lit 4 0 2 _ (by omega) (by omega) rfl rfl).mono ?_
  rintro e wx ⟨rfl, rfl⟩
  go_wp2_with fail
  refine (filled_any 9 _).mono ?_
  rintro e w5a ⟨A, c, rfl, hown, hb1⟩
  go_wp2_with fail
  refine (filled_any 3 _).mono ?_
  rintro e w5b ⟨A', c', rfl, hown', hb2⟩
  go_wp2_with fail
  refine (lines_lit A A' 256 c 256 c' _ (cst 9) (cst 3) 0 1 _ (Rd.of_own (own_below hown hb2)) (Rd.of_own hown') (Nat.le_refl _) [] 2 none_ans none_err).mono ?_
  rintro e w5c ⟨A5, c5, rfl, ho5, hb3⟩
  have b5 := below_ b4 (below_ (below_ hb1 hb2) hb3)
  replace ho1 := own_below (own_below (own_below ho1 hb1) hb2) hb3
  replace ho2 := own_below (own_below (own_below ho2 hb1) hb2) hb3
  replace ho3 := own_below (own_below (own_below ho3 hb1) hb2) hb3
  replace ho4 := own_below (own_below (own_below ho4 hb1) hb2) hb3
  clear hown hown' hb1 hb2 hb3 b4
  go_wp2_with fail
  refine (alive_any _).mono ?_
  rintro e w6 ⟨rfl, hb6⟩
  have b6 := below_ b5 hb6
  replace ho1 := own_below ho1 hb6
  replace ho2 := own_below ho2 hb6
  replace ho3 := own_below ho3 hb6
  replace ho4 := own_below ho4 hb6
  clear hb6 b5 ho5
  go_wp2_with fail
  refine (all_any A1 _ c1 _ (cst 7) 7 _ (Rd.of_own ho1)).mono ?_
  rw [allB_cst]
  rintro e wx ⟨rfl, rfl⟩
  go_wp2_with fail
  refine (all_any A2 _ c2 _ (cst 4) 4 _ (Rd.of_own ho2)).mono ?_
  rw [allB_cst]
  rintro e wx ⟨rfl, rfl⟩
  go_wp2_with fail
  refine (all_any A3 _ c3 _ (cst 1) 1 _ (Rd.of_own ho3)).mono ?_
  rw [allB_cst]
  rintro e wx ⟨rfl, rfl⟩
  go_wp2_with fail
  refine (all_any A4 _ c4 _ (cst 0) 0 _ (Rd.of_own ho4)).mono ?_
  rw [allB_cst]
  rintro e wx ⟨rfl, rfl⟩
  go_wp2_with fail
  go_ret
  exact ⟨rfl, b6⟩

/-! ### THE ROW's STEP: WRITTEN OUT: LEAVE IT -/
set_option maxRecDepth 100000 in
theorem lifted (os : Os) (started : os.Started) (H : Type) (enc : TypeId × Value → H) :
    ReturnsInHanded {} Try.checked os 7 .any (Rows.loseNamesSpec.pre6 enc Try.prog Try.f7 Rows.loseNamesRow.domain false) (Rows.loseNamesSpec.post enc Try.prog Try.f7 false true false false) := by
  refine returnsInHanded_of_change (C := Try.checked) own started (by kernel_rfl) Try.func7
    (ChangeSpec.witness6 (enc := enc) (C := Try.checked) false ⟨#[], #[], []⟩ 8 (by kernel_rfl) (by kernel_rfl) (by kernel_rfl) (by kernel_rfl)) ?_
  intro W base args ds gs before hval0 hW hcnd _
  have hval : ∀ (j : Nat) t v, Try.f7.params[j]? = some t → args[j]? = some v → Value.okWide Try.prog W .any base t v := hval0
  have hW' := hW
  obtain ⟨p, q, hA0, hV, rfl, hfz, hnd⟩ := hW
  have hA : DataW.TrodAll enc Try.prog W 0 (fun _ => true) true Try.f7.params.toList args.toList ds p := hA0
  rw [Try.params7] at hA hval
  obtain ⟨rfl, rfl, rfl⟩ := trodAll_none hA
  obtain ⟨rfl, rfl⟩ := trodVars_none hV
  clear hA0 hval0
  refine (walk  W).mono fun e W' ⟨he, bel⟩ => ?_
  subst he
  exact ⟨_, rfl, _, _, _, [], _, [], hW', trodAll_mk1 (shut_bool Try.underlying4 _), trodAll_mk0, rfl, bel.frame _, fun h => by cases h⟩

theorem over : Rows.loseNamesRow.holds Try.pinned (OpenSpec.ofChange Rows.loseNamesSpec) :=
  OpenClaim.holds_of_wide 7 Try.f7 rfl rfl rfl rfl rfl rfl rfl ⟨rfl, rfl, rfl, rfl, rfl⟩ rfl rfl rfl rfl rfl (by kernel_rfl) Try.func7 (by kernel_rfl)
    (of_decide_eq_true (by kernel_rfl)) (by unfold Func.isWrapper; first | (rw [if_pos (by decide +kernel)]; kernel_rfl) | (rw [if_neg (by decide +kernel)]; exact ⟨rfl, rfl⟩))
    (fun os started H enc _ => lifted os started H enc)

/-- ████ THE STATEMENT ████ -/
theorem proved : Rows.LoseNamesSaid :=
  over
#print axioms proved
end Go.Proofs.Ytoifkgldnhnamaa.loseNames
