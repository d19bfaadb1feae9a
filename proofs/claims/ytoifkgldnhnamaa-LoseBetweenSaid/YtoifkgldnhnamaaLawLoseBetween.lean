/- LoseBetween returns true: lost lines are between both sides, and behind a long run's eighth frame there is silence, for any lines and numbers. No condition. -/
import Derived.Test.YtoifkgldnhnamaaRows
import Derived.Test.YtoifkgldnhnamaaMore
import Derived.WalkKit
import Derived.ProofKit
import Derived.OpenShut
import Derived.ShutString
import Derived.ChangeOld
import Derived.Below
namespace Go.Proofs.Ytoifkgldnhnamaa.loseBetween
open Go.ChangeShapes Go.WideShapes Go.ChangeAt Go.RowKit
open Go.ChangeMaps (open_string shut_string)
set_option linter.unusedVariables false

theorem own : ownKnob Try.prog.godebug = none := by kernel_rfl
theorem laidOut : laidOutB Try.prog = true := by kernel_rfl

/-- WHAT THE WALK IS TOLD OF A SLICE OF INTEGERS THAT CAME IN: it is nil; or it leads to a row of 'cap' cells, the numbers 'zs' (the first 'len' are its elements, the rest its spare room), each fitting its kind. -/
def IsRow (k : IntKind) (w : World) (a : Option Addr) (len cap : Nat) (zs : List Int) : Prop :=
  (a = none ∧ len = 0 ∧ cap = 0 ∧ zs = []) ∨
  ∃ x, a = some x ∧ len ≤ cap ∧ cap ≤ maxLen ∧ zs.length = cap ∧ (∀ i, i < zs.length → w.cell? (x.add i) = some (.int k (zs.getD i 0))) ∧ ∀ n ∈ zs, (Lit.int k n).wf = true

/-! ### The walk -/
set_option maxHeartbeats 4000000 in
set_option maxRecDepth 100000 in
theorem walk (a0 : Option Addr) (len0 cap0 : Nat) (z0 : List Int) (a1 : Option Addr) (len1 cap1 : Nat) (z1 : List Int) (a2 : Int) (a3 : Int) (w : World) (w0 : IsRow .i64 w a0 len0 cap0 z0) (w1 : IsRow .i64 w a1 len1 cap1 z1) (w2 : (Lit.int .i64 a2).wf = true) (w3 : (Lit.int .i64 a3).wf = true) :
    Calls Try.prog 5 #[.slice a0 len0 cap0, .slice a1 len1 cap1, .int .i64 a2, .int .i64 a3] w fun e w' => e = .returned (.bool true) ∧ Below w.heap.size w w' := by
  obtain ⟨l, hr, _, _⟩ := rd_of_row w0
  obtain ⟨l', hr', _, _⟩ := rd_of_row w1
  have hn := hr.le
  have hn' := hr'.le
  by_cases hbig : 1000 < len0
  · go_enter Try.func5, Try.ntmps5
    go_wp2_with fail
    refine (alive_any _).mono ?_
    rintro e wa ⟨rfl, hba⟩
    go_wp2_with fail
    go_ret
    exact ⟨rfl, hba⟩
  by_cases hbig' : 1000 < len1
  · go_enter Try.func5, Try.ntmps5
    go_wp2_with fail
    refine (alive_any _).mono ?_
    rintro e wa ⟨rfl, hba⟩
    go_wp2_with fail
    go_ret
    exact ⟨rfl, hba⟩
  rcases err_cases l l' a2 a3 with he | ⟨he, hans⟩
  case inr =>
    have hd : (errL l l' a2 a3 != 0) = true := by simpa using he
    have HA := Lib.hid hans
    clear hans he
    go_enter Try.func5, Try.ntmps5
    go_wp2_with fail
    refine (alive_any _).mono ?_
    rintro e wa ⟨rfl, hba⟩
    go_wp2_with fail
    refine (lines_lit a0 a1 len0 cap0 len1 cap1 _ l l' a2 a3 _ (hr.below hba) (hr'.below hba) hba.size [] (errL l l' a2 a3) HA.out rfl).mono ?_
    rintro e wb ⟨A, c, rfl, _, hbb⟩
    go_wp2_with fail
    go_ret
    exact ⟨rfl, below_ hba hbb⟩
  have hlb := fun j => line_between he j
  obtain ⟨⟨g1, g2, g3⟩, e1, e2, _, _⟩ := err_zero he
  have HE := Lib.hid he
  have HLB := Lib.hid hlb
  have Hl := Lib.hid hr.len
  have Hl' := Lib.hid hr'.len
  obtain rfl : len0 = 256 := by rw [← hr.len]; exact e1
  have hcase : len1 = 256 ∨ len1 = 0 := by rw [← hr'.len]; exact e2
  have HO : ∀ j, other a3 l' j = if a3 ≤ 2 ∧ 0 < len1 then l'.getD j 0 else 0 := fun j => by unfold other; rw [hr'.len]
  have HOT := Lib.hid HO
  clear hlb he e1 e2 HO
  have HC := Lib.hid (show (len1 = 256 ∧ a3 ≤ 2) ∨ ¬ (len1 = 256 ∧ a3 ≤ 2) by omega)
  go_enter Try.func5, Try.ntmps5
  go_wp2_with fail
  refine (alive_any _).mono ?_
  rintro e wa ⟨rfl, hba⟩
  go_wp2_with fail
  refine (lines_full a0 a1 256 cap0 len1 cap1 _ l l' a2 a3 _ (hr.below hba) (hr'.below hba) hba.size HE.out).mono ?_
  rintro e wb ⟨A, c, rfl, hown, hbb⟩
  have hrx := hr.below (below_ hba hbb)
  have hry := hr'.below (below_ hba hbb)
  have hrz := Rd.of_own hown
  have gb := below_ hba hbb
  clear hown hba hbb
  go_wp2_with fail
  go_loopw [12] (fun i wr => ∃ k : Nat, k ≤ 256 ∧ i = .int .i64 k ∧ Drawn wb wr) (fun i _ => 256 - (intOf i).toNat)
  case atStart => exact ⟨0, by omega, rfl, 0, rfl⟩
  case round =>
    obtain ⟨k, hk, rfl, q, rfl⟩ := hrel
    by_cases hlt : k < 256
    · obtain ⟨ad, rfl, _, hc⟩ := hrx.at_ hlt
      obtain ⟨ad3, rfl, _, hc3⟩ := hrz.at_ hlt
      rw [fl_getD _ _ _ _ _ hlt] at hc3
      obtain ⟨hv0, hv1, hv2⟩ := HLB.out k
      have hki : (k : Int) < 256 := by omega
      have hk0 : (0 : Int) ≤ (k : Int) := by omega
      have HV2 := Lib.hid hv2
      rcases HC.out with ⟨h256, hm2⟩ | hno
      · obtain ⟨ad1, rfl, _, hc1⟩ := hry.at_ (show k < len1 by omega)
        have hki1 : (k : Int) < (len1 : Int) := by omega
        have hpos : (0 : Int) < (len1 : Int) := by omega
        have ho : other a3 l' k = l'.getD k 0 := by rw [HOT.out, if_pos ⟨hm2, by omega⟩]
        rw [ho] at hv0 hv1
        clear hv2 ho h256
        generalize l.getD k 0 = x at *
        generalize l'.getD k 0 = y at *
        generalize lineOf a2 a3 l l' k = v at *
        have d3 : decide (2 < a3) = false := by simp; omega
        rcases (show (x < y ∧ ¬ y < x) ∨ (¬ x < y ∧ y < x) ∨ x = y by omega) with ⟨p1, p2⟩ | ⟨p1, p2⟩ | rfl
        · have d1 : decide (y < v) = false := by simp; omega
          have d2 : decide (v < x) = false := by simp; omega
          go_wp2_with fail
          go_quiet (fail)
          go_wp2_with fail
          go_roundw
          case rel => exact ⟨k + 1, by omega, by go_num, _, rfl⟩
          case measure => simp [intOf]; omega
        · have d1 : decide (x < v) = false := by simp; omega
          have d2 : decide (v < y) = false := by simp; omega
          go_wp2_with fail
          go_quiet (fail)
          go_wp2_with fail
          go_roundw
          case rel => exact ⟨k + 1, by omega, by go_num, _, rfl⟩
          case measure => simp [intOf]; omega
        · have d1 : decide (x < v) = false := by simp; omega
          have d2 : decide (v < x) = false := by simp; omega
          go_wp2_with fail
          go_quiet (fail)
          go_wp2_with fail
          go_roundw
          case rel => exact ⟨k + 1, by omega, by go_num, _, rfl⟩
          case measure => simp [intOf]; omega
      · have ho : other a3 l' k = 0 := by rw [HOT.out, if_neg (by omega)]
        rw [ho] at hv0 hv1
        clear ho hv2
        generalize l.getD k 0 = x at *
        generalize lineOf a2 a3 l l' k = v at *
        have hcase : (len1 = 0 ∧ a3 ≤ 2) ∨ ((len1 = 0 ∨ len1 = 256) ∧ 2 < a3) := by omega
        clear hno
        rcases hcase with ⟨h0, hm2⟩ | ⟨h0, hm2⟩
        · have hpos : ¬ (0 : Int) < (len1 : Int) := by omega
          clear h0
          have d3 : decide (2 < a3) = false := by simp; omega
          rcases (show (x < 0 ∧ ¬ 0 < x) ∨ (¬ x < 0 ∧ 0 < x) ∨ x = 0 by omega) with ⟨p1, p2⟩ | ⟨p1, p2⟩ | rfl
          · have d1 : decide (0 < v) = false := by simp; omega
            have d2 : decide (v < x) = false := by simp; omega
            go_wp2_with fail
            go_quiet (fail)
            go_wp2_with fail
            go_roundw
            case rel => exact ⟨k + 1, by omega, by go_num, _, rfl⟩
            case measure => simp [intOf]; omega
          · have d1 : decide (x < v) = false := by simp; omega
            have d2 : decide (v < 0) = false := by simp; omega
            go_wp2_with fail
            go_quiet (fail)
            go_wp2_with fail
            go_roundw
            case rel => exact ⟨k + 1, by omega, by go_num, _, rfl⟩
            case measure => simp [intOf]; omega
          · have d1 : decide (0 < v) = false := by simp; omega
            have d2 : decide (v < 0) = false := by simp; omega
            go_wp2_with fail
            go_quiet (fail)
            go_wp2_with fail
            go_roundw
            case rel => exact ⟨k + 1, by omega, by go_num, _, rfl⟩
            case measure => simp [intOf]; omega
        · by_cases h8 : 8 < a2
          · have d5 : (v != 0) = false := by simpa using HV2.out hm2 h8
            clear h0
            rcases (show (x < 0 ∧ ¬ 0 < x) ∨ (¬ x < 0 ∧ 0 < x) ∨ x = 0 by omega) with ⟨p1, p2⟩ | ⟨p1, p2⟩ | rfl
            · have d1 : decide (0 < v) = false := by simp; omega
              have d2 : decide (v < x) = false := by simp; omega
              go_wp2_with fail
              go_quiet (fail)
              go_wp2_with fail
              go_roundw
              case rel => exact ⟨k + 1, by omega, by go_num, _, rfl⟩
              case measure => simp [intOf]; omega
            · have d1 : decide (x < v) = false := by simp; omega
              have d2 : decide (v < 0) = false := by simp; omega
              go_wp2_with fail
              go_quiet (fail)
              go_wp2_with fail
              go_roundw
              case rel => exact ⟨k + 1, by omega, by go_num, _, rfl⟩
              case measure => simp [intOf]; omega
            · have d1 : decide (0 < v) = false := by simp; omega
              have d2 : decide (v < 0) = false := by simp; omega
              go_wp2_with fail
              go_quiet (fail)
              go_wp2_with fail
              go_roundw
              case rel => exact ⟨k + 1, by omega, by go_num, _, rfl⟩
              case measure => simp [intOf]; omega
          · have d4 : decide (8 < a2) = false := by simp; omega
            clear h0
            rcases (show (x < 0 ∧ ¬ 0 < x) ∨ (¬ x < 0 ∧ 0 < x) ∨ x = 0 by omega) with ⟨p1, p2⟩ | ⟨p1, p2⟩ | rfl
            · have d1 : decide (0 < v) = false := by simp; omega
              have d2 : decide (v < x) = false := by simp; omega
              go_wp2_with fail
              go_quiet (fail)
              go_wp2_with fail
              go_roundw
              case rel => exact ⟨k + 1, by omega, by go_num, _, rfl⟩
              case measure => simp [intOf]; omega
            · have d1 : decide (x < v) = false := by simp; omega
              have d2 : decide (v < 0) = false := by simp; omega
              go_wp2_with fail
              go_quiet (fail)
              go_wp2_with fail
              go_roundw
              case rel => exact ⟨k + 1, by omega, by go_num, _, rfl⟩
              case measure => simp [intOf]; omega
            · have d1 : decide (0 < v) = false := by simp; omega
              have d2 : decide (v < 0) = false := by simp; omega
              go_wp2_with fail
              go_quiet (fail)
              go_wp2_with fail
              go_roundw
              case rel => exact ⟨k + 1, by omega, by go_num, _, rfl⟩
              case measure => simp [intOf]; omega
    · obtain rfl : k = 256 := by omega
      go_wp2_with fail
      go_ret
      exact ⟨rfl, below_drewN gb q⟩

/-! ### THE ROW's STEP: WRITTEN OUT: LEAVE IT -/
set_option maxRecDepth 100000 in
theorem lifted (os : Os) (started : os.Started) (H : Type) (enc : TypeId × Value → H) :
    ReturnsInHanded {} Try.checked os 5 .any (Rows.loseBetweenSpec.pre6 enc Try.prog Try.f5 Rows.loseBetweenRow.domain false) (Rows.loseBetweenSpec.post enc Try.prog Try.f5 false true false false) := by
  refine returnsInHanded_of_change (C := Try.checked) own started (by kernel_rfl) Try.func5
    (ChangeSpec.witness6 (enc := enc) (C := Try.checked) false ⟨#[], #[.slice none 0 0, .slice none 0 0, .int .i64 0, .int .i64 0], []⟩ 8 (by kernel_rfl) (by kernel_rfl) (by kernel_rfl) (by kernel_rfl)) ?_
  intro W base args ds gs before hval0 hW hcnd _
  have hval : ∀ (j : Nat) t v, Try.f5.params[j]? = some t → args[j]? = some v → Value.okWide Try.prog W .any base t v := hval0
  have hW' := hW
  obtain ⟨p, q, hA0, hV, rfl, hfz, hnd⟩ := hW
  have hA : DataW.TrodAll enc Try.prog W 0 (fun _ => true) true Try.f5.params.toList args.toList ds p := hA0
  rw [Try.params5] at hA hval
  obtain ⟨v0, vs0, d0, ds0, p0, q0, hargs, rfl, rfl, h0, r0⟩ := trodAll_cons hA
  obtain ⟨v1, vs1, d1, ds1, p1, q1, rfl, rfl, rfl, h1, r1⟩ := trodAll_cons r0
  obtain ⟨v2, vs2, d2, ds2, p2, q2, rfl, rfl, rfl, h2, r2⟩ := trodAll_cons r1
  obtain ⟨v3, vs3, d3, ds3, p3, q3, rfl, rfl, rfl, h3, r3⟩ := trodAll_cons r2
  obtain ⟨rfl, rfl, rfl⟩ := trodAll_nil r3
  obtain rfl : args = #[v0, v1, v2, v3] := by cases args; simp_all
  obtain ⟨rfl, rfl⟩ := trodVars_none hV
  obtain ⟨a0, len0, cap0, rfl⟩ := okWide_slice Try.underlying22 (hval 0 22 v0 rfl rfl)
  have k0 := h0
  have lt0 : ∀ x ∈ p0, x.block < W.heap.size := by obtain ⟨m, hm⟩ := k0; exact DataW.trod_lt m _ _ _ hm
  obtain ⟨z0, w0⟩ : ∃ zs, IsRow .i64 W a0 len0 cap0 zs := by
    obtain ⟨fuel, hf⟩ := h0
    rcases open_ints Try.underlying22 Try.underlying3 (by kernel_rfl) hf with ⟨hcs, _⟩ | ⟨x, l, c, zs, hcs, _, hl, hm, hz, _, hcell, hwz⟩
    · simp [Value.cells] at hcs
      obtain ⟨rfl, rfl, rfl⟩ := hcs
      exact ⟨[], .inl ⟨rfl, rfl, rfl, rfl⟩⟩
    · simp [Value.cells] at hcs
      obtain ⟨rfl, rfl, rfl⟩ := hcs
      exact ⟨zs, .inr ⟨_, rfl, hl, hm, by simpa using hz, hcell, hwz⟩⟩
  obtain ⟨a1, len1, cap1, rfl⟩ := okWide_slice Try.underlying22 (hval 1 22 v1 rfl rfl)
  have k1 := h1
  have lt1 : ∀ x ∈ p1, x.block < W.heap.size := by obtain ⟨m, hm⟩ := k1; exact DataW.trod_lt m _ _ _ hm
  obtain ⟨z1, w1⟩ : ∃ zs, IsRow .i64 W a1 len1 cap1 zs := by
    obtain ⟨fuel, hf⟩ := h1
    rcases open_ints Try.underlying22 Try.underlying3 (by kernel_rfl) hf with ⟨hcs, _⟩ | ⟨x, l, c, zs, hcs, _, hl, hm, hz, _, hcell, hwz⟩
    · simp [Value.cells] at hcs
      obtain ⟨rfl, rfl, rfl⟩ := hcs
      exact ⟨[], .inl ⟨rfl, rfl, rfl, rfl⟩⟩
    · simp [Value.cells] at hcs
      obtain ⟨rfl, rfl, rfl⟩ := hcs
      exact ⟨zs, .inr ⟨_, rfl, hl, hm, by simpa using hz, hcell, hwz⟩⟩
  obtain ⟨a2, rfl, rfl, rfl, w2⟩ := open_int Try.underlying3 (hval 2 3 v2 rfl rfl) h2
  obtain ⟨a3, rfl, rfl, rfl, w3⟩ := open_int Try.underlying3 (hval 3 3 v3 rfl rfl) h3
  clear hA0 hval0
  refine (walk a0 len0 cap0 z0 a1 len1 cap1 z1 a2 a3 W w0 w1 w2 w3).mono fun e W' ⟨he, bel⟩ => ?_
  subst he
  exact ⟨_, rfl, _, _, _, [], _, [], hW', trodAll_mk1 (shut_bool Try.underlying4 _), (trodAll_cons_mk (Below.trod laidOut (by kernel_rfl) (of_decide_eq_true (by kernel_rfl)) k0 bel lt0) (trodAll_cons_mk (Below.trod laidOut (by kernel_rfl) (of_decide_eq_true (by kernel_rfl)) k1 bel lt1) (trodAll_cons_mk (shut_int Try.underlying3 w2) (trodAll_cons_mk (shut_int Try.underlying3 w3) trodAll_mk0)))), rfl, bel.frame _, fun h => by cases h⟩

theorem over : Rows.loseBetweenRow.holds Try.pinned (OpenSpec.ofChange Rows.loseBetweenSpec) :=
  OpenClaim.holds_of_wide 5 Try.f5 rfl rfl rfl rfl rfl rfl rfl ⟨rfl, rfl, rfl, rfl, rfl⟩ rfl rfl rfl rfl rfl (by kernel_rfl) Try.func5 (by kernel_rfl)
    (of_decide_eq_true (by kernel_rfl)) (by unfold Func.isWrapper; first | (rw [if_pos (by decide +kernel)]; kernel_rfl) | (rw [if_neg (by decide +kernel)]; exact ⟨rfl, rfl⟩))
    (fun os started H enc _ => lifted os started H enc)

/-- ████ THE STATEMENT ████ -/
theorem proved : Rows.LoseBetweenSaid := over
#print axioms proved
end Go.Proofs.Ytoifkgldnhnamaa.loseBetween
