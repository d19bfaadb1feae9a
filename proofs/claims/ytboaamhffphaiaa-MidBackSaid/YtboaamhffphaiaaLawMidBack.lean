/- MidBack returns true: what is split, and joined, is as it was, but for one, and what is joined, and is not kept, is split as it was, for any two lists. No condition. -/
import Derived.Test.YtboaamhffphaiaaRows
import Derived.Test.YtboaamhffphaiaaPlain
import Derived.WalkKit
import Derived.ProofKit
import Derived.OpenShut
import Derived.ShutString
import Derived.ChangeOld
import Derived.Below
namespace Go.Proofs.Ytboaamhffphaiaa.midBack
open Go.ChangeShapes Go.WideShapes Go.ChangeAt Go.RowKit
open Go.ChangeMaps (open_string shut_string)
set_option linter.unusedVariables false

theorem own : ownKnob Try.prog.godebug = none := by kernel_rfl
theorem laidOut : laidOutB Try.prog = true := by kernel_rfl

/-- WHAT THE WALK IS TOLD OF A SLICE OF INTEGERS THAT CAME IN: it is nil; or it leads to a row of 'cap' cells, the numbers 'zs' (the first 'len' are its elements, the rest its spare room), each fitting its kind. -/
def IsRow (k : IntKind) (w : World) (a : Option Addr) (len cap : Nat) (zs : List Int) : Prop :=
  (a = none ∧ len = 0 ∧ cap = 0 ∧ zs = []) ∨
  ∃ x, a = some x ∧ len ≤ cap ∧ cap ≤ maxLen ∧ zs.length = cap ∧ (∀ i, i < zs.length → w.cell? (x.add i) = some (.int k (zs.getD i 0))) ∧ ∀ n ∈ zs, (Lit.int k n).wf = true

def mx2 (x y : Int) : Int := if x < y then y else x
def mn2 (x y : Int) : Int := if y < x then y else x
theorem run_max4 (ats : Array TypeId) (ty : TypeId) (a b c d t : Int) (h : mx2 (mx2 (mx2 a b) c) d = t) (W : World) : (Builtin.max_ ats ty #[.int .i64 a, .int .i64 b, .int .i64 c, .int .i64 d]).run Try.prog W = .ok (.int .i64 t) W := by
  subst h
  simp only [Builtin.max_, List.foldlM_cons, List.foldlM_nil, Builtin.max2, gt_iff_lt]
  rfl
theorem run_min2 (ats : Array TypeId) (ty : TypeId) (a b t : Int) (h : mn2 a b = t) (W : World) : (Builtin.min_ ats ty #[.int .i64 a, .int .i64 b]).run Try.prog W = .ok (.int .i64 t) W := by
  subst h
  simp only [Builtin.min_, List.foldlM_cons, List.foldlM_nil, Builtin.min2]
  rfl
theorem max4_le (s d : Int) : mx2 (mx2 (mx2 s (-s)) d) (-d) ≤ 268435455 ↔ (-268435455 ≤ s ∧ s ≤ 268435455 ∧ -268435455 ≤ d ∧ d ≤ 268435455) := by
  unfold mx2
  constructor
  · intro h
    split at h <;> split at h <;> split at h <;> omega
  · intro h
    split <;> split <;> split <;> omega

/-! ### The walk -/
set_option maxHeartbeats 4000000 in
set_option maxRecDepth 100000 in
theorem walk (a0 : Option Addr) (len0 cap0 : Nat) (z0 : List Int) (a1 : Option Addr) (len1 cap1 : Nat) (z1 : List Int) (w : World) (w0 : IsRow .i64 w a0 len0 cap0 z0) (w1 : IsRow .i64 w a1 len1 cap1 z1) :
    Calls Try.prog 5 #[.slice a0 len0 cap0, .slice a1 len1 cap1] w fun e w' => e = .returned (.bool true) ∧ Below w.heap.size w w' := by
  obtain ⟨l, hr, _, _⟩ := rd_of_row w0
  obtain ⟨r, hr', _, _⟩ := rd_of_row w1
  have hn := hr.le
  have hn' := hr'.le
  by_cases hbig : 1000 < len0
  · go_enter Try.func5, Try.ntmps5
    go_wp2_with fail
    refine (alive_any _).mono ?_
    rintro e wa ⟨rfl, hba⟩
    go_wp2_with fail
    go_ret
    exact ⟨rfl, hba⟩
  by_cases hbig' : 1000 < len1
  · go_enter Try.func5, Try.ntmps5
    go_wp2_with fail
    refine (alive_any _).mono ?_
    rintro e wa ⟨rfl, hba⟩
    go_wp2_with fail
    go_ret
    exact ⟨rfl, hba⟩
  by_cases he : errM l r = 0
  case neg =>
    have HE := Lib.hid he
    have hd : (errM l r != 0) = true := by simpa using he
    clear he
    go_enter Try.func5, Try.ntmps5
    go_wp2_with fail
    refine (alive_any _).mono ?_
    rintro e wa ⟨rfl, hba⟩
    go_wp2_with fail
    refine (split_err a0 a1 len0 cap0 len1 cap1 _ l r _ (hr.below hba) (hr'.below hba) hba.size _ rfl HE.out).mono ?_
    rintro e wb ⟨A1, c1, A2, c2, rfl, _, _, _, h4⟩
    have gb := below_ hba h4
    go_wp2_with fail
    refine (join_err a0 a1 len0 cap0 len1 cap1 _ l r _ (hr.below gb) (hr'.below gb) _ rfl HE.out).mono ?_
    rintro e wc ⟨A3, c3, A4, c4, rfl, _, _, _, h5⟩
    go_wp2_with fail
    go_ret
    exact ⟨rfl, below_ gb h5⟩
  have HE := Lib.hid he
  obtain ⟨e1, e2, ok1, ok2⟩ := err_zero he
  obtain rfl : len1 = len0 := by rw [← hr.len, ← hr'.len, e1]
  have HES := Lib.hid (err_split he)
  have HEJ := Lib.hid (err_join he)
  have HL := Lib.hid hr.len
  have HL' := Lib.hid hr'.len
  have HO := Lib.hid ok1
  have HO' := Lib.hid ok2
  have hn2 : len1 ≤ 256 := by rw [← hr.len]; exact e2
  clear he e1 e2 ok1 ok2
  go_enter Try.func5, Try.ntmps5
  go_wp2_with fail
  refine (alive_any _).mono ?_
  rintro e wa ⟨rfl, hba⟩
  go_wp2_with fail
  refine (split_ok a0 a1 len1 cap0 cap1 _ l r _ (hr.below hba) (hr'.below hba) hba.size HE.out).mono ?_
  rintro e wb ⟨AM, cM, AS, cS, rfl, hM, hS, _, h4⟩
  have gb := below_ hba h4
  clear hba h4
  go_wp2_with fail
  refine (join_ok a0 a1 len1 cap0 cap1 _ l r _ (hr.below gb) (hr'.below gb) gb.size HE.out).mono ?_
  rintro e wc ⟨AL, cL, AR, cR, rfl, hL, hR, _, h4⟩
  have gc := below_ gb h4
  replace hM := own_below hM h4
  replace hS := own_below hS h4
  clear gb h4
  go_wp2_with fail
  refine (join_ok AM AS len1 cM cS _ (splitM l r) (splitS l r) _ (Rd.of_own hM) (Rd.of_own hS) (Nat.le_refl _) HES.out).mono ?_
  rintro e wd ⟨AX, cX, AY, cY, rfl, hX, hY, _, h4⟩
  have gd := below_ gc h4
  replace hM := own_below hM h4
  replace hS := own_below hS h4
  replace hL := own_below hL h4
  replace hR := own_below hR h4
  clear gc h4
  go_wp2_with fail
  refine (split_ok AL AR len1 cL cR _ (joinL l r) (joinR l r) _ (Rd.of_own hL) (Rd.of_own hR) (Nat.le_refl _) HEJ.out).mono ?_
  rintro e W ⟨AP, cP, AQ, cQ, rfl, hP, hQ, _, h4⟩
  have gW := below_ gd h4
  have rM := Rd.of_own (own_below hM h4)
  have rS := Rd.of_own (own_below hS h4)
  have rX := Rd.of_own (own_below hX h4)
  have rY := Rd.of_own (own_below hY h4)
  have rP := Rd.of_own hP
  have rQ := Rd.of_own hQ
  have rU := hr.below gW
  have rV := hr'.below gW
  clear hM hS hL hR hX hY hP hQ gd h4
  go_wp2_with fail
  go_loopw [18] (fun i wr => ∃ k : Nat, k ≤ len1 ∧ i = .int .i64 k ∧ Drawn W wr) (fun i _ => len1 - (intOf i).toNat)
  case atStart => exact ⟨0, by omega, rfl, 0, rfl⟩
  case round =>
    obtain ⟨k, hk, rfl, q, rfl⟩ := hrel
    by_cases hlt : k < len1
    · have hlk : k < l.length := by rw [HL.out]; exact hlt
      obtain ⟨au, rfl, _, cu⟩ := rU.at_ hlt
      obtain ⟨av, rfl, _, cv⟩ := rV.at_ hlt
      obtain ⟨aM, rfl, _, vM⟩ := rM.at_ hlt
      obtain ⟨aS, rfl, _, vS⟩ := rS.at_ hlt
      obtain ⟨aX, rfl, _, vX⟩ := rX.at_ hlt
      obtain ⟨aY, rfl, _, vY⟩ := rY.at_ hlt
      obtain ⟨aP, rfl, _, vP⟩ := rP.at_ hlt
      obtain ⟨aQ, rfl, _, vQ⟩ := rQ.at_ hlt
      have hu := okL_at HO.out (getD_mem hlk)
      have hv := okL_at HO'.out (getD_mem (l := r) (j := k) (by rw [HL'.out]; exact hlt))
      rw [joinL_at (by rw [splitM_length]; exact hlk), splitM_at hlk, splitS_at hlk, back_l hu hv] at vX
      rw [joinR_at (by rw [splitM_length]; exact hlk), splitM_at hlk, splitS_at hlk, back_r hu hv] at vY
      rw [splitM_at (by rw [joinL_length]; exact hlk), joinL_at hlk, joinR_at hlk] at vP
      rw [splitS_at (by rw [joinL_length]; exact hlk), joinL_at hlk, joinR_at hlk] at vQ
      rw [splitM_at hlk] at vM
      rw [splitS_at hlk] at vS
      have hki : (k : Int) < (len1 : Int) := by omega
      have hk0 : (0 : Int) ≤ (k : Int) := by omega
      clear hlk
      generalize l.getD k 0 = u at *
      generalize r.getD k 0 = v at *
      have HF := Lib.hid (forth hu hv)
      have HSM := Lib.hid (same_mid hu)
      obtain ⟨hu0, hu1⟩ := hu
      obtain ⟨hv0, hv1⟩ := hv
      obtain ⟨O, hO⟩ : ∃ O, (u + v) % 2 = O := ⟨_, rfl⟩
      obtain ⟨X, hX⟩ : ∃ X, mn2 (u + O) 268435455 = X := ⟨_, rfl⟩
      obtain ⟨T, hT⟩ : ∃ T, mx2 (mx2 (mx2 (u + v) (-(u + v))) (u - v)) (-(u - v)) = T := ⟨_, rfl⟩
      have hO2 : 0 ≤ O ∧ O ≤ 1 := by omega
      obtain ⟨hO0, hO1⟩ := hO2
      have q1 : IntKind.i64.wrap (u + v) = u + v := IntWalk.i64_in _ (by omega)
      have q2 : IntKind.i64.wrap (u - v) = u - v := IntWalk.i64_in _ (by omega)
      have q3 : bits .and .i64 (u + v) 1 = O := (and_one _).trans hO
      have q4 : IntKind.i64.wrap (u + O) = u + O := IntWalk.i64_in _ (by omega)
      have q5 : IntKind.i64.wrap (-(u + v)) = -(u + v) := IntWalk.i64_in _ (by omega)
      have q6 : IntKind.i64.wrap (-(u - v)) = -(u - v) := IntWalk.i64_in _ (by omega)
      have q7 := fun (ats : Array TypeId) (ty : TypeId) (W' : World) => run_min2 ats ty _ _ _ hX W'
      have q8 := fun (ats : Array TypeId) (ty : TypeId) (W' : World) => run_max4 ats ty _ _ _ _ _ hT W'
      have HX := Lib.hid hX
      have HT := Lib.hid ((hT ▸ max4_le (u + v) (u - v)) : T ≤ 268435455 ↔ _)
      have eX : (if 268435455 < u + (u + v) % 2 then 268435455 else u + (u + v) % 2) = X := by rw [hO, ← hX]; rfl
      rw [eX] at vX
      clear hX hT eX hO
      by_cases ht : T ≤ 268435455
      · have hF := HF.out (HT.out.1 ht)
        rw [hF.1] at vP
        rw [hF.2] at vQ
        clear hF
        by_cases huv : u = v
        · have hd : (u == v) = true := by simpa using huv
          have HU := Lib.hid huv
          rw [← HU.out, HSM.out.1] at vM
          rw [← HU.out, HSM.out.2] at vS
          clear huv
          go_wp2_with fail
          go_quiet (fail)
          go_wp2_with fail
          go_quiet (fail)
          go_wp2_with fail
          go_quiet (fail)
          go_wp2_with fail
          go_quiet (fail)
          go_wp2_with fail
          go_quiet (fail)
          go_wp2_with fail
          go_roundw
          case rel => exact ⟨k + 1, by omega, by go_num, _, rfl⟩
          case measure => simp [intOf]; omega
        · have hd : (u == v) = false := by simpa using huv
          clear huv
          go_wp2_with fail
          go_quiet (fail)
          go_wp2_with fail
          go_quiet (fail)
          go_wp2_with fail
          go_quiet (fail)
          go_wp2_with fail
          go_quiet (fail)
          go_wp2_with fail
          go_quiet (fail)
          go_wp2_with fail
          go_roundw
          case rel => exact ⟨k + 1, by omega, by go_num, _, rfl⟩
          case measure => simp [intOf]; omega
      · have hdt : decide (T ≤ 268435455) = false := decide_eq_false ht
        by_cases huv : u = v
        · have hd : (u == v) = true := by simpa using huv
          have HU := Lib.hid huv
          rw [← HU.out, HSM.out.1] at vM
          rw [← HU.out, HSM.out.2] at vS
          clear huv
          go_wp2_with fail
          go_quiet (fail)
          go_wp2_with fail
          go_quiet (fail)
          go_wp2_with fail
          go_quiet (fail)
          go_wp2_with fail
          go_quiet (fail)
          go_wp2_with fail
          go_quiet (fail)
          go_wp2_with fail
          go_roundw
          case rel => exact ⟨k + 1, by omega, by go_num, _, rfl⟩
          case measure => simp [intOf]; omega
        · have hd : (u == v) = false := by simpa using huv
          clear huv
          go_wp2_with fail
          go_quiet (fail)
          go_wp2_with fail
          go_quiet (fail)
          go_wp2_with fail
          go_quiet (fail)
          go_wp2_with fail
          go_quiet (fail)
          go_wp2_with fail
          go_quiet (fail)
          go_wp2_with fail
          go_roundw
          case rel => exact ⟨k + 1, by omega, by go_num, _, rfl⟩
          case measure => simp [intOf]; omega
    · go_wp2_with fail
      go_ret
      exact ⟨rfl, below_drewN gW q⟩

/-! ### THE ROW's STEP: WRITTEN OUT: LEAVE IT -/
set_option maxRecDepth 100000 in
theorem lifted (os : Os) (started : os.Started) (H : Type) (enc : TypeId × Value → H) :
    ReturnsInHanded {} Try.checked os 5 .any (Rows.midBackSpec.pre6 enc Try.prog Try.f5 Rows.midBackRow.domain false) (Rows.midBackSpec.post enc Try.prog Try.f5 false true false false) := by
  refine returnsInHanded_of_change (C := Try.checked) own started (by kernel_rfl) Try.func5
    (ChangeSpec.witness6 (enc := enc) (C := Try.checked) false ⟨#[], #[.slice none 0 0, .slice none 0 0], []⟩ 8 (by kernel_rfl) (by kernel_rfl) (by kernel_rfl) (by kernel_rfl)) ?_
  intro W base args ds gs before hval0 hW hcnd _
  have hval : ∀ (j : Nat) t v, Try.f5.params[j]? = some t → args[j]? = some v → Value.okWide Try.prog W .any base t v := hval0
  have hW' := hW
  obtain ⟨p, q, hA0, hV, rfl, hfz, hnd⟩ := hW
  have hA : DataW.TrodAll enc Try.prog W 0 (fun _ => true) true Try.f5.params.toList args.toList ds p := hA0
  rw [Try.params5] at hA hval
  obtain ⟨v0, vs0, d0, ds0, p0, q0, hargs, rfl, rfl, h0, r0⟩ := trodAll_cons hA
  obtain ⟨v1, vs1, d1, ds1, p1, q1, rfl, rfl, rfl, h1, r1⟩ := trodAll_cons r0
  obtain ⟨rfl, rfl, rfl⟩ := trodAll_nil r1
  obtain rfl : args = #[v0, v1] := by cases args; simp_all
  obtain ⟨rfl, rfl⟩ := trodVars_none hV
  obtain ⟨a0, len0, cap0, rfl⟩ := okWide_slice Try.underlying22 (hval 0 22 v0 rfl rfl)
  have k0 := h0
  have lt0 : ∀ x ∈ p0, x.block < W.heap.size := by obtain ⟨m, hm⟩ := k0; exact DataW.trod_lt m _ _ _ hm
  obtain ⟨z0, w0⟩ : ∃ zs, IsRow .i64 W a0 len0 cap0 zs := by
    obtain ⟨fuel, hf⟩ := h0
    rcases open_ints Try.underlying22 Try.underlying3 (by kernel_rfl) hf with ⟨hcs, _⟩ | ⟨x, l, c, zs, hcs, _, hl, hm, hz, _, hcell, hwz⟩
    · simp [Value.cells] at hcs
      obtain ⟨rfl, rfl, rfl⟩ := hcs
      exact ⟨[], .inl ⟨rfl, rfl, rfl, rfl⟩⟩
    · simp [Value.cells] at hcs
      obtain ⟨rfl, rfl, rfl⟩ := hcs
      exact ⟨zs, .inr ⟨_, rfl, hl, hm, by simpa using hz, hcell, hwz⟩⟩
  obtain ⟨a1, len1, cap1, rfl⟩ := okWide_slice Try.underlying22 (hval 1 22 v1 rfl rfl)
  have k1 := h1
  have lt1 : ∀ x ∈ p1, x.block < W.heap.size := by obtain ⟨m, hm⟩ := k1; exact DataW.trod_lt m _ _ _ hm
  obtain ⟨z1, w1⟩ : ∃ zs, IsRow .i64 W a1 len1 cap1 zs := by
    obtain ⟨fuel, hf⟩ := h1
    rcases open_ints Try.underlying22 Try.underlying3 (by kernel_rfl) hf with ⟨hcs, _⟩ | ⟨x, l, c, zs, hcs, _, hl, hm, hz, _, hcell, hwz⟩
    · simp [Value.cells] at hcs
      obtain ⟨rfl, rfl, rfl⟩ := hcs
      exact ⟨[], .inl ⟨rfl, rfl, rfl, rfl⟩⟩
    · simp [Value.cells] at hcs
      obtain ⟨rfl, rfl, rfl⟩ := hcs
      exact ⟨zs, .inr ⟨_, rfl, hl, hm, by simpa using hz, hcell, hwz⟩⟩
  clear hA0 hval0
  refine (walk a0 len0 cap0 z0 a1 len1 cap1 z1 W w0 w1).mono fun e W' ⟨he, bel⟩ => ?_
  subst he
  exact ⟨_, rfl, _, _, _, [], _, [], hW', trodAll_mk1 (shut_bool Try.underlying4 _), (trodAll_cons_mk (Below.trod laidOut (by kernel_rfl) (of_decide_eq_true (by kernel_rfl)) k0 bel lt0) (trodAll_cons_mk (Below.trod laidOut (by kernel_rfl) (of_decide_eq_true (by kernel_rfl)) k1 bel lt1) trodAll_mk0)), rfl, bel.frame _, fun h => by cases h⟩

theorem over : Rows.midBackRow.holds Try.pinned (OpenSpec.ofChange Rows.midBackSpec) :=
  OpenClaim.holds_of_wide 5 Try.f5 rfl rfl rfl rfl rfl rfl rfl ⟨rfl, rfl, rfl, rfl, rfl⟩ rfl rfl rfl rfl rfl (by kernel_rfl) Try.func5 (by kernel_rfl)
    (of_decide_eq_true (by kernel_rfl)) (by unfold Func.isWrapper; first | (rw [if_pos (by decide +kernel)]; kernel_rfl) | (rw [if_neg (by decide +kernel)]; exact ⟨rfl, rfl⟩))
    (fun os started H enc _ => lifted os started H enc)

/-- ████ THE STATEMENT ████ -/
theorem proved : Rows.MidBackSaid := over
#print axioms proved
end Go.Proofs.Ytboaamhffphaiaa.midBack
