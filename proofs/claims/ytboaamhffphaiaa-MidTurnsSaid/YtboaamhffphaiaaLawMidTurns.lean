/- MidTurns returns true: two lists that change places have the same middles and sides turned over, to 1, and each two numbers are split and joined for themselves, for any two lists and place. No condition. -/
import Derived.Test.YtboaamhffphaiaaRows
import Derived.Test.YtboaamhffphaiaaOne
import Derived.Deep.RegionHeld3
import Derived.WalkKit
import Derived.ProofKit
import Derived.OpenShut
import Derived.ShutString
import Derived.ChangeOld
import Derived.Below
namespace Go.Proofs.Ytboaamhffphaiaa.midTurns
open Go.ChangeShapes Go.WideShapes Go.ChangeAt Go.RowKit
open Go.ChangeMaps (open_string shut_string)
set_option linter.unusedVariables false

theorem own : ownKnob Try.prog.godebug = none := by kernel_rfl
theorem laidOut : laidOutB Try.prog = true := by kernel_rfl

/-- WHAT THE WALK IS TOLD OF A SLICE OF INTEGERS THAT CAME IN: it is nil; or it leads to a row of 'cap' cells, the numbers 'zs' (the first 'len' are its elements, the rest its spare room), each fitting its kind. -/
def IsRow (k : IntKind) (w : World) (a : Option Addr) (len cap : Nat) (zs : List Int) : Prop :=
  (a = none ∧ len = 0 ∧ cap = 0 ∧ zs = []) ∨
  ∃ x, a = some x ∧ len ≤ cap ∧ cap ≤ maxLen ∧ zs.length = cap ∧ (∀ i, i < zs.length → w.cell? (x.add i) = some (.int k (zs.getD i 0))) ∧ ∀ n ∈ zs, (Lit.int k n).wf = true

/-! ### The walk -/
set_option maxHeartbeats 4000000 in
set_option maxRecDepth 100000 in
theorem walk (a0 : Option Addr) (len0 cap0 : Nat) (z0 : List Int) (a1 : Option Addr) (len1 cap1 : Nat) (z1 : List Int) (a2 : Int) (w : World) (w0 : IsRow .i64 w a0 len0 cap0 z0) (w1 : IsRow .i64 w a1 len1 cap1 z1) (w2 : (Lit.int .i64 a2).wf = true) :
    Calls Try.prog 6 #[.slice a0 len0 cap0, .slice a1 len1 cap1, .int .i64 a2] w fun e w' => e = .returned (.bool true) ∧ Below w.heap.size w w' := by
  obtain ⟨l, hr, _, _⟩ := rd_of_row w0
  obtain ⟨r, hr', _, _⟩ := rd_of_row w1
  have hn := hr.le
  have hn' := hr'.le
  by_cases hbig : 1000 < len0
  · go_enter Try.func6, Try.ntmps6
    go_wp2_with fail
    refine (alive_any _).mono ?_
    rintro e wa ⟨rfl, hba⟩
    go_wp2_with fail
    go_ret
    exact ⟨rfl, hba⟩
  by_cases hbig' : 1000 < len1
  · go_enter Try.func6, Try.ntmps6
    go_wp2_with fail
    refine (alive_any _).mono ?_
    rintro e wa ⟨rfl, hba⟩
    go_wp2_with fail
    go_ret
    exact ⟨rfl, hba⟩
  by_cases he : errM l r = 0
  case neg =>
    have HE := Lib.hid he
    have HE' := Lib.hid (show errM r l = errM l r from err_symm)
    have hd : (errM l r != 0) = true := by simpa using he
    clear he
    go_enter Try.func6, Try.ntmps6
    go_wp2_with fail
    refine (alive_any _).mono ?_
    rintro e wa ⟨rfl, hba⟩
    go_wp2_with fail
    refine (split_err a0 a1 len0 cap0 len1 cap1 _ l r _ (hr.below hba) (hr'.below hba) hba.size _ rfl HE.out).mono ?_
    rintro e wb ⟨A1, c1, A2, c2, rfl, _, _, _, h4⟩
    have gb := below_ hba h4
    go_wp2_with fail
    refine (split_err a1 a0 len1 cap1 len0 cap0 _ r l _ (hr'.below gb) (hr.below gb) gb.size _ HE'.out HE.out).mono ?_
    rintro e wc ⟨A3, c3, A4, c4, rfl, _, _, _, h5⟩
    go_wp2_with fail
    go_ret
    exact ⟨rfl, below_ gb h5⟩
  have HE := Lib.hid he
  have HE' := Lib.hid (show errM r l = 0 by rw [err_symm]; exact he)
  obtain ⟨e1, e2, ok1, ok2⟩ := err_zero he
  obtain rfl : len1 = len0 := by rw [← hr.len, ← hr'.len, e1]
  have HL := Lib.hid hr.len
  have HL' := Lib.hid hr'.len
  have HO := Lib.hid ok1
  have HO' := Lib.hid ok2
  have hn2 : len1 ≤ 256 := by rw [← hr.len]; exact e2
  clear he e1 e2 ok1 ok2
  go_enter Try.func6, Try.ntmps6
  go_wp2_with fail
  refine (alive_any _).mono ?_
  rintro e wa ⟨rfl, hba⟩
  go_wp2_with fail
  refine (split_ok a0 a1 len1 cap0 cap1 _ l r _ (hr.below hba) (hr'.below hba) hba.size HE.out).mono ?_
  rintro e wb ⟨AM, cM, AS, cS, rfl, hM, hS, _, h4⟩
  have gb := below_ hba h4
  clear hba h4
  go_wp2_with fail
  refine (split_ok a1 a0 len1 cap1 cap0 _ r l _ (hr'.below gb) (hr.below gb) gb.size HE'.out).mono ?_
  rintro e W ⟨AN, cN, AT, cT, rfl, hN, hT, _, h4⟩
  have gW := below_ gb h4
  have rM := Rd.of_own (own_below hM h4)
  have rS := Rd.of_own (own_below hS h4)
  have rN := Rd.of_own hN
  have rT := Rd.of_own hT
  have rU := hr.below gW
  have rV := hr'.below gW
  clear hM hS hN hT gb h4
  go_wp2_with fail
  go_loopw [14] (fun i wr => ∃ k : Nat, k ≤ len1 ∧ i = .int .i64 k ∧ Drawn W wr) (fun i _ => len1 - (intOf i).toNat)
  case atStart => exact ⟨0, by omega, rfl, 0, rfl⟩
  case round =>
    obtain ⟨k, hk, rfl, q, rfl⟩ := hrel
    by_cases hlt : k < len1
    · have hlk : k < l.length := by rw [HL.out]; exact hlt
      have hlk' : k < r.length := by rw [HL'.out]; exact hlt
      obtain ⟨aM, rfl, _, vM⟩ := rM.at_ hlt
      obtain ⟨aS, rfl, _, vS⟩ := rS.at_ hlt
      obtain ⟨aN, rfl, _, vN⟩ := rN.at_ hlt
      obtain ⟨aT, rfl, _, vT⟩ := rT.at_ hlt
      have hu := okL_at HO.out (getD_mem hlk)
      have hv := okL_at HO'.out (getD_mem hlk')
      rw [splitM_at hlk] at vM
      rw [splitS_at hlk] at vS
      rw [splitM_at hlk', Int.add_comm] at vN
      rw [splitS_at hlk'] at vT
      have hki : (k : Int) < (len1 : Int) := by omega
      have hk0 : (0 : Int) ≤ (k : Int) := by omega
      clear hlk hlk'
      generalize l.getD k 0 = u at *
      generalize r.getD k 0 = v at *
      have hs := sides u v hu hv
      clear hu hv
      generalize kp (rnd (u + v)) = M at *
      generalize kp (rnd (u - v)) = S at *
      generalize kp (rnd (v - u)) = T at *
      obtain ⟨B, hB⟩ : ∃ B, S + T = B := ⟨_, rfl⟩
      have q1 : IntKind.i64.wrap (S + T) = B := by rw [hB]; exact IntWalk.i64_in _ (by omega)
      rw [hB] at hs
      clear hB
      rcases hs with rfl | rfl
      all_goals
        go_wp2_with fail
        go_quiet (fail)
        go_wp2_with fail
        go_quiet (fail)
        go_wp2_with fail
        go_roundw
        case rel => exact ⟨k + 1, by omega, by go_num, _, rfl⟩
        case measure => simp [intOf]; omega
    · by_cases hp0 : a2 < 0
      · go_wp2_with fail
        go_ret
        exact ⟨rfl, below_drewN gW q⟩
      by_cases hp1 : (len1 : Int) ≤ a2
      · go_wp2_with fail
        go_ret
        exact ⟨rfl, below_drewN gW q⟩
      obtain ⟨p, rfl⟩ := Int.eq_ofNat_of_zero_le (show 0 ≤ a2 by omega)
      have hp : p < len1 := by omega
      have hw5 : Below W.heap.size W (W.drewN q) := below_drewN (Below.refl _ _) q
      replace rM := rM.below hw5
      replace rS := rS.below hw5
      replace rU := (rU.more gW.size).below hw5
      replace rV := (rV.more gW.size).below hw5
      have g5 := below_ gW hw5
      have hle : W.heap.size ≤ (W.drewN q).heap.size := hw5.size
      replace rM := rM.more hle
      replace rS := rS.more hle
      replace rU := rU.more hle
      replace rV := rV.more hle
      clear hw5 hle rN rT gW
      generalize W.drewN q = w5 at *
      have hlk : p < l.length := by rw [HL.out]; exact hp
      have hu := okL_at HO.out (getD_mem hlk)
      have hv := okL_at HO'.out (getD_mem (l := r) (j := p) (by rw [HL'.out]; exact hp))
      obtain ⟨au, rfl, hbu, cu⟩ := rU.at_ hp
      obtain ⟨av, rfl, hbv, cv⟩ := rV.at_ hp
      have HXU := Lib.hid (rfl : l.getD p 0 = l.getD p 0)
      obtain ⟨u, hue⟩ : ∃ u, l.getD p 0 = u := ⟨_, rfl⟩
      obtain ⟨v, hve⟩ : ∃ v, r.getD p 0 = v := ⟨_, rfl⟩
      rw [hue] at hu cu
      rw [hve] at hv cv
      have HUE := Lib.hid hue
      have HVE := Lib.hid hve
      have HU := Lib.hid hu
      have HV := Lib.hid hv
      have HLK := Lib.hid hlk
      have hpi : (p : Int) < (len1 : Int) := by omega
      have hpn : (0 : Int) ≤ (p : Int) := by omega
      have hcu : ∀ w', Below w5.heap.size w5 w' → w'.cell? (au.add p) = some (.int .i64 u) := fun w' h => (h.cell (by rw [block_of_add]; exact hbu)).trans cu
      have hcv : ∀ w', Below w5.heap.size w5 w' → w'.cell? (av.add p) = some (.int .i64 v) := fun w' h => (h.cell (by rw [block_of_add]; exact hbv)).trans cv
      have HCU := Lib.hid hcu
      have HCV := Lib.hid hcv
      clear hu hv hue hve hlk HXU hcu hcv
      go_wp2_with fail
      go_region_held3 (fun w' => w'.cell? (au.add p) = some (.int .i64 u) ∧ w'.cell? (av.add p) = some (.int .i64 v))
        (first | go_keep | (refine ⟨HCU.out _ ?_, HCV.out _ ?_⟩ <;> first | assumption | (repeat (first | exact Below.refl _ _ | apply below_alloc2 | apply Below.drew))))
        ((go_at_call 8; refine (split_one w5 _ _ u v _ HU.out HV.out (by repeat (first | exact Below.refl _ _ | apply below_alloc2 | apply Below.drew)) (by go_simp) (by go_simp)).mono ?_; rintro e w6 ⟨b1, c1, b2, c2, rfl, d1, d2, k6⟩))
      all_goals
        have t1 := World.block_lt_of_cell? w6 _ d1
        have t2 := World.block_lt_of_cell? w6 _ d2
        have HD1 := Lib.hid d1
        have HD2 := Lib.hid d2
        have HT1 := Lib.hid t1
        have HT2 := Lib.hid t2
        clear t1 t2 d1 d2
        go_wp2_with fail
        refine (join_ok (some au) (some av) len1 cap0 cap1 _ l r _ (rU.below k6) (rV.below k6) k6.size HE.out).mono ?_
        rintro e w7 ⟨AL, cL, AR, cR, rfl, hL, hR, _, k7⟩
        have k57 := below_ k6 k7
        have cu7 := HCU.out w7 k57
        have cv7 := HCV.out w7 k57
        have HCU7 := Lib.hid (fun w' (h : Below w7.heap.size w7 w') => HCU.out w' (below_ k57 h))
        have HCV7 := Lib.hid (fun w' (h : Below w7.heap.size w7 w') => HCV.out w' (below_ k57 h))
        go_wp2_with fail
        go_region_held3 (fun w' => w'.cell? (au.add p) = some (.int .i64 u) ∧ w'.cell? (av.add p) = some (.int .i64 v))
          (first | go_keep | (refine ⟨HCU7.out _ ?_, HCV7.out _ ?_⟩ <;> first | assumption | (repeat (first | exact Below.refl _ _ | apply below_alloc2 | apply Below.drew))))
          ((go_at_call 7; refine (join_one w7 _ _ u v _ HU.out HV.out (by repeat (first | exact Below.refl _ _ | apply below_alloc2 | apply Below.drew)) (by go_simp) (by go_simp)).mono ?_; rintro e w8 ⟨b3, c3, b4, c4, rfl, d3, d4, k8⟩))
        all_goals
          have k68 := below_ k7 k8
          have k58 := below_ k57 k8
          have d1 := (k68.cell (p := ⟨b1, 0, none⟩) HT1.out).trans HD1.out
          have d2 := (k68.cell (p := ⟨b2, 0, none⟩) HT2.out).trans HD2.out
          obtain ⟨aM, rfl, _, vM⟩ := (rM.below k58).at_ hp
          obtain ⟨aS, rfl, _, vS⟩ := (rS.below k58).at_ hp
          obtain ⟨aL, rfl, _, vL⟩ := ((Rd.of_own hL).below k8).at_ hp
          obtain ⟨aR, rfl, _, vR⟩ := ((Rd.of_own hR).below k8).at_ hp
          rw [splitM_at HLK.out, HUE.out, HVE.out] at vM
          rw [splitS_at HLK.out, HUE.out, HVE.out] at vS
          rw [joinL_at HLK.out, HUE.out, HVE.out] at vL
          rw [joinR_at HLK.out, HUE.out, HVE.out] at vR
          go_wp2_with fail
          go_quiet (fail)
          go_wp2_with fail
          go_ret
          exact ⟨rfl, below_drewN (below_ g5 k58) _⟩

/-! ### THE ROW's STEP: WRITTEN OUT: LEAVE IT -/
set_option maxRecDepth 100000 in
theorem lifted (os : Os) (started : os.Started) (H : Type) (enc : TypeId × Value → H) :
    ReturnsInHanded {} Try.checked os 6 .any (Rows.midTurnsSpec.pre6 enc Try.prog Try.f6 Rows.midTurnsRow.domain false) (Rows.midTurnsSpec.post enc Try.prog Try.f6 false true false false) := by
  refine returnsInHanded_of_change (C := Try.checked) own started (by kernel_rfl) Try.func6
    (ChangeSpec.witness6 (enc := enc) (C := Try.checked) false ⟨#[], #[.slice none 0 0, .slice none 0 0, .int .i64 0], []⟩ 8 (by kernel_rfl) (by kernel_rfl) (by kernel_rfl) (by kernel_rfl)) ?_
  intro W base args ds gs before hval0 hW hcnd _
  have hval : ∀ (j : Nat) t v, Try.f6.params[j]? = some t → args[j]? = some v → Value.okWide Try.prog W .any base t v := hval0
  have hW' := hW
  obtain ⟨p, q, hA0, hV, rfl, hfz, hnd⟩ := hW
  have hA : DataW.TrodAll enc Try.prog W 0 (fun _ => true) true Try.f6.params.toList args.toList ds p := hA0
  rw [Try.params6] at hA hval
  obtain ⟨v0, vs0, d0, ds0, p0, q0, hargs, rfl, rfl, h0, r0⟩ := trodAll_cons hA
  obtain ⟨v1, vs1, d1, ds1, p1, q1, rfl, rfl, rfl, h1, r1⟩ := trodAll_cons r0
  obtain ⟨v2, vs2, d2, ds2, p2, q2, rfl, rfl, rfl, h2, r2⟩ := trodAll_cons r1
  obtain ⟨rfl, rfl, rfl⟩ := trodAll_nil r2
  obtain rfl : args = #[v0, v1, v2] := by cases args; simp_all
  obtain ⟨rfl, rfl⟩ := trodVars_none hV
  obtain ⟨a0, len0, cap0, rfl⟩ := okWide_slice Try.underlying22 (hval 0 22 v0 rfl rfl)
  have k0 := h0
  have lt0 : ∀ x ∈ p0, x.block < W.heap.size := by obtain ⟨m, hm⟩ := k0; exact DataW.trod_lt m _ _ _ hm
  obtain ⟨z0, w0⟩ : ∃ zs, IsRow .i64 W a0 len0 cap0 zs := by
    obtain ⟨fuel, hf⟩ := h0
    rcases open_ints Try.underlying22 Try.underlying3 (by kernel_rfl) hf with ⟨hcs, _⟩ | ⟨x, l, c, zs, hcs, _, hl, hm, hz, _, hcell, hwz⟩
    · simp [Value.cells] at hcs
      obtain ⟨rfl, rfl, rfl⟩ := hcs
      exact ⟨[], .inl ⟨rfl, rfl, rfl, rfl⟩⟩
    · simp [Value.cells] at hcs
      obtain ⟨rfl, rfl, rfl⟩ := hcs
      exact ⟨zs, .inr ⟨_, rfl, hl, hm, by simpa using hz, hcell, hwz⟩⟩
  obtain ⟨a1, len1, cap1, rfl⟩ := okWide_slice Try.underlying22 (hval 1 22 v1 rfl rfl)
  have k1 := h1
  have lt1 : ∀ x ∈ p1, x.block < W.heap.size := by obtain ⟨m, hm⟩ := k1; exact DataW.trod_lt m _ _ _ hm
  obtain ⟨z1, w1⟩ : ∃ zs, IsRow .i64 W a1 len1 cap1 zs := by
    obtain ⟨fuel, hf⟩ := h1
    rcases open_ints Try.underlying22 Try.underlying3 (by kernel_rfl) hf with ⟨hcs, _⟩ | ⟨x, l, c, zs, hcs, _, hl, hm, hz, _, hcell, hwz⟩
    · simp [Value.cells] at hcs
      obtain ⟨rfl, rfl, rfl⟩ := hcs
      exact ⟨[], .inl ⟨rfl, rfl, rfl, rfl⟩⟩
    · simp [Value.cells] at hcs
      obtain ⟨rfl, rfl, rfl⟩ := hcs
      exact ⟨zs, .inr ⟨_, rfl, hl, hm, by simpa using hz, hcell, hwz⟩⟩
  obtain ⟨a2, rfl, rfl, rfl, w2⟩ := open_int Try.underlying3 (hval 2 3 v2 rfl rfl) h2
  clear hA0 hval0
  refine (walk a0 len0 cap0 z0 a1 len1 cap1 z1 a2 W w0 w1 w2).mono fun e W' ⟨he, bel⟩ => ?_
  subst he
  exact ⟨_, rfl, _, _, _, [], _, [], hW', trodAll_mk1 (shut_bool Try.underlying4 _), (trodAll_cons_mk (Below.trod laidOut (by kernel_rfl) (of_decide_eq_true (by kernel_rfl)) k0 bel lt0) (trodAll_cons_mk (Below.trod laidOut (by kernel_rfl) (of_decide_eq_true (by kernel_rfl)) k1 bel lt1) (trodAll_cons_mk (shut_int Try.underlying3 w2) trodAll_mk0))), rfl, bel.frame _, fun h => by cases h⟩

theorem over : Rows.midTurnsRow.holds Try.pinned (OpenSpec.ofChange Rows.midTurnsSpec) :=
  OpenClaim.holds_of_wide 6 Try.f6 rfl rfl rfl rfl rfl rfl rfl ⟨rfl, rfl, rfl, rfl, rfl⟩ rfl rfl rfl rfl rfl (by kernel_rfl) Try.func6 (by kernel_rfl)
    (of_decide_eq_true (by kernel_rfl)) (by unfold Func.isWrapper; first | (rw [if_pos (by decide +kernel)]; kernel_rfl) | (rw [if_neg (by decide +kernel)]; exact ⟨rfl, rfl⟩))
    (fun os started H enc _ => lifted os started H enc)

/-- ████ THE STATEMENT ████ -/
theorem proved : Rows.MidTurnsSaid := over
#print axioms proved
end Go.Proofs.Ytboaamhffphaiaa.midTurns
