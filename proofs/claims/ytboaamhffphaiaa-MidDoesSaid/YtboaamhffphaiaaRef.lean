/- The contracts of the reference's functions of middle and side; and Split and Join with the error told. -/
import Derived.Test.YtboaamhffphaiaaPlain
import Derived.Test.YtboaamhffphaiaaAppend
import Derived.Deep.RegionHeld3
namespace Go.Proofs.Ytboaamhffphaiaa
open Go.RowKit

set_option maxHeartbeats 2000000 in
theorem asked_any (A A' : Option Addr) (n c n' c' B : Nat) (l r : List Int) (w : World) (hr : Rd w B .i64 A n l) (hr' : Rd w B .i64 A' n' r) (x : Int) (he : errM l r = x) :
    Calls Try.prog 17 #[.slice A n c, .slice A' n' c'] w fun e w' => e = .returned (.int .i64 x) ∧ w = w' := by
  have hl := hr.len
  have hl' := hr'.len
  have hn := hr.le
  have hn' := hr'.le
  by_cases h1 : n = n'
  case neg =>
    have HX := Lib.hid (show 4 = x by rw [← he]; unfold errM; rw [if_pos (by omega)])
    have hd : ((n : Int) != (n' : Int)) = true := by simp; omega
    clear hl hl' he h1
    go_enter Try.func17, Try.ntmps17
    go_wp2_with fail
    go_ret
    exact ⟨congrArg (fun z => Ending.returned (.int .i64 z)) HX.out, rfl⟩
  subst h1
  by_cases h2 : 256 < n
  · have HX := Lib.hid (show 4 = x by rw [← he]; unfold errM; rw [if_pos (by omega)])
    clear hl hl' he
    go_enter Try.func17, Try.ntmps17
    go_wp2_with fail
    go_ret
    exact ⟨congrArg (fun z => Ending.returned (.int .i64 z)) HX.out, rfl⟩
  have h0 : ¬ (l.length ≠ r.length ∨ 256 < l.length) := by omega
  have HE := Lib.hid (show (if okL l = true ∧ okL r = true then 0 else 2) = x by rw [← he]; unfold errM; rw [if_neg h0])
  have HL := Lib.hid hl
  have HL' := Lib.hid hl'
  clear hl hl' he h0
  go_enter Try.func17, Try.ntmps17
  go_wp2_with fail
  go_loop [5] (fun i => ∃ k : Nat, k ≤ n ∧ i = .int .i64 k ∧ Hid (okL (l.take k) = true) ∧ Hid (okL (r.take k) = true)) (fun i => n - (intOf i).toNat)
  case atStart => exact ⟨0, Nat.zero_le _, rfl, rfl, rfl⟩
  case round =>
    obtain ⟨k, hk, rfl, hq, hq'⟩ := hrel
    by_cases hlt : k < n
    · obtain ⟨ad, rfl, _, hcell⟩ := hr.at_ hlt
      obtain ⟨ad', rfl, _, hcell'⟩ := hr'.at_ hlt
      have HM := Lib.hid (getD_mem (l := l) (j := k) (by rw [HL.out]; exact hlt))
      have HM' := Lib.hid (getD_mem (l := r) (j := k) (by rw [HL'.out]; exact hlt))
      have HN := Lib.hid (show okL (l.take (k + 1)) = lineB (l.getD k 0) by rw [take_snoc l k (by rw [HL.out]; exact hlt), okL_snoc, hq.out, Bool.true_and])
      have HN' := Lib.hid (show okL (r.take (k + 1)) = lineB (r.getD k 0) by rw [take_snoc r k (by rw [HL'.out]; exact hlt), okL_snoc, hq'.out, Bool.true_and])
      have hki : (k : Int) < (n : Int) := by omega
      generalize l.getD k 0 = u at *
      generalize r.getD k 0 = v at *
      have HB := Lib.hid (fun h : okL l = true => okL_at h HM.out)
      have HB' := Lib.hid (fun h : okL r = true => okL_at h HM'.out)
      rcases (show u < -268435455 ∨ 268435455 < u ∨ (-268435455 ≤ u ∧ u ≤ 268435455 ∧ v < -268435455) ∨ (-268435455 ≤ u ∧ u ≤ 268435455 ∧ 268435455 < v) ∨ (-268435455 ≤ u ∧ u ≤ 268435455 ∧ -268435455 ≤ v ∧ v ≤ 268435455) by omega) with h | h | ⟨h, h', h2⟩ | ⟨h, h', h2⟩ | ⟨h, h', h2, h2'⟩
      · have HX := Lib.hid (show 2 = x by rw [← HE.out, if_neg (fun k => by have a := HB.out k.1; have b := HB'.out k.2; omega)])
        go_wp2_with fail
        go_ret
        exact ⟨congrArg (fun z => Ending.returned (.int .i64 z)) HX.out, rfl⟩
      · have HX := Lib.hid (show 2 = x by rw [← HE.out, if_neg (fun k => by have a := HB.out k.1; have b := HB'.out k.2; omega)])
        go_wp2_with fail
        go_ret
        exact ⟨congrArg (fun z => Ending.returned (.int .i64 z)) HX.out, rfl⟩
      · have HX := Lib.hid (show 2 = x by rw [← HE.out, if_neg (fun k => by have a := HB.out k.1; have b := HB'.out k.2; omega)])
        go_wp2_with fail
        go_ret
        exact ⟨congrArg (fun z => Ending.returned (.int .i64 z)) HX.out, rfl⟩
      · have HX := Lib.hid (show 2 = x by rw [← HE.out, if_neg (fun k => by have a := HB.out k.1; have b := HB'.out k.2; omega)])
        go_wp2_with fail
        go_ret
        exact ⟨congrArg (fun z => Ending.returned (.int .i64 z)) HX.out, rfl⟩
      · have HK := Lib.hid (show okL (l.take (k + 1)) = true by rw [HN.out]; simp [lineB]; omega)
        have HK' := Lib.hid (show okL (r.take (k + 1)) = true by rw [HN'.out]; simp [lineB]; omega)
        go_wp2_with fail
        go_round
        case rel => exact ⟨k + 1, by omega, by go_num, HK, HK'⟩
        case measure => simp [intOf]; omega
    · have HX := Lib.hid (show 0 = x by
        rw [← HE.out, if_pos]
        refine ⟨?_, ?_⟩
        · rw [← hq.out, List.take_of_length_le]; rw [HL.out]; omega
        · rw [← hq'.out, List.take_of_length_le]; rw [HL'.out]; omega)
      go_wp2_with fail
      go_ret
      exact ⟨congrArg (fun z => Ending.returned (.int .i64 z)) HX.out, rfl⟩

section
variable {P : Program} {ops : Array Oper} {o : Oper} {a : Act} {K : Act → World → Prop} {Q : Exit → Act → World → Prop} {E : Prop}
/-- 'append(v, x)' of one number inside a region that draws its order. -/
theorem step_append_num {w0 W : World} (base : Nat) (hgd : o.guard = none) (s x : Operand) (t e : TypeId) (k : IntKind) (bytes : Nat)
    (ho : o.op = .call { callee := .builtin .append, args := #[s, x], argTypes := #[t, t] })
    (ht : P.underlying t = some (.slice e)) (hinfo : (P.info? e).map (fun i => (i.zero, i.size, i.bytes)) = some (some (.int k 0), 1, bytes)) (hb0 : 0 < bytes)
    (v : Value) (xs : List Int) (y : Int) (hs : a.eval s = v) (hx : a.eval x = .slice (some ⟨W.heap.size, 0, none⟩) 1 1)
    (HO : W.ownsRow base e 1 v xs.length (nums k xs)) (HB : Below base w0 W) (hbase : base ≤ W.heap.size) (hl : (xs.length + 1) * bytes ≤ 140737488355328)
    (h : ∀ v1 w1, w1.ownsRow base e 1 v1 (xs ++ [y]).length (nums k (xs ++ [y])) → Below base w0 w1 → W.grownBy w1 v.ownBlock → (v1.ownBlock = v.ownBlock ∨ ∃ b, v1.ownBlock = some b ∧ W.heap.size ≤ b) → K (a.put o.dst v1) w1) :
    if Region.wanted o (yielded ops a.tmps) = true then Oper.wp P o a (W.alloc (.cells #[.int k y] e)) K Q else E := by
  have hw : Region.wanted o (yielded ops a.tmps) = true := by simp [Region.wanted, hgd]
  rw [if_pos hw]
  obtain ⟨i0, hi, hzz⟩ := Option.map_eq_some_iff.1 hinfo
  simp only [Prod.mk.injEq] at hzz
  obtain ⟨hz0, hz1, hz2⟩ := hzz
  have hlen : xs.length + 1 ≤ 140737488355328 := Nat.le_trans (Nat.le_mul_of_pos_right _ hb0) hl
  obtain ⟨v', w', hrun, h2, h3, h4⟩ := run_append_rd (P := P) (W.alloc (.cells #[.int k y] e)) base t o.type e i0 k bytes ht hi hz0 hz1 hz2 v xs.length (nums k xs) (HO.alloc _) _ (some ⟨W.heap.size, 0, none⟩) 1 1 [y]
    (Rd.lit W #[.int k y] e k [y] 1 rfl rfl (by omega)) (by simp only [maxLen]; omega) hl (by simp; omega)
  unfold Oper.wp execOp
  simp only [ho, resolve, invoke, builtin, Sem.run_bind, Sem.run_pure, Result.andThen_ok, List.map_toArray, List.map_cons, List.map_nil, hs, hx, hrun]
  refine h v' w' ?_ ((HB.alloc hbase _).grown h3 (by simp; omega) (fun j hj => (HO.lt j hj).1)) (World.grownBy.trans (World.grownBy_alloc W _ _) h3) ?_
  · rw [List.length_append, nums_append]
    exact h2
  · rcases h4 with h4 | h4
    · exact .inl h4
    · exact .inr ⟨_, h4, by simp⟩
end
theorem below_alloc2 {w W : World} (h : Below w.heap.size w W) (o : Obj) : Below w.heap.size w (W.alloc o) := h.alloc h.size o

/-- Two lists of the call's own, apart. -/
def Both (n : Nat) (p q : List Int) (w : World) (e : Ending) (w' : World) : Prop :=
  ∃ A c A' c', e = .returned (.tuple #[.slice A n c, .slice A' n c']) ∧ w'.ownsRow w.heap.size 3 1 (.slice A n c) n (nums .i64 p) ∧ w'.ownsRow w.heap.size 3 1 (.slice A' n c') n (nums .i64 q) ∧ Apart (.slice A n c) (.slice A' n c') ∧ Below w.heap.size w w'

set_option maxHeartbeats 4000000 in
set_option maxRecDepth 100000 in
theorem halves_any (A A' : Option Addr) (n c c' B : Nat) (l r : List Int) (w : World) (hr : Rd w B .i64 A n l) (hr' : Rd w B .i64 A' n r) (hB : B ≤ w.heap.size) (he : errM l r = 0) :
    Calls Try.prog 18 #[.slice A n c, .slice A' n c'] w (Both n (pl (midV l r) n) (pl (sideV l r) n) w) := by
  obtain ⟨e1, e2, hk, hk'⟩ := err_zero he
  have hn : n ≤ 256 := by rw [← hr.len]; exact e2
  have HL := Lib.hid hr.len
  have HL' := Lib.hid hr'.len
  have HO := Lib.hid hk
  have HO' := Lib.hid hk'
  clear e1 e2 hk hk' he
  go_enter Try.func18, Try.ntmps18
  go_wp2_with fail
  go_loopw [6, 7, 8] (fun p q i wr => ∃ k : Nat, k ≤ n ∧ i = .int .i64 k ∧ wr.ownsRow w.heap.size 3 1 p (pl (midV l r) k).length (nums .i64 (pl (midV l r) k)) ∧ wr.ownsRow w.heap.size 3 1 q (pl (sideV l r) k).length (nums .i64 (pl (sideV l r) k)) ∧ Hid (Apart p q) ∧ Below w.heap.size w wr) (fun _ _ i _ => n - (intOf i).toNat)
  case atStart => exact ⟨0, by omega, rfl, World.ownsRow_nil _ _ _ _, World.ownsRow_nil _ _ _ _, fun _ => rfl, Below.refl _ _⟩
  case round =>
    obtain ⟨k, hk, rfl, hp, hq, HAp, hb⟩ := hrel
    by_cases hlt : k < n
    · have hbB := hb.mono hB
      obtain ⟨ad, rfl, _, hc⟩ := (hr.below hbB).at_ hlt
      obtain ⟨ad', rfl, _, hc'⟩ := (hr'.below hbB).at_ hlt
      obtain ⟨hx0, hx1⟩ := okL_at HO.out (getD_mem (l := l) (j := k) (by rw [HL.out]; exact hlt))
      obtain ⟨hy0, hy1⟩ := okL_at HO'.out (getD_mem (l := r) (j := k) (by rw [HL'.out]; exact hlt))
      have HV := Lib.hid (show pl (midV l r) (k + 1) = pl (midV l r) k ++ [midV l r k] from pl_snoc _ _)
      have HW := Lib.hid (show pl (sideV l r) (k + 1) = pl (sideV l r) k ++ [sideV l r k] from pl_snoc _ _)
      have HVk := Lib.hid (show midV l r k = kp (rnd (l.getD k 0 + r.getD k 0)) from rfl)
      have HWk := Lib.hid (show sideV l r k = kp (rnd (l.getD k 0 - r.getD k 0)) from rfl)
      have HLp := Lib.hid (pl_length (midV l r) k)
      have HLq := Lib.hid (pl_length (sideV l r) k)
      have hki : (k : Int) < (n : Int) := by omega
      have hk0 : (0 : Int) ≤ (k : Int) := by omega
      generalize hx : l.getD k 0 = x at *
      generalize hy : r.getD k 0 = y at *
      have HXE := Lib.hid hx
      have HYE := Lib.hid hy
      clear hx hy
      generalize pl (midV l r) k = P at *
      generalize pl (sideV l r) k = Q at *
      have q1 : IntKind.i64.wrap (x + y) = x + y := IntWalk.i64_in _ (by omega)
      have q2 : IntKind.i64.wrap (x - y) = x - y := IntWalk.i64_in _ (by omega)
      have HC1 := Lib.hid (fun W' : World => rdown_any (x + y) W' (by omega) (by omega))
      have HC2 := Lib.hid (fun W' : World => rdown_any (x - y) W' (by omega) (by omega))
      have HCU := Lib.hid (fun w' (h : Below w.heap.size w w') => show w'.cell? (ad.add k) = some (.int .i64 x) by
        obtain ⟨ad1, e1, _, h1⟩ := (hr.below (h.mono hB)).at_ hlt
        injection e1 with e1
        subst e1
        rw [HXE.out] at h1
        exact h1)
      have HCV := Lib.hid (fun w' (h : Below w.heap.size w w') => show w'.cell? (ad'.add k) = some (.int .i64 y) by
        obtain ⟨ad1, e1, _, h1⟩ := (hr'.below (h.mono hB)).at_ hlt
        injection e1 with e1
        subst e1
        rw [HYE.out] at h1
        exact h1)
      go_wp2_with fail
      go_region_held3 (fun w' => w'.cell? (ad.add k) = some (.int .i64 x) ∧ w'.cell? (ad'.add k) = some (.int .i64 y))
        (first | go_keep | (refine ⟨HCU.out _ ?_, HCV.out _ ?_⟩ <;> first | assumption | (repeat (first | assumption | apply below_alloc2 | apply Below.drew))))
        ((first | (go_at_call 26; refine (HC1.out _).mono ?_; rintro e w' ⟨rfl, rfl⟩) | (go_at_call 25; refine (rkept_any _ _).mono ?_; rintro e w' ⟨rfl, rfl⟩) | (refine step_append_num (W := wr.drew) w.heap.size rfl (.tmp 15) (.tmp 27) 22 3 .i64 8 rfl Try.underlying22 info3 (by omega) _ P _ rfl rfl hp hb.drew hb.drew.size (by rw [HLp.out]; omega) ?_; intro p1 w1 hp1 hb1 hg1 hat1)))
      have hq1 := (show (wr.drew).ownsRow w.heap.size 3 1 _ Q.length (nums .i64 Q) from hq).kept hg1 HAp.out.symm.kept
      have HAp1 := Lib.hid (HAp.out.grown hq hat1)
      have hc1 := HCU.out w1 hb1
      have hc2 := HCV.out w1 hb1
      go_wp2_with fail
      go_region_held3 (fun w' => w'.cell? (ad.add k) = some (.int .i64 x) ∧ w'.cell? (ad'.add k) = some (.int .i64 y))
        (first | go_keep | (refine ⟨HCU.out _ ?_, HCV.out _ ?_⟩ <;> first | assumption | (repeat (first | assumption | apply below_alloc2 | apply Below.drew))))
        ((first | (go_at_call 26; refine (HC2.out _).mono ?_; rintro e w' ⟨rfl, rfl⟩) | (go_at_call 25; refine (rkept_any _ _).mono ?_; rintro e w' ⟨rfl, rfl⟩) | (refine step_append_num (W := w1.drew) w.heap.size rfl (.tmp 29) (.tmp 41) 22 3 .i64 8 rfl Try.underlying22 info3 (by omega) _ Q _ rfl rfl hq1 hb1.drew hb1.drew.size (by rw [HLq.out]; omega) ?_; intro q1' w2 hq2 hb2 hg2 hat2)))
      have hp2 := (show (w1.drew).ownsRow w.heap.size 3 1 _ (P ++ _).length (nums .i64 (P ++ _)) from hp1).kept hg2 HAp1.out.kept
      go_wp2_with fail
      have HAp2 := Lib.hid (HAp1.out.symm.grown hp1 hat2).symm
      go_roundw
      case rel => exact ⟨k + 1, by omega, by go_num, by rw [HV.out, HVk.out]; exact hp2, by rw [HW.out, HWk.out]; exact hq2, HAp2, hb2⟩
      case measure => simp [intOf]; omega
    · obtain rfl : k = n := by omega
      rw [pl_length] at hp hq
      obtain ⟨A1, c1, rfl⟩ := own_slice hp
      obtain ⟨A2, c2, rfl⟩ := own_slice hq
      go_wp2_with fail
      go_ret2
      exact ⟨A1, c1, A2, c2, rfl, hp, hq, HAp.out, hb⟩

set_option maxHeartbeats 4000000 in
set_option maxRecDepth 100000 in
theorem sums_any (A A' : Option Addr) (n c c' B : Nat) (l r : List Int) (w : World) (hr : Rd w B .i64 A n l) (hr' : Rd w B .i64 A' n r) (hB : B ≤ w.heap.size) (he : errM l r = 0) :
    Calls Try.prog 19 #[.slice A n c, .slice A' n c'] w (Both n (pl (plusV l r) n) (pl (minusV l r) n) w) := by
  obtain ⟨e1, e2, hk, hk'⟩ := err_zero he
  have hn : n ≤ 256 := by rw [← hr.len]; exact e2
  have HL := Lib.hid hr.len
  have HL' := Lib.hid hr'.len
  have HO := Lib.hid hk
  have HO' := Lib.hid hk'
  clear e1 e2 hk hk' he
  go_enter Try.func19, Try.ntmps19
  go_wp2_with fail
  go_loopw [6, 7, 8] (fun p q i wr => ∃ k : Nat, k ≤ n ∧ i = .int .i64 k ∧ wr.ownsRow w.heap.size 3 1 p (pl (plusV l r) k).length (nums .i64 (pl (plusV l r) k)) ∧ wr.ownsRow w.heap.size 3 1 q (pl (minusV l r) k).length (nums .i64 (pl (minusV l r) k)) ∧ Hid (Apart p q) ∧ Below w.heap.size w wr) (fun _ _ i _ => n - (intOf i).toNat)
  case atStart => exact ⟨0, by omega, rfl, World.ownsRow_nil _ _ _ _, World.ownsRow_nil _ _ _ _, fun _ => rfl, Below.refl _ _⟩
  case round =>
    obtain ⟨k, hk, rfl, hp, hq, HAp, hb⟩ := hrel
    by_cases hlt : k < n
    · have hbB := hb.mono hB
      obtain ⟨ad, rfl, _, hc⟩ := (hr.below hbB).at_ hlt
      obtain ⟨ad', rfl, _, hc'⟩ := (hr'.below hbB).at_ hlt
      obtain ⟨hx0, hx1⟩ := okL_at HO.out (getD_mem (l := l) (j := k) (by rw [HL.out]; exact hlt))
      obtain ⟨hy0, hy1⟩ := okL_at HO'.out (getD_mem (l := r) (j := k) (by rw [HL'.out]; exact hlt))
      have HV := Lib.hid (show pl (plusV l r) (k + 1) = pl (plusV l r) k ++ [plusV l r k] from pl_snoc _ _)
      have HW := Lib.hid (show pl (minusV l r) (k + 1) = pl (minusV l r) k ++ [minusV l r k] from pl_snoc _ _)
      have HVk := Lib.hid (show plusV l r k = kp (l.getD k 0 + r.getD k 0) from rfl)
      have HWk := Lib.hid (show minusV l r k = kp (l.getD k 0 - r.getD k 0) from rfl)
      have HLp := Lib.hid (pl_length (plusV l r) k)
      have HLq := Lib.hid (pl_length (minusV l r) k)
      have hki : (k : Int) < (n : Int) := by omega
      have hk0 : (0 : Int) ≤ (k : Int) := by omega
      generalize hx : l.getD k 0 = x at *
      generalize hy : r.getD k 0 = y at *
      have HXE := Lib.hid hx
      have HYE := Lib.hid hy
      clear hx hy
      generalize pl (plusV l r) k = P at *
      generalize pl (minusV l r) k = Q at *
      have q1 : IntKind.i64.wrap (x + y) = x + y := IntWalk.i64_in _ (by omega)
      have q2 : IntKind.i64.wrap (x - y) = x - y := IntWalk.i64_in _ (by omega)
      have HCU := Lib.hid (fun w' (h : Below w.heap.size w w') => show w'.cell? (ad.add k) = some (.int .i64 x) by
        obtain ⟨ad1, e1, _, h1⟩ := (hr.below (h.mono hB)).at_ hlt
        injection e1 with e1
        subst e1
        rw [HXE.out] at h1
        exact h1)
      have HCV := Lib.hid (fun w' (h : Below w.heap.size w w') => show w'.cell? (ad'.add k) = some (.int .i64 y) by
        obtain ⟨ad1, e1, _, h1⟩ := (hr'.below (h.mono hB)).at_ hlt
        injection e1 with e1
        subst e1
        rw [HYE.out] at h1
        exact h1)
      go_wp2_with fail
      go_region_held3 (fun w' => w'.cell? (ad.add k) = some (.int .i64 x) ∧ w'.cell? (ad'.add k) = some (.int .i64 y))
        (first | go_keep | (refine ⟨HCU.out _ ?_, HCV.out _ ?_⟩ <;> first | assumption | (repeat (first | assumption | apply below_alloc2 | apply Below.drew))))
        ((first | (go_at_call 25; refine (rkept_any _ _).mono ?_; rintro e w' ⟨rfl, rfl⟩) | (refine step_append_num (W := wr.drew) w.heap.size rfl (.tmp 15) (.tmp 26) 22 3 .i64 8 rfl Try.underlying22 info3 (by omega) _ P _ rfl rfl hp hb.drew hb.drew.size (by rw [HLp.out]; omega) ?_; intro p1 w1 hp1 hb1 hg1 hat1)))
      have hq1 := (show (wr.drew).ownsRow w.heap.size 3 1 _ Q.length (nums .i64 Q) from hq).kept hg1 HAp.out.symm.kept
      have HAp1 := Lib.hid (HAp.out.grown hq hat1)
      have hc1 := HCU.out w1 hb1
      have hc2 := HCV.out w1 hb1
      go_wp2_with fail
      go_region_held3 (fun w' => w'.cell? (ad.add k) = some (.int .i64 x) ∧ w'.cell? (ad'.add k) = some (.int .i64 y))
        (first | go_keep | (refine ⟨HCU.out _ ?_, HCV.out _ ?_⟩ <;> first | assumption | (repeat (first | assumption | apply below_alloc2 | apply Below.drew))))
        ((first | (go_at_call 25; refine (rkept_any _ _).mono ?_; rintro e w' ⟨rfl, rfl⟩) | (refine step_append_num (W := w1.drew) w.heap.size rfl (.tmp 28) (.tmp 39) 22 3 .i64 8 rfl Try.underlying22 info3 (by omega) _ Q _ rfl rfl hq1 hb1.drew hb1.drew.size (by rw [HLq.out]; omega) ?_; intro q1' w2 hq2 hb2 hg2 hat2)))
      have hp2 := (show (w1.drew).ownsRow w.heap.size 3 1 _ (P ++ _).length (nums .i64 (P ++ _)) from hp1).kept hg2 HAp1.out.kept
      go_wp2_with fail
      have HAp2 := Lib.hid (HAp1.out.symm.grown hp1 hat2).symm
      go_roundw
      case rel => exact ⟨k + 1, by omega, by go_num, by rw [HV.out, HVk.out]; exact hp2, by rw [HW.out, HWk.out]; exact hq2, HAp2, hb2⟩
      case measure => simp [intOf]; omega
    · obtain rfl : k = n := by omega
      rw [pl_length] at hp hq
      obtain ⟨A1, c1, rfl⟩ := own_slice hp
      obtain ⟨A2, c2, rfl⟩ := own_slice hq
      go_wp2_with fail
      go_ret2
      exact ⟨A1, c1, A2, c2, rfl, hp, hq, HAp.out, hb⟩

set_option maxHeartbeats 1000000 in
theorem rsplit_ok (A A' : Option Addr) (n c c' B : Nat) (l r : List Int) (w : World) (hr : Rd w B .i64 A n l) (hr' : Rd w B .i64 A' n r) (hB : B ≤ w.heap.size) (he : errM l r = 0) :
    Calls Try.prog 10 #[.slice A n c, .slice A' n c'] w (Pair n (splitM l r) (splitS l r) 0 w) := by
  have HL := Lib.hid hr.len
  have HE := Lib.hid he
  clear he
  go_enter Try.func10, Try.ntmps10
  go_wp2_with fail
  refine (asked_any A A' n c n c' B l r _ hr hr' 0 HE.out).mono ?_
  rintro e w1 ⟨rfl, rfl⟩
  go_wp2_with fail
  refine (halves_any A A' n c c' B l r _ hr hr' hB HE.out).mono ?_
  rintro e w1 ⟨A1, c1, A2, c2, rfl, h1, h2, h3, h4⟩
  go_wp2_with fail
  go_ret3
  unfold splitM splitS
  rw [HL.out]
  exact ⟨A1, c1, A2, c2, rfl, h1, h2, h3, h4⟩
set_option maxHeartbeats 1000000 in
theorem rsplit_err (A A' : Option Addr) (n c n' c' B : Nat) (l r : List Int) (w : World) (hr : Rd w B .i64 A n l) (hr' : Rd w B .i64 A' n' r) (x : Int) (he : errM l r = x) (hx : x ≠ 0) :
    Calls Try.prog 10 #[.slice A n c, .slice A' n' c'] w (Pair 0 [] [] x w) := by
  have HE := Lib.hid he
  have hd : (x != 0) = true := by simpa using hx
  clear he hx
  go_enter Try.func10, Try.ntmps10
  go_wp2_with fail
  refine (asked_any A A' n c n' c' B l r _ hr hr' x HE.out).mono ?_
  rintro e w1 ⟨rfl, rfl⟩
  go_wp2_with fail
  go_ret3
  exact pair_none _ _
set_option maxHeartbeats 1000000 in
theorem rjoin_ok (A A' : Option Addr) (n c c' B : Nat) (l r : List Int) (w : World) (hr : Rd w B .i64 A n l) (hr' : Rd w B .i64 A' n r) (hB : B ≤ w.heap.size) (he : errM l r = 0) :
    Calls Try.prog 11 #[.slice A n c, .slice A' n c'] w (Pair n (joinL l r) (joinR l r) 0 w) := by
  have HL := Lib.hid hr.len
  have HE := Lib.hid he
  clear he
  go_enter Try.func11, Try.ntmps11
  go_wp2_with fail
  refine (asked_any A A' n c n c' B l r _ hr hr' 0 HE.out).mono ?_
  rintro e w1 ⟨rfl, rfl⟩
  go_wp2_with fail
  refine (sums_any A A' n c c' B l r _ hr hr' hB HE.out).mono ?_
  rintro e w1 ⟨A1, c1, A2, c2, rfl, h1, h2, h3, h4⟩
  go_wp2_with fail
  go_ret3
  unfold joinL joinR
  rw [HL.out]
  exact ⟨A1, c1, A2, c2, rfl, h1, h2, h3, h4⟩
set_option maxHeartbeats 1000000 in
theorem rjoin_err (A A' : Option Addr) (n c n' c' B : Nat) (l r : List Int) (w : World) (hr : Rd w B .i64 A n l) (hr' : Rd w B .i64 A' n' r) (x : Int) (he : errM l r = x) (hx : x ≠ 0) :
    Calls Try.prog 11 #[.slice A n c, .slice A' n' c'] w (Pair 0 [] [] x w) := by
  have HE := Lib.hid he
  have hd : (x != 0) = true := by simpa using hx
  clear he hx
  go_enter Try.func11, Try.ntmps11
  go_wp2_with fail
  refine (asked_any A A' n c n' c' B l r _ hr hr' x HE.out).mono ?_
  rintro e w1 ⟨rfl, rfl⟩
  go_wp2_with fail
  go_ret3
  exact pair_none _ _

/-- What is answered, whatever is asked. -/
def ans (q : List Int) (l r : List Int) : List Int := if errM l r = 0 then q else []
theorem pair_ans {n : Nat} {p q l r : List Int} {w w' : World} {e : Ending} (hn : n = l.length) (hp : p.length = l.length) (he : errM l r = 0) (h : Pair n p q 0 w e w') : Pair (ans p l r).length (ans p l r) (ans q l r) (errM l r) w e w' := by
  unfold ans
  rw [if_pos he, if_pos he, he, hp, ← hn]
  exact h
theorem pair_nil {p q l r : List Int} {w w' : World} {e : Ending} (he : errM l r ≠ 0) (h : Pair 0 [] [] (errM l r) w e w') : Pair (ans p l r).length (ans p l r) (ans q l r) (errM l r) w e w' := by
  unfold ans
  rw [if_neg he, if_neg he]
  exact h
theorem len_eq {A A' : Option Addr} {n n' B : Nat} {l r : List Int} {w : World} (hr : Rd w B .i64 A n l) (hr' : Rd w B .i64 A' n' r) (he : errM l r = 0) : n = l.length ∧ n' = n := by
  have h := (err_zero he).1
  rw [hr.len, hr'.len] at h
  exact ⟨hr.len.symm, h.symm⟩
theorem split_any (A A' : Option Addr) (n c n' c' B : Nat) (l r : List Int) (w : World) (hr : Rd w B .i64 A n l) (hr' : Rd w B .i64 A' n' r) (hB : B ≤ w.heap.size) :
    Calls Try.prog 8 #[.slice A n c, .slice A' n' c'] w (Pair (ans (splitM l r) l r).length (ans (splitM l r) l r) (ans (splitS l r) l r) (errM l r) w) := by
  by_cases he : errM l r = 0
  · obtain ⟨h1, h2⟩ := len_eq hr hr' he
    subst h2
    exact (split_ok A A' n' c c' B l r w hr hr' hB he).mono fun _ _ h => pair_ans h1 (splitM_length l r) he h
  · exact (split_err A A' n c n' c' B l r w hr hr' hB _ rfl he).mono fun _ _ h => pair_nil he h
theorem rsplit_any (A A' : Option Addr) (n c n' c' B : Nat) (l r : List Int) (w : World) (hr : Rd w B .i64 A n l) (hr' : Rd w B .i64 A' n' r) (hB : B ≤ w.heap.size) :
    Calls Try.prog 10 #[.slice A n c, .slice A' n' c'] w (Pair (ans (splitM l r) l r).length (ans (splitM l r) l r) (ans (splitS l r) l r) (errM l r) w) := by
  by_cases he : errM l r = 0
  · obtain ⟨h1, h2⟩ := len_eq hr hr' he
    subst h2
    exact (rsplit_ok A A' n' c c' B l r w hr hr' hB he).mono fun _ _ h => pair_ans h1 (splitM_length l r) he h
  · exact (rsplit_err A A' n c n' c' B l r w hr hr' _ rfl he).mono fun _ _ h => pair_nil he h
theorem join_any (A A' : Option Addr) (n c n' c' B : Nat) (l r : List Int) (w : World) (hr : Rd w B .i64 A n l) (hr' : Rd w B .i64 A' n' r) (hB : B ≤ w.heap.size) :
    Calls Try.prog 7 #[.slice A n c, .slice A' n' c'] w (Pair (ans (joinL l r) l r).length (ans (joinL l r) l r) (ans (joinR l r) l r) (errM l r) w) := by
  by_cases he : errM l r = 0
  · obtain ⟨h1, h2⟩ := len_eq hr hr' he
    subst h2
    exact (join_ok A A' n' c c' B l r w hr hr' hB he).mono fun _ _ h => pair_ans h1 (joinL_length l r) he h
  · exact (join_err A A' n c n' c' B l r w hr hr' _ rfl he).mono fun _ _ h => pair_nil he h
theorem rjoin_any (A A' : Option Addr) (n c n' c' B : Nat) (l r : List Int) (w : World) (hr : Rd w B .i64 A n l) (hr' : Rd w B .i64 A' n' r) (hB : B ≤ w.heap.size) :
    Calls Try.prog 11 #[.slice A n c, .slice A' n' c'] w (Pair (ans (joinL l r) l r).length (ans (joinL l r) l r) (ans (joinR l r) l r) (errM l r) w) := by
  by_cases he : errM l r = 0
  · obtain ⟨h1, h2⟩ := len_eq hr hr' he
    subst h2
    exact (rjoin_ok A A' n' c c' B l r w hr hr' hB he).mono fun _ _ h => pair_ans h1 (joinL_length l r) he h
  · exact (rjoin_err A A' n c n' c' B l r w hr hr' _ rfl he).mono fun _ _ h => pair_nil he h
end Go.Proofs.Ytboaamhffphaiaa
