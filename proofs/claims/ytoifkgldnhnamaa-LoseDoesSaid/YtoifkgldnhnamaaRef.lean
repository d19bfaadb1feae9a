/- The contracts of the reference's functions of lost frames, and of Same. -/
import Derived.Test.YtoifkgldnhnamaaMore
import Derived.StillTailTactics
namespace Go.Proofs.Ytoifkgldnhnamaa
open Go.RowKit

set_option maxHeartbeats 1000000 in
theorem rin_any (A : Option Addr) (n c B : Nat) (l : List Int) (w : World) (hr : Rd w B .i64 A n l) (b : Bool) (hb : okL l = b) :
    Calls Try.prog 22 #[.slice A n c] w fun e w' => e = .returned (.bool b) ∧ w = w' := by
  have hn := hr.le
  have Hlen := Lib.hid hr.len
  have HB := Lib.hid hb
  clear hb
  go_enter Try.func22, Try.ntmps22
  go_wp2
  go_loop [3] (fun i => ∃ k : Nat, k ≤ n ∧ i = .int .i64 k ∧ Hid (okL (l.take k) = true)) (fun i => n - (intOf i).toNat)
  case atStart => exact ⟨0, Nat.zero_le _, rfl, rfl⟩
  case round =>
    obtain ⟨k, hk, rfl, hq⟩ := hrel
    by_cases hlt : k < n
    · obtain ⟨ad, rfl, hab, hcell⟩ := hr.at_ hlt
      have HM := Lib.hid (getD_mem (l := l) (j := k) (by rw [Hlen.out]; exact hlt))
      have HN := Lib.hid (show okL (l.take (k + 1)) = lineB (l.getD k 0) by rw [take_snoc l k (by rw [Hlen.out]; exact hlt), okL_snoc, hq.out, Bool.true_and])
      have hki : (k : Int) < (n : Int) := by omega
      generalize l.getD k 0 = x at *
      rcases (show x < -268435455 ∨ 268435455 < x ∨ (-268435455 ≤ x ∧ x ≤ 268435455) by omega) with h | h | ⟨h, h'⟩
      · have HX := Lib.hid (show false = b by
          rw [← HB.out, okL, eq_comm, List.all_eq_false]
          exact ⟨x, HM.out, by simp [lineB]; omega⟩)
        go_wp2_with fail
        go_ret
        exact ⟨congrArg (fun z => Ending.returned (.bool z)) HX.out, rfl⟩
      · have HX := Lib.hid (show false = b by
          rw [← HB.out, okL, eq_comm, List.all_eq_false]
          exact ⟨x, HM.out, by simp [lineB]; omega⟩)
        go_wp2_with fail
        go_ret
        exact ⟨congrArg (fun z => Ending.returned (.bool z)) HX.out, rfl⟩
      · have HK := Lib.hid (show okL (l.take (k + 1)) = true by rw [HN.out]; simp [lineB]; omega)
        go_wp2_with fail
        go_round
        case rel => exact ⟨k + 1, by omega, by go_num, HK⟩
        case measure => simp [intOf]; omega
    · have HT := Lib.hid (show true = b by rw [← HB.out, ← hq.out, List.take_of_length_le]; rw [Hlen.out]; omega)
      go_wp2_with fail
      go_ret
      exact ⟨congrArg (fun z => Ending.returned (.bool z)) HT.out, rfl⟩

/-- Are two lists one? -/
def sameB (l m : List Int) : Bool := decide (l = m)
def Told (b : Bool) (w : World) (e : Ending) (w' : World) : Prop := e = .returned (.bool b) ∧ Drawn w w'
set_option maxHeartbeats 1000000 in
theorem same_any (A A' : Option Addr) (n c n' c' B : Nat) (l m : List Int) (w : World) (hr : Rd w B .i64 A n l) (hr' : Rd w B .i64 A' n' m) :
    Calls Try.prog 12 #[.slice A n c, .slice A' n' c'] w (Told (sameB l m) w) := by
  have hn := hr.le
  have hn' := hr'.le
  have Hlen := Lib.hid hr.len
  have Hlen' := Lib.hid hr'.len
  by_cases hnn : n = n'
  case neg =>
    have hd : ((n : Int) != (n' : Int)) = true := by simp; omega
    have HX := Lib.hid (show false = sameB l m by
      unfold sameB
      rw [eq_comm, decide_eq_false_iff_not]
      rintro rfl
      exact hnn (Hlen.out.symm.trans Hlen'.out))
    clear hnn
    go_enter Try.func12, Try.ntmps12
    go_wp2_with fail
    go_ret
    exact ⟨congrArg (fun z => Ending.returned (.bool z)) HX.out, 0, rfl⟩
  subst hnn
  go_enter Try.func12, Try.ntmps12
  go_wp2_with fail
  go_loopw [5] (fun i wr => ∃ k : Nat, k ≤ n ∧ i = .int .i64 k ∧ Hid (l.take k = m.take k) ∧ Drawn w wr) (fun i _ => n - (intOf i).toNat)
  case atStart => exact ⟨0, Nat.zero_le _, rfl, rfl, 0, rfl⟩
  case round =>
    obtain ⟨k, hk, rfl, hq, q, rfl⟩ := hrel
    by_cases hlt : k < n
    · obtain ⟨ad, rfl, _, hcell⟩ := hr.at_ hlt
      obtain ⟨ad', rfl, _, hcell'⟩ := hr'.at_ hlt
      have hki : (k : Int) < (n : Int) := by omega
      have hk0 : (0 : Int) ≤ (k : Int) := by omega
      have HN := Lib.hid (show l.take (k + 1) = l.take k ++ [l.getD k 0] from take_snoc l k (by rw [Hlen.out]; exact hlt))
      have HN' := Lib.hid (show m.take (k + 1) = m.take k ++ [m.getD k 0] from take_snoc m k (by rw [Hlen'.out]; exact hlt))
      by_cases hz : l.getD k 0 = m.getD k 0
      · have HX := Lib.hid (show l.take (k + 1) = m.take (k + 1) by rw [HN.out, HN'.out, hq.out, hz])
        rw [hz] at hcell
        clear hz
        generalize m.getD k 0 = z at *
        go_wp2_with fail
        go_quiet (fail)
        go_wp2_with fail
        go_roundw
        case rel => exact ⟨k + 1, by omega, by go_num, HX, _, rfl⟩
        case measure => simp [intOf]; omega
      · have hd : (l.getD k 0 != m.getD k 0) = true := by simpa using hz
        have HX := Lib.hid (show false = sameB l m by
          unfold sameB
          rw [eq_comm, decide_eq_false_iff_not]
          rintro rfl
          exact hz rfl)
        clear hz
        generalize l.getD k 0 = z at *
        generalize m.getD k 0 = z' at *
        go_wp2_with fail
        go_quiet (fail)
        go_wp2_with fail
        go_ret
        exact ⟨congrArg (fun z => Ending.returned (.bool z)) HX.out, _, World.drewN_drewN _ _ _⟩
    · have HT := Lib.hid (show true = sameB l m by
        have h := hq.out
        rw [List.take_of_length_le (by rw [Hlen.out]; omega), List.take_of_length_le (by rw [Hlen'.out]; omega)] at h
        unfold sameB
        rw [eq_comm, decide_eq_true_eq]
        exact h)
      go_wp2_with fail
      go_ret
      exact ⟨congrArg (fun z => Ending.returned (.bool z)) HT.out, _, rfl⟩

/-- A quotient rounded down. -/
theorem down_any (a b : Int) (w : World) (h0 : -4611686018427387904 ≤ a) (h1 : a ≤ 4611686018427387904) (hb : 0 < b) (_hb1 : b ≤ 4611686018427387904) :
    Calls Try.prog 25 #[.int .i64 a, .int .i64 b] w fun e w' => e = .returned (.int .i64 (a / b)) ∧ w' = w := by
  obtain ⟨k0, k1, k2, k3⟩ := tdiv_small a b 4611686018427387904 h0 h1
  have hbz : (b == 0) = false := by simp; omega
  have HF := Lib.hid (floor_mul a b hb)
  have hb' : 1 ≤ b := by omega
  by_cases hc : a < a.tdiv b * b
  · have HX := Lib.hid (show a.tdiv b - 1 = a / b by rw [← HF.out, if_pos hc])
    go_enter Try.func25, Try.ntmps25
    go_wp2_with fail
    go_ret
    exact ⟨congrArg (fun z => Ending.returned (.int .i64 z)) HX.out, rfl⟩
  · have HX := Lib.hid (show a.tdiv b = a / b by rw [← HF.out, if_neg hc])
    go_enter Try.func25, Try.ntmps25
    go_wp2_with fail
    go_ret
    exact ⟨congrArg (fun z => Ending.returned (.int .i64 z)) HX.out, rfl⟩

theorem row_zero (V : Nat → Int) (k : Nat) (hk : k < 256) (h : V k = 0) : row V k = row V (k + 1) := by
  unfold row
  obtain ⟨m, hm⟩ : ∃ m, 256 - k = m + 1 := ⟨256 - k - 1, by omega⟩
  have hm' : 256 - (k + 1) = m := by omega
  rw [hm, hm', pl_snoc, h, List.replicate_succ]
  simp

set_option maxHeartbeats 4000000 in
set_option maxRecDepth 100000 in
theorem rfilled_two (A A' : Option Addr) (c c' B : Nat) (l l' : List Int) (a m : Int) (w : World) (hr : Rd w B .i64 A 256 l) (hr' : Rd w B .i64 A' 256 l') (hB : B ≤ w.heap.size)
    (hm : (a = 1 ∧ m = 1) ∨ (a = 1 ∧ m = 2) ∨ (a = 2 ∧ m = 2)) (hl : okL l = true) (hl' : okL l' = true) :
    Calls Try.prog 23 #[.slice A 256 c, .slice A' 256 c', .int .i64 a, .int .i64 m] w (Own 256 (fl a m l l') w) := by
  have HV := Lib.hid (fun j => show lineOf a m l l' j = (l.getD j 0 * (m + 1 - a) + l'.getD j 0 * a) / (m + 1) by
    unfold lineOf val
    rw [if_pos ⟨by omega, by rw [decide_eq_true_eq, hr'.len]; omega⟩])
  have HOK := Lib.hid hl
  have HOK' := Lib.hid hl'
  have HL := Lib.hid hr.len
  have HL' := Lib.hid hr'.len
  clear hl hl'
  obtain ⟨i0, hi0, hz0, hz1, hz2⟩ := info_parts info3
  rcases hm with ⟨rfl, rfl⟩ | ⟨rfl, rfl⟩ | ⟨rfl, rfl⟩
  · go_enter Try.func23, Try.ntmps23
    go_wp2_with (at_make; refine wpList_make_full _ rfl _ _ 22 rfl w.heap.size 3 i0 _ 1 Try.underlying22 hi0 hz0 hz1 .i64 .i64 _ _ 256 rfl rfl rfl rfl (by rw [hz2]; omega) (by simp only [maxLen]; omega) (Nat.le_refl _) ?_; intro wb hown hgb)
    have hbg : Below w.heap.size w wb := (Below.refl w.heap.size _).grown hgb (Nat.le_refl _) (by simp)
    rw [made_row (lineOf 1 1 l l')] at hown
    clear hgb
    go_loopw [10] (fun i wr => ∃ j : Nat, j ≤ 256 ∧ i = .int .i64 j ∧ wr.ownsRow w.heap.size 3 1 (.slice (some ⟨w.heap.size, 0, none⟩) 256 256) 256 (row (lineOf 1 1 l l') j) ∧ Below w.heap.size w wr) (fun i _ => 256 - (intOf i).toNat)
    case atStart => exact ⟨0, by omega, rfl, hown, hbg⟩
    case round =>
      clear hown hbg
      obtain ⟨j, hj, rfl, hor, hbr⟩ := hrel
      by_cases hlt : j < 256
      · obtain ⟨ad, rfl, _, hc⟩ := (hr.below (hbr.mono hB)).at_ hlt
        obtain ⟨ad', rfl, _, hc'⟩ := (hr'.below (hbr.mono hB)).at_ hlt
        obtain ⟨hx0, hx1⟩ := okL_at HOK.out (getD_mem (l := l) (j := j) (by rw [HL.out]; exact hlt))
        obtain ⟨hy0, hy1⟩ := okL_at HOK'.out (getD_mem (l := l') (j := j) (by rw [HL'.out]; exact hlt))
        have HVJ := Lib.hid (HV.out j)
        have HRS := Lib.hid (row_set (lineOf 1 1 l l') j hlt)
        have hfz : wr.frozen? ⟨w.heap.size, j, none⟩ = false := hor.frozenAt j
        obtain ⟨u, hcT⟩ := row_cell hor j hlt
        have hji : (j : Int) < 256 := by omega
        have hj0 : (0 : Int) ≤ (j : Int) := by omega
        generalize l.getD j 0 = x at *
        generalize l'.getD j 0 = y at *
        have HVX := Lib.hid (show (x + y) / 2 = lineOf 1 1 l l' j by rw [HVJ.out]; congr 1; omega)
        have q0 : IntKind.i64.wrap (2) = 2 := IntWalk.i64_in _ (by omega)
        have q1 : IntKind.i64.wrap (1) = 1 := IntWalk.i64_in _ (by omega)
        have q2 : IntKind.i64.wrap (x) = x := IntWalk.i64_in _ (by omega)
        have q3 : IntKind.i64.wrap (y) = y := IntWalk.i64_in _ (by omega)
        have q4 : IntKind.i64.wrap (x + y) = x + y := IntWalk.i64_in _ (by omega)
        have HC := Lib.hid (fun W : World => down_any (x + y) 2 W (by omega) (by omega) (by omega) (by omega))
        go_wp2_with fail
        go_still_tail 22, (by kernel_rfl)
        still_call (HC.out _)
        repeat still_step
        refine wpStill_nil ?_
        go_wp2_with fail
        go_roundw
        case rel =>
          have hst := (hor.stored j (.int .i64 (lineOf 1 1 l l' j))).1
          rw [HRS.out, ← HVX.out] at hst
          exact ⟨j + 1, by omega, by go_num, hst, (hbr.setCell (p := ⟨w.heap.size, j, none⟩) (Nat.le_refl _) _).drew⟩
        case measure => simp [intOf]; omega
      · obtain rfl : j = 256 := by omega
        have ho : wr.ownsRow w.heap.size 3 1 (.slice (some ⟨w.heap.size, 0, none⟩) 256 256) 256 (nums .i64 (fl 1 1 l l')) := by rw [row_full] at hor; exact hor
        clear hor
        go_wp2_with fail
        go_ret
        exact ⟨_, _, rfl, ho, hbr⟩
  · go_enter Try.func23, Try.ntmps23
    go_wp2_with (at_make; refine wpList_make_full _ rfl _ _ 22 rfl w.heap.size 3 i0 _ 1 Try.underlying22 hi0 hz0 hz1 .i64 .i64 _ _ 256 rfl rfl rfl rfl (by rw [hz2]; omega) (by simp only [maxLen]; omega) (Nat.le_refl _) ?_; intro wb hown hgb)
    have hbg : Below w.heap.size w wb := (Below.refl w.heap.size _).grown hgb (Nat.le_refl _) (by simp)
    rw [made_row (lineOf 1 2 l l')] at hown
    clear hgb
    go_loopw [10] (fun i wr => ∃ j : Nat, j ≤ 256 ∧ i = .int .i64 j ∧ wr.ownsRow w.heap.size 3 1 (.slice (some ⟨w.heap.size, 0, none⟩) 256 256) 256 (row (lineOf 1 2 l l') j) ∧ Below w.heap.size w wr) (fun i _ => 256 - (intOf i).toNat)
    case atStart => exact ⟨0, by omega, rfl, hown, hbg⟩
    case round =>
      clear hown hbg
      obtain ⟨j, hj, rfl, hor, hbr⟩ := hrel
      by_cases hlt : j < 256
      · obtain ⟨ad, rfl, _, hc⟩ := (hr.below (hbr.mono hB)).at_ hlt
        obtain ⟨ad', rfl, _, hc'⟩ := (hr'.below (hbr.mono hB)).at_ hlt
        obtain ⟨hx0, hx1⟩ := okL_at HOK.out (getD_mem (l := l) (j := j) (by rw [HL.out]; exact hlt))
        obtain ⟨hy0, hy1⟩ := okL_at HOK'.out (getD_mem (l := l') (j := j) (by rw [HL'.out]; exact hlt))
        have HVJ := Lib.hid (HV.out j)
        have HRS := Lib.hid (row_set (lineOf 1 2 l l') j hlt)
        have hfz : wr.frozen? ⟨w.heap.size, j, none⟩ = false := hor.frozenAt j
        obtain ⟨u, hcT⟩ := row_cell hor j hlt
        have hji : (j : Int) < 256 := by omega
        have hj0 : (0 : Int) ≤ (j : Int) := by omega
        generalize l.getD j 0 = x at *
        generalize l'.getD j 0 = y at *
        have HVX := Lib.hid (show (x * 2 + y) / 3 = lineOf 1 2 l l' j by rw [HVJ.out]; congr 1; omega)
        have q0 : IntKind.i64.wrap (3) = 3 := IntWalk.i64_in _ (by omega)
        have q1 : IntKind.i64.wrap (2) = 2 := IntWalk.i64_in _ (by omega)
        have q2 : IntKind.i64.wrap (x * 2) = x * 2 := IntWalk.i64_in _ (by omega)
        have q3 : IntKind.i64.wrap (y) = y := IntWalk.i64_in _ (by omega)
        have q4 : IntKind.i64.wrap (x * 2 + y) = x * 2 + y := IntWalk.i64_in _ (by omega)
        have HC := Lib.hid (fun W : World => down_any (x * 2 + y) 3 W (by omega) (by omega) (by omega) (by omega))
        go_wp2_with fail
        go_still_tail 22, (by kernel_rfl)
        still_call (HC.out _)
        repeat still_step
        refine wpStill_nil ?_
        go_wp2_with fail
        go_roundw
        case rel =>
          have hst := (hor.stored j (.int .i64 (lineOf 1 2 l l' j))).1
          rw [HRS.out, ← HVX.out] at hst
          exact ⟨j + 1, by omega, by go_num, hst, (hbr.setCell (p := ⟨w.heap.size, j, none⟩) (Nat.le_refl _) _).drew⟩
        case measure => simp [intOf]; omega
      · obtain rfl : j = 256 := by omega
        have ho : wr.ownsRow w.heap.size 3 1 (.slice (some ⟨w.heap.size, 0, none⟩) 256 256) 256 (nums .i64 (fl 1 2 l l')) := by rw [row_full] at hor; exact hor
        clear hor
        go_wp2_with fail
        go_ret
        exact ⟨_, _, rfl, ho, hbr⟩
  · go_enter Try.func23, Try.ntmps23
    go_wp2_with (at_make; refine wpList_make_full _ rfl _ _ 22 rfl w.heap.size 3 i0 _ 1 Try.underlying22 hi0 hz0 hz1 .i64 .i64 _ _ 256 rfl rfl rfl rfl (by rw [hz2]; omega) (by simp only [maxLen]; omega) (Nat.le_refl _) ?_; intro wb hown hgb)
    have hbg : Below w.heap.size w wb := (Below.refl w.heap.size _).grown hgb (Nat.le_refl _) (by simp)
    rw [made_row (lineOf 2 2 l l')] at hown
    clear hgb
    go_loopw [10] (fun i wr => ∃ j : Nat, j ≤ 256 ∧ i = .int .i64 j ∧ wr.ownsRow w.heap.size 3 1 (.slice (some ⟨w.heap.size, 0, none⟩) 256 256) 256 (row (lineOf 2 2 l l') j) ∧ Below w.heap.size w wr) (fun i _ => 256 - (intOf i).toNat)
    case atStart => exact ⟨0, by omega, rfl, hown, hbg⟩
    case round =>
      clear hown hbg
      obtain ⟨j, hj, rfl, hor, hbr⟩ := hrel
      by_cases hlt : j < 256
      · obtain ⟨ad, rfl, _, hc⟩ := (hr.below (hbr.mono hB)).at_ hlt
        obtain ⟨ad', rfl, _, hc'⟩ := (hr'.below (hbr.mono hB)).at_ hlt
        obtain ⟨hx0, hx1⟩ := okL_at HOK.out (getD_mem (l := l) (j := j) (by rw [HL.out]; exact hlt))
        obtain ⟨hy0, hy1⟩ := okL_at HOK'.out (getD_mem (l := l') (j := j) (by rw [HL'.out]; exact hlt))
        have HVJ := Lib.hid (HV.out j)
        have HRS := Lib.hid (row_set (lineOf 2 2 l l') j hlt)
        have hfz : wr.frozen? ⟨w.heap.size, j, none⟩ = false := hor.frozenAt j
        obtain ⟨u, hcT⟩ := row_cell hor j hlt
        have hji : (j : Int) < 256 := by omega
        have hj0 : (0 : Int) ≤ (j : Int) := by omega
        generalize l.getD j 0 = x at *
        generalize l'.getD j 0 = y at *
        have HVX := Lib.hid (show (x + y * 2) / 3 = lineOf 2 2 l l' j by rw [HVJ.out]; congr 1; omega)
        have q0 : IntKind.i64.wrap (3) = 3 := IntWalk.i64_in _ (by omega)
        have q1 : IntKind.i64.wrap (1) = 1 := IntWalk.i64_in _ (by omega)
        have q2 : IntKind.i64.wrap (x) = x := IntWalk.i64_in _ (by omega)
        have q3 : IntKind.i64.wrap (y * 2) = y * 2 := IntWalk.i64_in _ (by omega)
        have q4 : IntKind.i64.wrap (x + y * 2) = x + y * 2 := IntWalk.i64_in _ (by omega)
        have HC := Lib.hid (fun W : World => down_any (x + y * 2) 3 W (by omega) (by omega) (by omega) (by omega))
        go_wp2_with fail
        go_still_tail 22, (by kernel_rfl)
        still_call (HC.out _)
        repeat still_step
        refine wpStill_nil ?_
        go_wp2_with fail
        go_roundw
        case rel =>
          have hst := (hor.stored j (.int .i64 (lineOf 2 2 l l' j))).1
          rw [HRS.out, ← HVX.out] at hst
          exact ⟨j + 1, by omega, by go_num, hst, (hbr.setCell (p := ⟨w.heap.size, j, none⟩) (Nat.le_refl _) _).drew⟩
        case measure => simp [intOf]; omega
      · obtain rfl : j = 256 := by omega
        have ho : wr.ownsRow w.heap.size 3 1 (.slice (some ⟨w.heap.size, 0, none⟩) 256 256) 256 (nums .i64 (fl 2 2 l l')) := by rw [row_full] at hor; exact hor
        clear hor
        go_wp2_with fail
        go_ret
        exact ⟨_, _, rfl, ho, hbr⟩

set_option maxHeartbeats 4000000 in
set_option maxRecDepth 100000 in
theorem rfilled_nought (A A' : Option Addr) (c n' c' : Nat) (l l' : List Int) (a m : Int) (w : World) (h8 : 8 < a) (ham : a ≤ m) (hn : n' = 256 ∨ n' = 0) :
    Calls Try.prog 23 #[.slice A 256 c, .slice A' n' c', .int .i64 a, .int .i64 m] w (Own 256 (fl a m l l') w) := by
  have HV := Lib.hid (fun j => show lineOf a m l l' j = 0 by
    unfold lineOf val
    rw [if_neg (by rw [decide_eq_true_eq]; omega), if_pos h8])
  obtain ⟨i0, hi0, hz0, hz1, hz2⟩ := info_parts info3
  rcases hn with rfl | rfl
  all_goals
    go_enter Try.func23, Try.ntmps23
    go_wp2_with (at_make; refine wpList_make_full _ rfl _ _ 22 rfl w.heap.size 3 i0 _ 1 Try.underlying22 hi0 hz0 hz1 .i64 .i64 _ _ 256 rfl rfl rfl rfl (by rw [hz2]; omega) (by simp only [maxLen]; omega) (Nat.le_refl _) ?_; intro wb hown hgb)
    have hbg : Below w.heap.size w wb := (Below.refl w.heap.size _).grown hgb (Nat.le_refl _) (by simp)
    rw [made_row (lineOf a m l l')] at hown
    clear hgb
    go_loopw [10] (fun i wr => ∃ j : Nat, j ≤ 256 ∧ i = .int .i64 j ∧ wr.ownsRow w.heap.size 3 1 (.slice (some ⟨w.heap.size, 0, none⟩) 256 256) 256 (row (lineOf a m l l') j) ∧ Below w.heap.size w wr) (fun i _ => 256 - (intOf i).toNat)
    case atStart => exact ⟨0, by omega, rfl, hown, hbg⟩
    case round =>
      clear hown hbg
      obtain ⟨j, hj, rfl, hor, hbr⟩ := hrel
      by_cases hlt : j < 256
      · have HRS := Lib.hid (row_zero (lineOf a m l l') j hlt (HV.out j))
        go_wp2_with fail
        go_roundw
        case rel => exact ⟨j + 1, by omega, by go_num, by rw [← HRS.out]; exact hor, hbr⟩
        case measure => simp [intOf]; omega
      · obtain rfl : j = 256 := by omega
        have ho : wr.ownsRow w.heap.size 3 1 (.slice (some ⟨w.heap.size, 0, none⟩) 256 256) 256 (nums .i64 (fl a m l l')) := by rw [row_full] at hor; exact hor
        clear hor
        go_wp2_with fail
        go_ret
        exact ⟨_, _, rfl, ho, hbr⟩

theorem pow_small (i : Nat) (h : i ≤ 8) : (1 : Int) ≤ 2 ^ i ∧ (2 : Int) ^ i ≤ 256 := by
  rcases (show i = 0 ∨ i = 1 ∨ i = 2 ∨ i = 3 ∨ i = 4 ∨ i = 5 ∨ i = 6 ∨ i = 7 ∨ i = 8 by omega) with rfl | rfl | rfl | rfl | rfl | rfl | rfl | rfl | rfl <;> decide

set_option maxHeartbeats 4000000 in
set_option maxRecDepth 100000 in
theorem rfilled_half (A A' : Option Addr) (c n' c' B k : Nat) (l l' : List Int) (m : Int) (w : World) (hr : Rd w B .i64 A 256 l) (hr' : Rd w B .i64 A' n' l') (hB : B ≤ w.heap.size) (hk : k ≤ 8) (hkm : (k : Int) ≤ m)
    (hcase : (n' = 256 ∧ ¬ m ≤ 2) ∨ (n' = 0 ∧ m ≤ 2) ∨ (n' = 0 ∧ ¬ m ≤ 2)) (hl : okL l = true) :
    Calls Try.prog 23 #[.slice A 256 c, .slice A' n' c', .int .i64 k, .int .i64 m] w (Own 256 (fl k m l l') w) := by
  have HV := Lib.hid (fun j => show lineOf k m l l' j = l.getD j 0 / 2 ^ k by
    unfold lineOf val
    rw [if_neg (by rw [decide_eq_true_eq, hr'.len]; omega), if_neg (by omega), Int.toNat_natCast])
  have HOK := Lib.hid hl
  have HL := Lib.hid hr.len
  have hk8 : (k : Int) ≤ 8 := by omega
  clear hl
  obtain ⟨i0, hi0, hz0, hz1, hz2⟩ := info_parts info3
  rcases hcase with ⟨rfl, hm2⟩ | ⟨rfl, hm2⟩ | ⟨rfl, hm2⟩
  all_goals
    go_enter Try.func23, Try.ntmps23
    go_wp2_with (at_make; refine wpList_make_full _ rfl _ _ 22 rfl w.heap.size 3 i0 _ 1 Try.underlying22 hi0 hz0 hz1 .i64 .i64 _ _ 256 rfl rfl rfl rfl (by rw [hz2]; omega) (by simp only [maxLen]; omega) (Nat.le_refl _) ?_; intro wb hown hgb)
    have hbg : Below w.heap.size w wb := (Below.refl w.heap.size _).grown hgb (Nat.le_refl _) (by simp)
    rw [made_row (lineOf k m l l')] at hown
    clear hgb
    go_loopw [10] (fun i wr => ∃ j : Nat, j ≤ 256 ∧ i = .int .i64 j ∧ wr.ownsRow w.heap.size 3 1 (.slice (some ⟨w.heap.size, 0, none⟩) 256 256) 256 (row (lineOf k m l l') j) ∧ Below w.heap.size w wr) (fun i _ => 256 - (intOf i).toNat)
    case atStart => exact ⟨0, by omega, rfl, hown, hbg⟩
    case round =>
      clear hown hbg
      obtain ⟨j, hj, rfl, hor, hbr⟩ := hrel
      by_cases hlt : j < 256
      · obtain ⟨ad, rfl, _, hc⟩ := (hr.below (hbr.mono hB)).at_ hlt
        obtain ⟨hx0, hx1⟩ := okL_at HOK.out (getD_mem (l := l) (j := j) (by rw [HL.out]; exact hlt))
        have HVJ := Lib.hid (HV.out j)
        have HRS := Lib.hid (row_set (lineOf k m l l') j hlt)
        have hfz : wr.frozen? ⟨w.heap.size, j, none⟩ = false := hor.frozenAt j
        obtain ⟨u, hcT⟩ := row_cell hor j hlt
        have hji : (j : Int) < 256 := by omega
        have hj0 : (0 : Int) ≤ (j : Int) := by omega
        generalize l.getD j 0 = x at *
        obtain ⟨wo, hwo⟩ : ∃ wo : World, wo = wr := ⟨_, rfl⟩
        subst hwo
        go_wp2_with fail
        go_loop [11, 12] (fun p i => ∃ (i' : Nat) (P : Int), i' ≤ k ∧ i = .int .i64 i' ∧ p = .int .i64 P ∧ Hid (P = 2 ^ i')) (fun _ i => k - (intOf i).toNat)
        case atStart => exact ⟨0, 1, by omega, rfl, rfl, rfl⟩
        case round =>
          obtain ⟨i', P, hi', rfl, rfl, HP⟩ := hrel
          have hps := pow_small i' (by omega)
          rw [← HP.out] at hps
          obtain ⟨hp0, hp1⟩ := hps
          by_cases hlt' : i' < k
          · have HP2 := Lib.hid (show 2 * P = 2 ^ (i' + 1) by rw [HP.out, Int.pow_succ]; omega)
            go_wp2_with fail
            go_round
            case rel => exact ⟨i' + 1, 2 * P, by omega, by go_num, rfl, HP2⟩
            case measure => simp [intOf]; omega
          · obtain rfl : i' = k := by omega
            have HVX := Lib.hid (show x / P = lineOf i' m l l' j by rw [HVJ.out, HP.out])
            have HC := Lib.hid (fun W : World => down_any x P W (by omega) (by omega) (by omega) (by omega))
            go_wp2_with fail
            refine (HC.out _).mono ?_
            rintro e w1 ⟨rfl, rfl⟩
            go_wp2_with fail
            go_roundw
            case rel =>
              have hst := (hor.stored j (.int .i64 (lineOf i' m l l' j))).1
              rw [HRS.out, ← HVX.out] at hst
              exact ⟨j + 1, by omega, by go_num, hst, hbr.setCell (p := ⟨w.heap.size, j, none⟩) (Nat.le_refl _) _⟩
            case measure => simp [intOf]; omega
      · obtain rfl : j = 256 := by omega
        have ho : wr.ownsRow w.heap.size 3 1 (.slice (some ⟨w.heap.size, 0, none⟩) 256 256) 256 (nums .i64 (fl k m l l')) := by rw [row_full] at hor; exact hor
        clear hor
        go_wp2_with fail
        go_ret
        exact ⟨_, _, rfl, ho, hbr⟩

/-- Filled, of what may be. -/
theorem rfilled_any (A A' : Option Addr) (c n' c' B : Nat) (l l' : List Int) (a m : Int) (w : World) (hr : Rd w B .i64 A 256 l) (hr' : Rd w B .i64 A' n' l') (hB : B ≤ w.heap.size) (he : errL l l' a m = 0) :
    Calls Try.prog 23 #[.slice A 256 c, .slice A' n' c', .int .i64 a, .int .i64 m] w (Own 256 (fl a m l l') w) := by
  obtain ⟨⟨h1, h2, h3⟩, _, e2, hk, hk'⟩ := err_zero he
  rw [hr'.len] at e2
  by_cases ht : m ≤ 2 ∧ n' = 256
  · obtain ⟨hm, rfl⟩ := ht
    exact rfilled_two A A' c c' B l l' a m w hr hr' hB (by omega) hk hk'
  · by_cases h8 : 8 < a
    · exact rfilled_nought A A' c n' c' l l' a m w h8 h2 e2
    · obtain ⟨k, rfl⟩ := Int.eq_ofNat_of_zero_le (show 0 ≤ a by omega)
      exact rfilled_half A A' c n' c' B k l l' m w hr hr' hB (by omega) h2 (by omega) hk

set_option maxHeartbeats 2000000 in
theorem rlines_any (A A' : Option Addr) (n c n' c' B : Nat) (l l' : List Int) (a m : Int) (w : World) (hr : Rd w B .i64 A n l) (hr' : Rd w B .i64 A' n' l') (hB : B ≤ w.heap.size) :
    Calls Try.prog 11 #[.slice A n c, .slice A' n' c', .int .i64 a, .int .i64 m] w (Ans (ansL l l' a m) (errL l l' a m) w) := by
  have hl := hr.len
  have hl' := hr'.len
  have hw : Below w.heap.size w w := Below.refl _ _
  by_cases h1 : a < 1
  · have HE := Lib.hid (show errL l l' a m = 2 by unfold errL; rw [if_pos (by omega)])
    clear hl hl'
    go_enter Try.func11, Try.ntmps11
    go_wp2_with fail
    go_ret2
    exact ans_none HE.out (by omega) hw
  by_cases h2 : m < a
  · have HE := Lib.hid (show errL l l' a m = 2 by unfold errL; rw [if_pos (by omega)])
    clear hl hl'
    go_enter Try.func11, Try.ntmps11
    go_wp2_with fail
    go_ret2
    exact ans_none HE.out (by omega) hw
  by_cases h3 : 65536 < m
  · have HE := Lib.hid (show errL l l' a m = 2 by unfold errL; rw [if_pos (by omega)])
    clear hl hl'
    go_enter Try.func11, Try.ntmps11
    go_wp2_with fail
    go_ret2
    exact ans_none HE.out (by omega) hw
  by_cases h4 : n = 256
  case neg =>
    have HE := Lib.hid (show errL l l' a m = 4 by unfold errL; rw [if_neg (by omega), if_pos (by omega)])
    have hd : ((n : Int) != 256) = true := by simp; omega
    clear hl hl' h4
    go_enter Try.func11, Try.ntmps11
    go_wp2_with fail
    go_ret2
    exact ans_none HE.out (by omega) hw
  subst h4
  by_cases h5 : n' ≠ 256 ∧ n' ≠ 0
  · have HE := Lib.hid (show errL l l' a m = 4 by unfold errL; rw [if_neg (by omega), if_pos (by omega)])
    have hd : ((n' : Int) != 256) = true := by simp; omega
    have hd2 : ((n' : Int) != 0) = true := by simp; omega
    clear hl hl' h5
    go_enter Try.func11, Try.ntmps11
    go_wp2_with fail
    go_ret2
    exact ans_none HE.out (by omega) hw
  have hE2 : errL l l' a m = if okL l = true ∧ okL l' = true then 0 else 2 := by unfold errL; rw [if_neg (by omega), if_neg (by omega)]
  have HE2 := Lib.hid hE2
  have hcase : n' = 256 ∨ n' = 0 := by omega
  clear hl hl' hE2 h5
  rcases hcase with rfl | rfl
  all_goals
    cases hk : okL l
    · have HE := Lib.hid (show errL l l' a m = 2 by rw [HE2.out, if_neg (by rw [hk]; simp)])
      have HK := Lib.hid hk
      clear hk
      go_enter Try.func11, Try.ntmps11
      go_wp2_with fail
      refine (rin_any A 256 c B l _ hr false HK.out).mono ?_
      rintro e w1 ⟨rfl, rfl⟩
      go_wp2_with fail
      go_ret2
      exact ans_none HE.out (by omega) hw
    · cases hk' : okL l'
      · have HE := Lib.hid (show errL l l' a m = 2 by rw [HE2.out, if_neg (by rw [hk']; simp)])
        have HK := Lib.hid hk
        have HK' := Lib.hid hk'
        clear hk hk'
        go_enter Try.func11, Try.ntmps11
        go_wp2_with fail
        refine (rin_any A 256 c B l _ hr true HK.out).mono ?_
        rintro e w1 ⟨rfl, rfl⟩
        go_wp2_with fail
        refine (rin_any A' _ c' B l' _ hr' false HK'.out).mono ?_
        rintro e w1 ⟨rfl, rfl⟩
        go_wp2_with fail
        go_ret2
        exact ans_none HE.out (by omega) hw
      · have HE := Lib.hid (show errL l l' a m = 0 by rw [HE2.out, if_pos ⟨hk, hk'⟩])
        have HK := Lib.hid hk
        have HK' := Lib.hid hk'
        clear hk hk'
        go_enter Try.func11, Try.ntmps11
        go_wp2_with fail
        refine (rin_any A 256 c B l _ hr true HK.out).mono ?_
        rintro e w1 ⟨rfl, rfl⟩
        go_wp2_with fail
        refine (rin_any A' _ c' B l' _ hr' true HK'.out).mono ?_
        rintro e w1 ⟨rfl, rfl⟩
        go_wp2_with fail
        refine (rfilled_any A A' c _ c' B l l' a m _ hr hr' hB HE.out).mono ?_
        rintro e w1 ⟨A2, c2, rfl, ho, hb⟩
        go_wp2_with fail
        go_ret2
        have e1 : ansL l l' a m = fl a m l l' := by unfold ansL; rw [if_pos HE.out]
        rw [e1, HE.out]
        refine ⟨A2, c2, ?_, ?_, hb⟩
        · rw [fl_length]; rfl
        · rw [fl_length]; exact ho
end Go.Proofs.Ytoifkgldnhnamaa
