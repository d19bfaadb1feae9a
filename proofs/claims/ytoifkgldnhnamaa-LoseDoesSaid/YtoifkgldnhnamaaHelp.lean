/- The statements' helpers: filled, all and alive. -/
import Derived.Test.YtoifkgldnhnamaaLines
namespace Go.Proofs.Ytoifkgldnhnamaa
open Go.RowKit

/-- 256 lines of one size. -/
def cst (x : Int) : List Int := pl (fun _ => x) 256
theorem cst_length (x : Int) : (cst x).length = 256 := pl_length _ _
theorem cst_getD (x : Int) (j : Nat) (h : j < 256) : (cst x).getD j 0 = x := pl_getD _ _ _ h
theorem cst_mem {x y : Int} (h : y ∈ cst x) : y = x := by
  simp only [cst, pl, List.mem_map] at h
  obtain ⟨_, _, rfl⟩ := h
  rfl
theorem cst_ok (x : Int) (h : -268435455 ≤ x ∧ x ≤ 268435455) : okL (cst x) = true := by
  rw [okL, List.all_eq_true]
  intro y hy
  rw [cst_mem hy]
  simpa [lineB] using h

/-- A slice of the call's own. -/
def Own (n : Nat) (l : List Int) (w : World) (e : Ending) (w' : World) : Prop :=
  ∃ A c, e = .returned (.slice A n c) ∧ w'.ownsRow w.heap.size 3 1 (.slice A n c) n (nums .i64 l) ∧ Below w.heap.size w w'

set_option maxHeartbeats 1000000 in
set_option maxRecDepth 100000 in
theorem filled_any (x : Int) (w : World) : Calls Try.prog 14 #[.int .i64 x] w (Own 256 (cst x) w) := by
  obtain ⟨i0, hi0, hz0, hz1, hz2⟩ := info_parts info3
  go_enter Try.func14, Try.ntmps14
  go_wp2_with (at_make; refine wpList_make_full _ rfl _ _ 22 rfl w.heap.size 3 i0 _ 1 Try.underlying22 hi0 hz0 hz1 .i64 .i64 _ _ 256 rfl rfl rfl rfl (by rw [hz2]; omega) (by simp only [maxLen]; omega) (Nat.le_refl _) ?_; intro wb hown hgb)
  have hbg : Below w.heap.size w wb := (Below.refl w.heap.size _).grown hgb (Nat.le_refl _) (by simp)
  rw [made_row (fun _ => x)] at hown
  clear hgb
  go_loopw [4] (fun i wr => ∃ j : Nat, j ≤ 256 ∧ i = .int .i64 j ∧ wr.ownsRow w.heap.size 3 1 (.slice (some ⟨w.heap.size, 0, none⟩) 256 256) 256 (row (fun _ => x) j) ∧ Below w.heap.size w wr) (fun i _ => 256 - (intOf i).toNat)
  case atStart => exact ⟨0, by omega, rfl, hown, hbg⟩
  case round =>
    clear hown hbg
    obtain ⟨j, hj, rfl, hor, hbr⟩ := hrel
    by_cases hlt : j < 256
    · have hfz : wr.frozen? ⟨w.heap.size, j, none⟩ = false := hor.frozenAt j
      obtain ⟨u, hcT⟩ := row_cell hor j hlt
      go_wp2_with fail
      go_roundw
      case rel =>
        have hst := (hor.stored j (.int .i64 x)).1
        rw [row_set (fun _ => x) j hlt] at hst
        exact ⟨j + 1, by omega, by go_num, hst, hbr.setCell (p := ⟨w.heap.size, j, none⟩) (Nat.le_refl _) _⟩
      case measure => simp [intOf]; omega
    · obtain rfl : j = 256 := by omega
      have ho : wr.ownsRow w.heap.size 3 1 (.slice (some ⟨w.heap.size, 0, none⟩) 256 256) 256 (nums .i64 (cst x)) := by rw [row_full] at hor; exact hor
      clear hor
      go_wp2_with fail
      go_ret
      exact ⟨_, _, rfl, ho, hbr⟩

def allB (l : List Int) (x : Int) : Bool := decide (l.length = 256) && l.all (fun y => y == x)
theorem allB_cst (x : Int) : allB (cst x) x = true := by
  unfold allB
  rw [cst_length, List.all_eq_true.2 (fun y hy => by rw [cst_mem hy]; simp)]
  rfl
set_option maxHeartbeats 1000000 in
set_option maxRecDepth 100000 in
theorem all_any (A : Option Addr) (n c B : Nat) (l : List Int) (x : Int) (w : World) (hr : Rd w B .i64 A n l) :
    Calls Try.prog 15 #[.slice A n c, .int .i64 x] w fun e w' => e = .returned (.bool (allB l x)) ∧ w = w' := by
  have hn := hr.le
  have Hlen := Lib.hid hr.len
  go_enter Try.func15, Try.ntmps15
  go_wp2
  go_loop [5] (fun i => ∃ k : Nat, k ≤ n ∧ i = .int .i64 k ∧ Hid ((l.take k).all (fun y => y == x) = true)) (fun i => n - (intOf i).toNat)
  case atStart => exact ⟨0, Nat.zero_le _, rfl, rfl⟩
  case round =>
    obtain ⟨k, hk, rfl, hq⟩ := hrel
    by_cases hlt : k < n
    · obtain ⟨ad, rfl, hab, hcell⟩ := hr.at_ hlt
      have HM := Lib.hid (getD_mem (l := l) (j := k) (by rw [Hlen.out]; exact hlt))
      have HN := Lib.hid (show (l.take (k + 1)).all (fun y => y == x) = (l.getD k 0 == x) by rw [take_snoc l k (by rw [Hlen.out]; exact hlt), List.all_append, hq.out]; simp)
      generalize l.getD k 0 = z at *
      by_cases hz : z = x
      · have hd : (z != x) = false := by simp [hz]
        have HX := Lib.hid (show (l.take (k + 1)).all (fun y => y == x) = true by rw [HN.out]; simp [hz])
        clear hz
        go_wp2_with fail
        go_round
        case rel => exact ⟨k + 1, by omega, by go_num, HX⟩
        case measure => simp [intOf]; omega
      · have hd : (z != x) = true := by simp [hz]
        have HX := Lib.hid (show false = allB l x by
          unfold allB
          have : l.all (fun y => y == x) = false := by
            rw [List.all_eq_false]
            exact ⟨z, HM.out, by simp [hz]⟩
          rw [this, Bool.and_false])
        clear hz
        go_wp2_with fail
        go_ret
        exact ⟨congrArg (fun z => Ending.returned (.bool z)) HX.out, rfl⟩
    · have HT := Lib.hid (show l.all (fun y => y == x) = true by rw [← hq.out, List.take_of_length_le]; rw [Hlen.out]; omega)
      by_cases h256 : n = 256
      · have hd : ((n : Int) == 256) = true := by simp [h256]
        have HX := Lib.hid (show true = allB l x by unfold allB; rw [HT.out, Hlen.out]; simp [h256])
        clear h256
        go_wp2_with fail
        go_ret
        exact ⟨congrArg (fun z => Ending.returned (.bool z)) HX.out, rfl⟩
      · have hd : ((n : Int) == 256) = false := by simp; omega
        have HX := Lib.hid (show false = allB l x by unfold allB; rw [HT.out, Hlen.out]; simp [h256])
        clear h256
        go_wp2_with fail
        go_ret
        exact ⟨congrArg (fun z => Ending.returned (.bool z)) HX.out, rfl⟩

/-- Lines of one size. -/
theorem cst_err (x y a m : Int) (hx : -268435455 ≤ x ∧ x ≤ 268435455) (hy : -268435455 ≤ y ∧ y ≤ 268435455) (h : 1 ≤ a ∧ a ≤ m ∧ m ≤ 65536) : errL (cst x) (cst y) a m = 0 := by
  unfold errL
  rw [if_neg (by omega), if_neg (by rw [cst_length, cst_length]; omega), if_pos ⟨cst_ok x hx, cst_ok y hy⟩]
theorem cst_ans (x y a m : Int) (hx : -268435455 ≤ x ∧ x ≤ 268435455) (hy : -268435455 ≤ y ∧ y ≤ 268435455) (h : 1 ≤ a ∧ a ≤ m ∧ m ≤ 65536) : ansL (cst x) (cst y) a m = cst (val a m true x y) := by
  unfold ansL
  rw [if_pos (cst_err x y a m hx hy h)]
  unfold fl cst
  simp only [pl]
  apply List.map_congr_left
  intro j hj
  have hj' : j < 256 := List.mem_range.1 hj
  have e1 := cst_getD x j hj'
  have e2 := cst_getD y j hj'
  have e3 := cst_length y
  unfold cst pl at e1 e2 e3
  unfold lineOf
  rw [e1, e2, e3]
  rfl
theorem nil_err (x a m : Int) (hx : -268435455 ≤ x ∧ x ≤ 268435455) (h : 1 ≤ a ∧ a ≤ m ∧ m ≤ 65536) : errL (cst x) [] a m = 0 := by
  unfold errL
  rw [if_neg (by omega), if_neg (by rw [cst_length]; simp), if_pos ⟨cst_ok x hx, rfl⟩]
theorem nil_ans (x a m : Int) (hx : -268435455 ≤ x ∧ x ≤ 268435455) (h : 1 ≤ a ∧ a ≤ m ∧ m ≤ 65536) : ansL (cst x) [] a m = cst (val a m false x 0) := by
  unfold ansL
  rw [if_pos (nil_err x a m hx h)]
  unfold fl cst
  simp only [pl]
  apply List.map_congr_left
  intro j hj
  have hj' : j < 256 := List.mem_range.1 hj
  have e1 := cst_getD x j hj'
  unfold cst pl at e1
  unfold lineOf
  rw [e1]
  rfl
theorem lines_lit (A A' : Option Addr) (n c n' c' B : Nat) (l l' : List Int) (a m : Int) (w : World) (hr : Rd w B .i64 A n l) (hr' : Rd w B .i64 A' n' l') (hB : B ≤ w.heap.size) (q : List Int) (x : Int) (h1 : ansL l l' a m = q) (h2 : errL l l' a m = x) :
    Calls Try.prog 10 #[.slice A n c, .slice A' n' c', .int .i64 a, .int .i64 m] w (Ans q x w) := by
  have h := lines_any A A' n c n' c' B l l' a m w hr hr' hB
  rwa [h1, h2] at h

set_option maxHeartbeats 1000000 in
set_option maxRecDepth 100000 in
theorem alive_any (w : World) : Calls Try.prog 13 #[] w fun e w' => e = .returned (.bool true) ∧ Below w.heap.size w w' := by
  go_enter Try.func13, Try.ntmps13
  go_wp2_with fail
  refine (filled_any 9 _).mono ?_
  rintro e w1 ⟨A, c, rfl, hown, hb1⟩
  go_wp2_with fail
  refine (filled_any 3 _).mono ?_
  rintro e w2 ⟨A', c', rfl, hown', hb2⟩
  go_wp2_with fail
  refine (lines_lit A A' 256 c 256 c' _ (cst 9) (cst 3) 1 1 _ (Rd.of_own (own_below hown hb2)) (Rd.of_own hown') (Nat.le_refl _) (cst 6) 0 (cst_ans 9 3 1 1 (by omega) (by omega) (by omega)) (cst_err 9 3 1 1 (by omega) (by omega) (by omega))).mono ?_
  rintro e w3 ⟨A3, c3, rfl, hown3, hb3⟩
  go_wp2_with fail
  refine (all_any A3 _ c3 _ (cst 6) 6 _ (Rd.of_own hown3)).mono ?_
  rw [allB_cst]
  rintro e w4 ⟨rfl, rfl⟩
  go_wp2_with fail
  go_ret
  exact ⟨rfl, below_ (below_ hb1 hb2) hb3⟩
theorem seq_lit (x s q : Int) (w : World) (h0 : 0 ≤ x) (h1 : x ≤ 255) (hs : seqA x = s) (hq : seqE x = q) : Calls Try.prog 8 #[.int .u8 x] w fun e w' => e = .returned (.tuple #[.int .u8 s, .int .i64 q]) ∧ w = w' := by
  have h := seq_any x w h0 h1
  rwa [hs, hq] at h
end Go.Proofs.Ytoifkgldnhnamaa
