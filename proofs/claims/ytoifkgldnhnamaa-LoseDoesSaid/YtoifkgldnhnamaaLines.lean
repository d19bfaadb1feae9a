/- lose.Lines: what it answers, with which error, for whatever lists and numbers. -/
import Derived.Test.YtoifkgldnhnamaaLine
namespace Go.Proofs.Ytoifkgldnhnamaa
open Go.RowKit

/-- A row that is filled up to place k. -/
def pl (V : Nat → Int) (k : Nat) : List Int := (List.range k).map V
theorem pl_length (V : Nat → Int) (k : Nat) : (pl V k).length = k := by simp [pl]
theorem pl_snoc (V : Nat → Int) (k : Nat) : pl V (k + 1) = pl V k ++ [V k] := by simp [pl, List.range_succ]
theorem pl_getD (V : Nat → Int) (k j : Nat) (h : j < k) : (pl V k).getD j 0 = V j := by simp [pl, List.getD_eq_getElem?_getD, h]
theorem set_at (V : Nat → Int) (n k : Nat) (hk : k < n) : (nums .i64 (pl V k ++ List.replicate (n - k) 0)).set k (.int .i64 (V k)) = nums .i64 (pl V (k + 1) ++ List.replicate (n - (k + 1)) 0) := by
  obtain ⟨m, hm⟩ : ∃ m, n - k = m + 1 := ⟨n - k - 1, by omega⟩
  have hm' : n - (k + 1) = m := by omega
  have hl := pl_length V k
  rw [hm, hm', pl_snoc]
  generalize pl V k = y at *
  subst hl
  simp [nums, List.replicate_succ]

def row (V : Nat → Int) (k : Nat) : List Value := nums .i64 (pl V k ++ List.replicate (256 - k) 0)
theorem made_row (V : Nat → Int) : (madeCells (Value.int .i64 0).cells (256 * 1)).toList = row V 0 := by
  have h : ∀ n : Nat, (madeCells (Value.int .i64 0).cells (n * 1)).toList = nums .i64 (pl V 0 ++ List.replicate (n - 0) 0) := by
    intro n
    simp [nums, pl, toList_madeCells_one, Value.cells]
  exact h 256
theorem row_full (V : Nat → Int) : row V 256 = nums .i64 (pl V 256) := by
  unfold row
  rw [Nat.sub_self, List.replicate_zero, List.append_nil]
theorem row_set (V : Nat → Int) (k : Nat) (hk : k < 256) : (row V k).set k (.int .i64 (V k)) = row V (k + 1) := set_at V 256 k hk
theorem row_cell {w : World} {base g cap : Nat} {V : Nat → Int} {k : Nat} (h : w.ownsRow base 3 1 (.slice (some ⟨g, 0, none⟩) 256 cap) 256 (row V k)) (j : Nat) (hj : j < 256) : ∃ u, w.cell? ⟨g, j, none⟩ = some u := by
  rw [h.cellAt j (by omega)]
  have hl : (row V k).length = 256 := by have := h.1; omega
  exact ⟨_, List.getElem?_eq_getElem (by omega)⟩
def lineOf (a m : Int) (l l' : List Int) (j : Nat) : Int := val a m (decide (0 < l'.length)) (l.getD j 0) (l'.getD j 0)
def fl (a m : Int) (l l' : List Int) : List Int := pl (lineOf a m l l') 256
def errL (l l' : List Int) (a m : Int) : Int :=
  if a < 1 ∨ m < a ∨ 65536 < m then 2 else if l.length ≠ 256 ∨ (l'.length ≠ 256 ∧ l'.length ≠ 0) then 4 else if okL l = true ∧ okL l' = true then 0 else 2
def ansL (l l' : List Int) (a m : Int) : List Int := if errL l l' a m = 0 then fl a m l l' else []

/-- A list of the call's own, and an error. -/
def Ans (l : List Int) (x : Int) (w : World) (e : Ending) (w' : World) : Prop :=
  ∃ A c, e = .returned (.tuple #[.slice A l.length c, .int .i64 x]) ∧ w'.ownsRow w.heap.size 3 1 (.slice A l.length c) l.length (nums .i64 l) ∧ Below w.heap.size w w'
theorem ans_none {l l' : List Int} {a m x : Int} {w w' : World} (h : errL l l' a m = x) (hx : x ≠ 0) (hb : Below w.heap.size w w') : Ans (ansL l l' a m) (errL l l' a m) w (.returned (.tuple #[.slice none 0 0, .int .i64 x])) w' := by
  have e : ansL l l' a m = [] := by unfold ansL; rw [if_neg (by rw [h]; exact hx)]
  rw [e, h]
  exact ⟨none, 0, rfl, World.ownsRow_nil _ _ _ _, hb⟩
theorem boxes_below (w : World) (o1 o2 o3 o4 : Obj) : Below w.heap.size w ((((w.alloc o1).alloc o2).alloc o3).alloc o4) :=
  ((((Below.refl _ _).alloc (Nat.le_refl _) _).alloc (by simp) _).alloc (by simp; omega) _).alloc (by simp; omega) _

set_option maxHeartbeats 2000000 in
theorem lines_err (A A' : Option Addr) (n c n' c' B : Nat) (l l' : List Int) (a m : Int) (w : World) (hr : Rd w B .i64 A n l) (hr' : Rd w B .i64 A' n' l') (hB : B ≤ w.heap.size) (he : errL l l' a m ≠ 0) :
    Calls Try.prog 10 #[.slice A n c, .slice A' n' c', .int .i64 a, .int .i64 m] w (Ans (ansL l l' a m) (errL l l' a m) w) := by
  have hl := hr.len
  have hl' := hr'.len
  by_cases h1 : a < 1
  · have HE := Lib.hid (show errL l l' a m = 2 by unfold errL; rw [if_pos (by omega)])
    clear hl hl' he
    go_enter Try.func10, Try.ntmps10
    go_wp2_with fail
    go_ret2
    exact ans_none HE.out (by omega) (boxes_below ..)
  by_cases h2 : m < a
  · have HE := Lib.hid (show errL l l' a m = 2 by unfold errL; rw [if_pos (by omega)])
    clear hl hl' he
    go_enter Try.func10, Try.ntmps10
    go_wp2_with fail
    go_ret2
    exact ans_none HE.out (by omega) (boxes_below ..)
  by_cases h3 : 65536 < m
  · have HE := Lib.hid (show errL l l' a m = 2 by unfold errL; rw [if_pos (by omega)])
    clear hl hl' he
    go_enter Try.func10, Try.ntmps10
    go_wp2_with fail
    go_ret2
    exact ans_none HE.out (by omega) (boxes_below ..)
  by_cases h4 : n = 256
  case neg =>
    have HE := Lib.hid (show errL l l' a m = 4 by unfold errL; rw [if_neg (by omega), if_pos (by omega)])
    have hd : ((n : Int) != 256) = true := by simp; omega
    clear hl hl' he h4
    go_enter Try.func10, Try.ntmps10
    go_wp2_with fail
    go_ret2
    exact ans_none HE.out (by omega) (boxes_below ..)
  subst h4
  by_cases h5 : n' ≠ 256 ∧ n' ≠ 0
  · have HE := Lib.hid (show errL l l' a m = 4 by unfold errL; rw [if_neg (by omega), if_pos (by omega)])
    have hd : ((n' : Int) != 256) = true := by simp; omega
    have hd2 : ((n' : Int) != 0) = true := by simp; omega
    clear hl hl' he h5
    go_enter Try.func10, Try.ntmps10
    go_wp2_with fail
    go_ret2
    exact ans_none HE.out (by omega) (boxes_below ..)
  have hE2 : errL l l' a m = if okL l = true ∧ okL l' = true then 0 else 2 := by unfold errL; rw [if_neg (by omega), if_neg (by omega)]
  have hno : ¬ (okL l = true ∧ okL l' = true) := by
    intro h
    rw [if_pos h] at hE2
    exact he hE2
  have HE := Lib.hid (show errL l l' a m = 2 by rw [hE2, if_neg hno])
  have HNO := Lib.hid hno
  clear hl hl' he hE2 hno
  rcases (show n' = 256 ∨ n' = 0 by omega) with rfl | rfl
  all_goals
    cases hk : okL l
    · have HK := Lib.hid (show true = !okL l by rw [hk]; rfl)
      clear hk
      go_enter Try.func10, Try.ntmps10
      go_wp2_with fail
      refine (contains_any A 256 c B l _ (hr.below ((boxes_below ..).mono hB)) true HK.out).mono ?_
      rintro e w1 ⟨rfl, rfl⟩
      go_wp2_with fail
      go_ret2
      exact ans_none HE.out (by omega) (boxes_below ..)
    · have HK := Lib.hid (show false = !okL l by rw [hk]; rfl)
      have HK2 := Lib.hid (show true = !okL l' by
        cases h : okL l'
        · rfl
        · exact absurd ⟨hk, h⟩ HNO.out)
      clear hk
      go_enter Try.func10, Try.ntmps10
      go_wp2_with fail
      refine (contains_any A 256 c B l _ (hr.below ((boxes_below ..).mono hB)) false HK.out).mono ?_
      rintro e w1 ⟨rfl, rfl⟩
      go_wp2_with fail
      refine (contains_any A' _ c' B l' _ (hr'.below ((boxes_below ..).mono hB)) true HK2.out).mono ?_
      rintro e w1 ⟨rfl, rfl⟩
      go_wp2_with fail
      go_ret2
      exact ans_none HE.out (by omega) (boxes_below ..)

theorem err_zero {l l' : List Int} {a m : Int} (he : errL l l' a m = 0) : (1 ≤ a ∧ a ≤ m ∧ m ≤ 65536) ∧ l.length = 256 ∧ (l'.length = 256 ∨ l'.length = 0) ∧ okL l = true ∧ okL l' = true := by
  unfold errL at he
  split at he
  · omega
  · split at he
    · omega
    · split at he
      · rename_i h1 h2 h3
        exact ⟨by omega, by omega, by omega, h3.1, h3.2⟩
      · omega
theorem ans_full {l l' : List Int} {a m : Int} {w w' : World} {g : Nat} (h : errL l l' a m = 0) (ho : w'.ownsRow w.heap.size 3 1 (.slice (some ⟨g, 0, none⟩) 256 256) 256 (nums .i64 (pl (lineOf a m l l') 256))) (hb : Below w.heap.size w w') :
    Ans (ansL l l' a m) (errL l l' a m) w (.returned (.tuple #[.slice (some ⟨g, 0, none⟩) 256 256, .int .i64 0])) w' := by
  have e : ansL l l' a m = pl (lineOf a m l l') 256 := by unfold ansL; rw [if_pos h]; rfl
  rw [e, h]
  refine ⟨some ⟨g, 0, none⟩, 256, ?_, ?_, hb⟩
  · rw [pl_length]
  · rw [pl_length]; exact ho
/-- An owned row is that of an earlier base, too. -/
theorem own_base_le {w : World} {b b' : Nat} {e : TypeId} {size n : Nat} {v : Value} {xs : List Value} (h : w.ownsRow b e size v n xs) (hb : b' ≤ b) : w.ownsRow b' e size v n xs := by
  refine ⟨h.1, ?_⟩
  rcases h.2 with h | ⟨g, cap, cur, h1, h2, h3⟩
  · exact .inl h
  · exact .inr ⟨g, cap, cur, h1, by omega, h3⟩

theorem boxes_at (w : World) (A : Option Addr) (n c : Nat) (A' : Option Addr) (n' c' : Nat) (a m : Int) :
    Boxes ((((w.alloc (.cells #[.slice A n c] 22)).alloc (.cells #[.slice A' n' c'] 22)).alloc (.cells #[.int .i64 a] 3)).alloc (.cells #[.int .i64 m] 3)) w.heap.size A n c A' n' c' a m := by
  refine ⟨?_, ?_, ?_, ?_⟩ <;> go_simp

set_option maxHeartbeats 4000000 in
set_option maxRecDepth 100000 in
theorem lines_half (A A' : Option Addr) (n c n' c' B : Nat) (l l' : List Int) (a m : Int) (w : World) (hr : Rd w B .i64 A n l) (hr' : Rd w B .i64 A' n' l') (hB : B ≤ w.heap.size) (he : errL l l' a m = 0)
    (h8 : a ≤ 8) (hno : ¬ (m ≤ 2 ∧ n' = 256)) :
    Calls Try.prog 10 #[.slice A n c, .slice A' n' c', .int .i64 a, .int .i64 m] w (Ans (ansL l l' a m) (errL l l' a m) w) := by
  have hl := hr.len
  have hl' := hr'.len
  obtain ⟨⟨ha, ham, hm⟩, e1, e2, hk, hk'⟩ := err_zero he
  obtain rfl : n = 256 := by omega
  obtain ⟨k, rfl⟩ := Int.eq_ofNat_of_zero_le (show 0 ≤ a by omega)
  have HV := Lib.hid (fun j => show lineOf k m l l' j = l.getD j 0 / 2 ^ k by
    unfold lineOf val
    rw [if_neg (by rw [decide_eq_true_eq]; omega), if_neg (by omega), Int.toNat_natCast])
  have HK := Lib.hid (show false = !okL l by rw [hk]; rfl)
  have HK' := Lib.hid (show false = !okL l' by rw [hk']; rfl)
  have HE := Lib.hid he
  have hcase : (n' = 256 ∧ ¬ m ≤ 2) ∨ (n' = 0 ∧ m ≤ 2) ∨ (n' = 0 ∧ ¬ m ≤ 2) := by omega
  clear hl hl' he e1 e2 hk hk' hno
  obtain ⟨i0, hi0, hz0, hz1, hz2⟩ := info_parts info3
  rcases hcase with ⟨rfl, hm2⟩ | ⟨rfl, hm2⟩ | ⟨rfl, hm2⟩
  all_goals
    go_enter Try.func10, Try.ntmps10
    go_wp2_with fail
    refine (contains_any A 256 c B l _ (hr.below ((boxes_below ..).mono hB)) false HK.out).mono ?_
    rintro e w1 ⟨rfl, rfl⟩
    go_wp2_with fail
    refine (contains_any A' _ c' B l' _ (hr'.below ((boxes_below ..).mono hB)) false HK'.out).mono ?_
    rintro e w1 ⟨rfl, rfl⟩
    go_wp2_with (at_make; refine wpList_make_full _ rfl _ _ 22 rfl (w.heap.size + 1 + 1 + 1 + 1) 3 i0 _ 1 Try.underlying22 hi0 hz0 hz1 .i64 .i64 _ _ 256 rfl rfl rfl rfl (by rw [hz2]; omega) (by simp only [maxLen]; omega) (by simp) ?_; intro wb hown hgb)
    have hbg := (Below.refl (w.heap.size + 4) _).grown hgb (by simp) (by simp)
    have hbw := (boxes_below ..).trans (hbg.mono (by omega))
    have hbx := (boxes_at ..).keep hbg (by omega)
    have hown0 : wb.ownsRow (w.heap.size + 1 + 1 + 1 + 1) 3 1 (.slice (some ⟨w.heap.size + 1 + 1 + 1 + 1, 0, none⟩) 256 256) 256 (row (lineOf k m l l') 0) := by
      rw [made_row (lineOf k m l l')] at hown
      simpa using hown
    clear hown hgb hbg
    go_loopw [65] (fun i wr => ∃ j : Nat, j ≤ 256 ∧ i = .int .i64 j ∧ wr.ownsRow (w.heap.size + 1 + 1 + 1 + 1) 3 1 (.slice (some ⟨w.heap.size + 1 + 1 + 1 + 1, 0, none⟩) 256 256) 256 (row (lineOf k m l l') j) ∧ Below (w.heap.size + 4) wb wr) (fun i _ => 256 - (intOf i).toNat)
    case atStart => exact ⟨0, by omega, rfl, hown0, Below.refl _ _⟩
    case round =>
      clear hown0
      obtain ⟨j, hj, rfl, hor, hbr⟩ := hrel
      by_cases hlt : j < 256
      · have hbb : Below B w wr := (hbw.mono hB).trans (hbr.mono (by omega))
        have HC := Lib.hid (show Calls Try.prog 21 #[.int .i64 j, .pointer (some ⟨w.heap.size, 0, none⟩), .pointer (some ⟨w.heap.size + 1 + 1, 0, none⟩)] wr (Line (lineOf k m l l' j) wr) from (by rw [HV.out j]; exact half_any w.heap.size B A 256 c A' _ c' k m l j wr (hbx.keep hbr (Nat.le_refl _)) (hr.below hbb) hlt (by omega)))
        have hfz : wr.frozen? ⟨w.heap.size + 1 + 1 + 1 + 1, j, none⟩ = false := hor.frozenAt j
        obtain ⟨u, hcT⟩ : ∃ u, wr.cell? ⟨w.heap.size + 1 + 1 + 1 + 1, j, none⟩ = some u := row_cell hor j hlt
        go_wp2_with (go_at_call 21; refine HC.out.mono ?_; rintro e w1 ⟨rfl, q, rfl⟩)
        go_roundw
        case rel =>
          have hst := (hor.stored j (.int .i64 (lineOf k m l l' j))).1
          rw [row_set _ _ hlt] at hst
          exact ⟨j + 1, by omega, by go_num, hst, below_drewN (hbr.setCell (p := ⟨w.heap.size + 1 + 1 + 1 + 1, j, none⟩) (by show w.heap.size + 4 ≤ w.heap.size + 1 + 1 + 1 + 1; omega) _) q⟩
        case measure => simp [intOf]; omega
      · obtain rfl : j = 256 := by omega
        have ho : wr.ownsRow (w.heap.size + 1 + 1 + 1 + 1) 3 1 (.slice (some ⟨w.heap.size + 1 + 1 + 1 + 1, 0, none⟩) 256 256) 256 (nums .i64 (pl (lineOf k m l l') 256)) := by rw [row_full] at hor; exact hor
        clear hor
        go_wp2_with fail
        go_ret2
        exact ans_full HE.out (own_base_le ho (by omega)) (hbw.trans (hbr.mono (by omega)))
set_option maxHeartbeats 4000000 in
set_option maxRecDepth 100000 in
theorem lines_nought (A A' : Option Addr) (n c n' c' B : Nat) (l l' : List Int) (a m : Int) (w : World) (hr : Rd w B .i64 A n l) (hr' : Rd w B .i64 A' n' l') (hB : B ≤ w.heap.size) (he : errL l l' a m = 0)
    (h8 : 8 < a) :
    Calls Try.prog 10 #[.slice A n c, .slice A' n' c', .int .i64 a, .int .i64 m] w (Ans (ansL l l' a m) (errL l l' a m) w) := by
  have hl := hr.len
  have hl' := hr'.len
  obtain ⟨⟨ha, ham, hm⟩, e1, e2, hk, hk'⟩ := err_zero he
  obtain rfl : n = 256 := by omega
  have HV := Lib.hid (fun j => show lineOf a m l l' j = 0 by
    unfold lineOf val
    rw [if_neg (by rw [decide_eq_true_eq]; omega), if_pos h8])
  have HK := Lib.hid (show false = !okL l by rw [hk]; rfl)
  have HK' := Lib.hid (show false = !okL l' by rw [hk']; rfl)
  have HE := Lib.hid he
  have hcase : (n' = 256 ∧ ¬ m ≤ 2) ∨ (n' = 0 ∧ ¬ m ≤ 2) := by omega
  clear hl hl' he e1 e2 hk hk'
  obtain ⟨i0, hi0, hz0, hz1, hz2⟩ := info_parts info3
  rcases hcase with ⟨rfl, hm2⟩ | ⟨rfl, hm2⟩
  all_goals
    go_enter Try.func10, Try.ntmps10
    go_wp2_with fail
    refine (contains_any A 256 c B l _ (hr.below ((boxes_below ..).mono hB)) false HK.out).mono ?_
    rintro e w1 ⟨rfl, rfl⟩
    go_wp2_with fail
    refine (contains_any A' _ c' B l' _ (hr'.below ((boxes_below ..).mono hB)) false HK'.out).mono ?_
    rintro e w1 ⟨rfl, rfl⟩
    go_wp2_with (at_make; refine wpList_make_full _ rfl _ _ 22 rfl (w.heap.size + 1 + 1 + 1 + 1) 3 i0 _ 1 Try.underlying22 hi0 hz0 hz1 .i64 .i64 _ _ 256 rfl rfl rfl rfl (by rw [hz2]; omega) (by simp only [maxLen]; omega) (by simp) ?_; intro wb hown hgb)
    have hbg := (Below.refl (w.heap.size + 4) _).grown hgb (by simp) (by simp)
    have hbw := (boxes_below ..).trans (hbg.mono (by omega))
    have hbx := (boxes_at ..).keep hbg (by omega)
    have hown0 : wb.ownsRow (w.heap.size + 1 + 1 + 1 + 1) 3 1 (.slice (some ⟨w.heap.size + 1 + 1 + 1 + 1, 0, none⟩) 256 256) 256 (row (lineOf a m l l') 0) := by
      rw [made_row (lineOf a m l l')] at hown
      simpa using hown
    clear hown hgb hbg
    go_loopw [65] (fun i wr => ∃ j : Nat, j ≤ 256 ∧ i = .int .i64 j ∧ wr.ownsRow (w.heap.size + 1 + 1 + 1 + 1) 3 1 (.slice (some ⟨w.heap.size + 1 + 1 + 1 + 1, 0, none⟩) 256 256) 256 (row (lineOf a m l l') j) ∧ Below (w.heap.size + 4) wb wr) (fun i _ => 256 - (intOf i).toNat)
    case atStart => exact ⟨0, by omega, rfl, hown0, Below.refl _ _⟩
    case round =>
      clear hown0
      obtain ⟨j, hj, rfl, hor, hbr⟩ := hrel
      by_cases hlt : j < 256
      · have hbb : Below B w wr := (hbw.mono hB).trans (hbr.mono (by omega))
        have HC := Lib.hid (show Calls Try.prog 20 #[.int .i64 j] wr (Line (lineOf a m l l' j) wr) from (by rw [HV.out j]; exact nought_any j wr))
        have hfz : wr.frozen? ⟨w.heap.size + 1 + 1 + 1 + 1, j, none⟩ = false := hor.frozenAt j
        obtain ⟨u, hcT⟩ : ∃ u, wr.cell? ⟨w.heap.size + 1 + 1 + 1 + 1, j, none⟩ = some u := row_cell hor j hlt
        go_wp2_with (go_at_call 20; refine HC.out.mono ?_; rintro e w1 ⟨rfl, q, rfl⟩)
        go_roundw
        case rel =>
          have hst := (hor.stored j (.int .i64 (lineOf a m l l' j))).1
          rw [row_set _ _ hlt] at hst
          exact ⟨j + 1, by omega, by go_num, hst, below_drewN (hbr.setCell (p := ⟨w.heap.size + 1 + 1 + 1 + 1, j, none⟩) (by show w.heap.size + 4 ≤ w.heap.size + 1 + 1 + 1 + 1; omega) _) q⟩
        case measure => simp [intOf]; omega
      · obtain rfl : j = 256 := by omega
        have ho : wr.ownsRow (w.heap.size + 1 + 1 + 1 + 1) 3 1 (.slice (some ⟨w.heap.size + 1 + 1 + 1 + 1, 0, none⟩) 256 256) 256 (nums .i64 (pl (lineOf a m l l') 256)) := by rw [row_full] at hor; exact hor
        clear hor
        go_wp2_with fail
        go_ret2
        exact ans_full HE.out (own_base_le ho (by omega)) (hbw.trans (hbr.mono (by omega)))
set_option maxHeartbeats 4000000 in
set_option maxRecDepth 100000 in
theorem lines_between (A A' : Option Addr) (n c n' c' B : Nat) (l l' : List Int) (a m : Int) (w : World) (hr : Rd w B .i64 A n l) (hr' : Rd w B .i64 A' n' l') (hB : B ≤ w.heap.size) (he : errL l l' a m = 0)
    (h2 : m ≤ 2) (hn' : n' = 256) :
    Calls Try.prog 10 #[.slice A n c, .slice A' n' c', .int .i64 a, .int .i64 m] w (Ans (ansL l l' a m) (errL l l' a m) w) := by
  have hl := hr.len
  have hl' := hr'.len
  obtain ⟨⟨ha, ham, hm⟩, e1, e2, hk, hk'⟩ := err_zero he
  obtain rfl : n = 256 := by omega
  subst hn'
  have HV := Lib.hid (fun j => show lineOf a m l l' j = (l.getD j 0 * (m + 1 - a) + l'.getD j 0 * a) / (m + 1) by
    unfold lineOf val
    rw [if_pos ⟨h2, by rw [decide_eq_true_eq]; omega⟩])
  have HM := Lib.hid (show (a = 1 ∧ m = 1) ∨ (a = 1 ∧ m = 2) ∨ (a = 2 ∧ m = 2) by omega)
  have HO := Lib.hid hk
  have HO' := Lib.hid hk'
  have HK := Lib.hid (show false = !okL l by rw [hk]; rfl)
  have HK' := Lib.hid (show false = !okL l' by rw [hk']; rfl)
  have HE := Lib.hid he
  clear hl hl' he e1 e2 hk hk'
  obtain ⟨i0, hi0, hz0, hz1, hz2⟩ := info_parts info3
  · go_enter Try.func10, Try.ntmps10
    go_wp2_with fail
    refine (contains_any A 256 c B l _ (hr.below ((boxes_below ..).mono hB)) false HK.out).mono ?_
    rintro e w1 ⟨rfl, rfl⟩
    go_wp2_with fail
    refine (contains_any A' _ c' B l' _ (hr'.below ((boxes_below ..).mono hB)) false HK'.out).mono ?_
    rintro e w1 ⟨rfl, rfl⟩
    go_wp2_with (at_make; refine wpList_make_full _ rfl _ _ 22 rfl (w.heap.size + 1 + 1 + 1 + 1) 3 i0 _ 1 Try.underlying22 hi0 hz0 hz1 .i64 .i64 _ _ 256 rfl rfl rfl rfl (by rw [hz2]; omega) (by simp only [maxLen]; omega) (by simp) ?_; intro wb hown hgb)
    have hbg := (Below.refl (w.heap.size + 4) _).grown hgb (by simp) (by simp)
    have hbw := (boxes_below ..).trans (hbg.mono (by omega))
    have hbx := (boxes_at ..).keep hbg (by omega)
    have hown0 : wb.ownsRow (w.heap.size + 1 + 1 + 1 + 1) 3 1 (.slice (some ⟨w.heap.size + 1 + 1 + 1 + 1, 0, none⟩) 256 256) 256 (row (lineOf a m l l') 0) := by
      rw [made_row (lineOf a m l l')] at hown
      simpa using hown
    clear hown hgb hbg
    go_loopw [65] (fun i wr => ∃ j : Nat, j ≤ 256 ∧ i = .int .i64 j ∧ wr.ownsRow (w.heap.size + 1 + 1 + 1 + 1) 3 1 (.slice (some ⟨w.heap.size + 1 + 1 + 1 + 1, 0, none⟩) 256 256) 256 (row (lineOf a m l l') j) ∧ Below (w.heap.size + 4) wb wr) (fun i _ => 256 - (intOf i).toNat)
    case atStart => exact ⟨0, by omega, rfl, hown0, Below.refl _ _⟩
    case round =>
      clear hown0
      obtain ⟨j, hj, rfl, hor, hbr⟩ := hrel
      by_cases hlt : j < 256
      · have hbb : Below B w wr := (hbw.mono hB).trans (hbr.mono (by omega))
        have HC := Lib.hid (show Calls Try.prog 19 #[.int .i64 j, .pointer (some ⟨w.heap.size, 0, none⟩), .pointer (some ⟨w.heap.size + 1 + 1 + 1, 0, none⟩), .pointer (some ⟨w.heap.size + 1 + 1, 0, none⟩), .pointer (some ⟨w.heap.size + 1, 0, none⟩)] wr (Line (lineOf a m l l' j) wr) from (by rw [HV.out j]; exact between_any w.heap.size B A 256 c A' 256 c' a m l l' j wr (hbx.keep hbr (Nat.le_refl _)) (hr.below hbb) (hr'.below hbb) hlt hlt HM.out HO.out HO'.out))
        have hfz : wr.frozen? ⟨w.heap.size + 1 + 1 + 1 + 1, j, none⟩ = false := hor.frozenAt j
        obtain ⟨u, hcT⟩ : ∃ u, wr.cell? ⟨w.heap.size + 1 + 1 + 1 + 1, j, none⟩ = some u := row_cell hor j hlt
        go_wp2_with (go_at_call 19; refine HC.out.mono ?_; rintro e w1 ⟨rfl, q, rfl⟩)
        go_roundw
        case rel =>
          have hst := (hor.stored j (.int .i64 (lineOf a m l l' j))).1
          rw [row_set _ _ hlt] at hst
          exact ⟨j + 1, by omega, by go_num, hst, below_drewN (hbr.setCell (p := ⟨w.heap.size + 1 + 1 + 1 + 1, j, none⟩) (by show w.heap.size + 4 ≤ w.heap.size + 1 + 1 + 1 + 1; omega) _) q⟩
        case measure => simp [intOf]; omega
      · obtain rfl : j = 256 := by omega
        have ho : wr.ownsRow (w.heap.size + 1 + 1 + 1 + 1) 3 1 (.slice (some ⟨w.heap.size + 1 + 1 + 1 + 1, 0, none⟩) 256 256) 256 (nums .i64 (pl (lineOf a m l l') 256)) := by rw [row_full] at hor; exact hor
        clear hor
        go_wp2_with fail
        go_ret2
        exact ans_full HE.out (own_base_le ho (by omega)) (hbw.trans (hbr.mono (by omega)))

/-- lose.Lines, whatever it is given. -/
theorem lines_any (A A' : Option Addr) (n c n' c' B : Nat) (l l' : List Int) (a m : Int) (w : World) (hr : Rd w B .i64 A n l) (hr' : Rd w B .i64 A' n' l') (hB : B ≤ w.heap.size) :
    Calls Try.prog 10 #[.slice A n c, .slice A' n' c', .int .i64 a, .int .i64 m] w (Ans (ansL l l' a m) (errL l l' a m) w) := by
  by_cases he : errL l l' a m = 0
  · by_cases h2 : m ≤ 2 ∧ n' = 256
    · exact lines_between A A' n c n' c' B l l' a m w hr hr' hB he h2.1 h2.2
    · by_cases h8 : 8 < a
      · exact lines_nought A A' n c n' c' B l l' a m w hr hr' hB he h8
      · exact lines_half A A' n c n' c' B l l' a m w hr hr' hB he (by omega) h2
  · exact lines_err A A' n c n' c' B l l' a m w hr hr' hB he
end Go.Proofs.Ytoifkgldnhnamaa
