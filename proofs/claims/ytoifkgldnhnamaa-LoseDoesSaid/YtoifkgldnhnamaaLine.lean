/- The closures of lose.Lines: what a lost frame's line comes to. -/
import Derived.Test.YtoifkgldnhnamaaCalls
namespace Go.Proofs.Ytoifkgldnhnamaa
open Go.RowKit

/-- What a line comes to: at, many; is there anything behind; what was ahead, what comes behind. -/
def val (at_ many : Int) (two : Bool) (x y : Int) : Int :=
  if many ≤ 2 ∧ two = true then (x * (many + 1 - at_) + y * at_) / (many + 1) else if 8 < at_ then 0 else x / 2 ^ at_.toNat

/-- The world is the old one, some orders having been drawn. -/
def Drawn (w w' : World) : Prop := ∃ q, w' = w.drewN q
theorem Drawn.below {w w' : World} {B : Nat} (h : Drawn w w') : Below B w w' := by
  obtain ⟨q, rfl⟩ := h
  exact below_drewN (Below.refl _ _) q

theorem floor_mod (s b : Int) (hb : 0 < b) : (if s.tmod b < 0 then s.tdiv b - 1 else s.tdiv b) = s / b := by
  rw [Int.tdiv_eq_ediv, Int.tmod_eq_emod, Int.sign_eq_one_of_pos hb]
  have h1 := Int.emod_nonneg s (show b ≠ 0 by omega)
  have h2 := Int.emod_lt_of_pos s hb
  split <;> split <;> omega
theorem floor_mul (s b : Int) (hb : 0 < b) : (if s < s.tdiv b * b then s.tdiv b - 1 else s.tdiv b) = s / b := by
  rw [Int.tdiv_eq_ediv, Int.sign_eq_one_of_pos hb]
  have h1 : s / b * b ≤ s := Int.ediv_mul_le s (by omega)
  have h2 := Int.lt_ediv_add_one_mul_self s hb
  split
  · rw [Int.add_zero, if_neg (by omega)]
  · omega
/-- 'down' stays small, and so does what it is multiplied with. -/
theorem tdiv_small (s b M : Int) (h0 : -M ≤ s) (h1 : s ≤ M) : -M ≤ s.tdiv b ∧ s.tdiv b ≤ M ∧ -M ≤ s.tdiv b * b ∧ s.tdiv b * b ≤ M := by
  have hd : (s.tdiv b).natAbs ≤ s.natAbs := by
    rw [Int.natAbs_tdiv]
    exact Nat.div_le_self _ _
  have hq : (s.tdiv b * b).natAbs ≤ s.natAbs := by
    rw [Int.natAbs_mul, Int.natAbs_tdiv]
    exact Nat.div_mul_le_self _ _
  omega

/-- What the closures of one call of Lines have captured: the four parameters' boxes. -/
structure Boxes (w : World) (g : Nat) (A : Option Addr) (n c : Nat) (A' : Option Addr) (n' c' : Nat) (at_ many : Int) : Prop where
  before : w.cell? ⟨g, 0, none⟩ = some (.slice A n c)
  after : w.cell? ⟨g + 1, 0, none⟩ = some (.slice A' n' c')
  here : w.cell? ⟨g + 1 + 1, 0, none⟩ = some (.int .i64 at_)
  run : w.cell? ⟨g + 1 + 1 + 1, 0, none⟩ = some (.int .i64 many)
theorem Boxes.keep {w w' : World} {g B : Nat} {A : Option Addr} {n c : Nat} {A' : Option Addr} {n' c' : Nat} {at_ many : Int} (h : Boxes w g A n c A' n' c' at_ many) (hb : Below B w w') (hg : g + 4 ≤ B) : Boxes w' g A n c A' n' c' at_ many :=
  ⟨(hb.cell (by show g < B; omega)).trans h.before, (hb.cell (by show g + 1 < B; omega)).trans h.after, (hb.cell (by show g + 1 + 1 < B; omega)).trans h.here, (hb.cell (by show g + 1 + 1 + 1 < B; omega)).trans h.run⟩

/-- What a line's closure hands back. -/
def Line (v : Int) (w : World) (e : Ending) (w' : World) : Prop := e = .returned (.int .i64 v) ∧ Drawn w w'

/-- Noughts. -/
theorem nought_any (j : Int) (w : World) : Calls Try.prog 20 #[.int .i64 j] w (Line 0 w) := by
  go_enter Try.func20, Try.ntmps20
  go_wp2
  go_ret
  exact ⟨rfl, 0, rfl⟩

set_option maxHeartbeats 1000000 in
theorem half_any (g B : Nat) (A : Option Addr) (n c : Nat) (A' : Option Addr) (n' c' k : Nat) (many : Int) (l : List Int) (j : Nat) (w : World) (hb : Boxes w g A n c A' n' c' k many) (hr : Rd w B .i64 A n l) (hj : j < n) (hk : k ≤ 8) :
    Calls Try.prog 21 #[.int .i64 j, .pointer (some ⟨g, 0, none⟩), .pointer (some ⟨g + 1 + 1, 0, none⟩)] w (Line (l.getD j 0 / 2 ^ k) w) := by
  obtain ⟨h1, h2, h3, h4⟩ := hb
  obtain ⟨ad, rfl, _, hc⟩ := hr.at_ hj
  have hji : (j : Int) < (n : Int) := by omega
  have hj0 : (0 : Int) ≤ (j : Int) := by omega
  have hk0 : (0 : Int) ≤ (k : Int) := by omega
  generalize l.getD j 0 = x at *
  go_enter Try.func21, Try.ntmps21
  go_wp2_with fail
  go_quiet (fail)
  go_wp2_with fail
  go_ret
  exact ⟨rfl, _, rfl⟩

set_option maxHeartbeats 1000000 in
theorem between_any (g B : Nat) (A : Option Addr) (n c : Nat) (A' : Option Addr) (n' c' : Nat) (at_ many : Int) (l l' : List Int) (j : Nat) (w : World) (hb : Boxes w g A n c A' n' c' at_ many) (hr : Rd w B .i64 A n l) (hr' : Rd w B .i64 A' n' l')
    (hj : j < n) (hj' : j < n') (hm : (at_ = 1 ∧ many = 1) ∨ (at_ = 1 ∧ many = 2) ∨ (at_ = 2 ∧ many = 2)) (hl : okL l = true) (hl' : okL l' = true) :
    Calls Try.prog 19 #[.int .i64 j, .pointer (some ⟨g, 0, none⟩), .pointer (some ⟨g + 1 + 1 + 1, 0, none⟩), .pointer (some ⟨g + 1 + 1, 0, none⟩), .pointer (some ⟨g + 1, 0, none⟩)] w (Line ((l.getD j 0 * (many + 1 - at_) + l'.getD j 0 * at_) / (many + 1)) w) := by
  obtain ⟨h1, h2, h3, h4⟩ := hb
  obtain ⟨hx0, hx1⟩ := okL_at hl (getD_mem (l := l) (j := j) (by rw [hr.len]; exact hj))
  obtain ⟨hy0, hy1⟩ := okL_at hl' (getD_mem (l := l') (j := j) (by rw [hr'.len]; exact hj'))
  obtain ⟨ad, rfl, _, hc⟩ := hr.at_ hj
  obtain ⟨ad', rfl, _, hc'⟩ := hr'.at_ hj'
  have hji : (j : Int) < (n : Int) := by omega
  have hji' : (j : Int) < (n' : Int) := by omega
  have hj0 : (0 : Int) ≤ (j : Int) := by omega
  generalize l.getD j 0 = x at *
  generalize l'.getD j 0 = y at *
  rcases hm with ⟨rfl, rfl⟩ | ⟨rfl, rfl⟩ | ⟨rfl, rfl⟩
  · obtain ⟨hs0, hs1, _, _⟩ := tdiv_small (x + y) 2 536870910 (by omega) (by omega)
    have HN := Lib.hid (fun h : (x + y).tmod 2 < 0 => show (x + y).tdiv 2 - 1 = (x * (1 + 1 - 1) + y * 1) / (1 + 1) by have e := floor_mod (x + y) 2 (by omega); rw [if_pos h] at e; rw [e]; congr 1; omega)
    have HP := Lib.hid (fun h : ¬ (x + y).tmod 2 < 0 => show (x + y).tdiv 2 = (x * (1 + 1 - 1) + y * 1) / (1 + 1) by have e := floor_mod (x + y) 2 (by omega); rw [if_neg h] at e; rw [e]; congr 1; omega)
    go_enter Try.func19, Try.ntmps19
    go_wp2_with fail
    go_quiet (fail)
    go_wp2_with fail
    · go_ret
      exact ⟨congrArg (fun z => Ending.returned (.int .i64 z)) (HN.out (by assumption)), _, rfl⟩
    · go_ret
      exact ⟨congrArg (fun z => Ending.returned (.int .i64 z)) (HP.out (by omega)), _, rfl⟩
  · obtain ⟨hs0, hs1, _, _⟩ := tdiv_small (x * 2 + y) 3 805306365 (by omega) (by omega)
    have HN := Lib.hid (fun h : (x * 2 + y).tmod 3 < 0 => show (x * 2 + y).tdiv 3 - 1 = (x * (2 + 1 - 1) + y * 1) / (2 + 1) by have e := floor_mod (x * 2 + y) 3 (by omega); rw [if_pos h] at e; rw [e]; congr 1; omega)
    have HP := Lib.hid (fun h : ¬ (x * 2 + y).tmod 3 < 0 => show (x * 2 + y).tdiv 3 = (x * (2 + 1 - 1) + y * 1) / (2 + 1) by have e := floor_mod (x * 2 + y) 3 (by omega); rw [if_neg h] at e; rw [e]; congr 1; omega)
    go_enter Try.func19, Try.ntmps19
    go_wp2_with fail
    go_quiet (fail)
    go_wp2_with fail
    · go_ret
      exact ⟨congrArg (fun z => Ending.returned (.int .i64 z)) (HN.out (by assumption)), _, rfl⟩
    · go_ret
      exact ⟨congrArg (fun z => Ending.returned (.int .i64 z)) (HP.out (by omega)), _, rfl⟩
  · obtain ⟨hs0, hs1, _, _⟩ := tdiv_small (x + y * 2) 3 805306365 (by omega) (by omega)
    have HN := Lib.hid (fun h : (x + y * 2).tmod 3 < 0 => show (x + y * 2).tdiv 3 - 1 = (x * (2 + 1 - 2) + y * 2) / (2 + 1) by have e := floor_mod (x + y * 2) 3 (by omega); rw [if_pos h] at e; rw [e]; congr 1; omega)
    have HP := Lib.hid (fun h : ¬ (x + y * 2).tmod 3 < 0 => show (x + y * 2).tdiv 3 = (x * (2 + 1 - 2) + y * 2) / (2 + 1) by have e := floor_mod (x + y * 2) 3 (by omega); rw [if_neg h] at e; rw [e]; congr 1; omega)
    go_enter Try.func19, Try.ntmps19
    go_wp2_with fail
    go_quiet (fail)
    go_wp2_with fail
    · go_ret
      exact ⟨congrArg (fun z => Ending.returned (.int .i64 z)) (HN.out (by assumption)), _, rfl⟩
    · go_ret
      exact ⟨congrArg (fun z => Ending.returned (.int .i64 z)) (HP.out (by omega)), _, rfl⟩
end Go.Proofs.Ytoifkgldnhnamaa
