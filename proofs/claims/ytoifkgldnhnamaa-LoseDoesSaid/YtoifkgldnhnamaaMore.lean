/- lose.Lines once more, in two forms: lists that may be, and others. -/
import Derived.Test.YtoifkgldnhnamaaHelp
namespace Go.Proofs.Ytoifkgldnhnamaa
open Go.RowKit

theorem fl_length (a m : Int) (l l' : List Int) : (fl a m l l').length = 256 := pl_length _ _
theorem fl_getD (a m : Int) (l l' : List Int) (j : Nat) (h : j < 256) : (fl a m l l').getD j 0 = lineOf a m l l' j := pl_getD _ _ _ h
/-- 256 lines of the call's own, and no error. -/
def Full (q : List Int) (w : World) (e : Ending) (w' : World) : Prop :=
  ∃ A c, e = .returned (.tuple #[.slice A 256 c, .int .i64 0]) ∧ w'.ownsRow w.heap.size 3 1 (.slice A 256 c) 256 (nums .i64 q) ∧ Below w.heap.size w w'
theorem lines_full (A A' : Option Addr) (n c n' c' B : Nat) (l l' : List Int) (a m : Int) (w : World) (hr : Rd w B .i64 A n l) (hr' : Rd w B .i64 A' n' l') (hB : B ≤ w.heap.size) (he : errL l l' a m = 0) :
    Calls Try.prog 10 #[.slice A n c, .slice A' n' c', .int .i64 a, .int .i64 m] w (Full (fl a m l l') w) := by
  have h := lines_lit A A' n c n' c' B l l' a m w hr hr' hB (fl a m l l') 0 (by unfold ansL; rw [if_pos he]) he
  refine h.mono ?_
  rintro e w' ⟨A2, c2, rfl, ho, hb⟩
  rw [fl_length] at ho ⊢
  exact ⟨A2, c2, rfl, ho, hb⟩
theorem err_cases (l l' : List Int) (a m : Int) : errL l l' a m = 0 ∨ (errL l l' a m ≠ 0 ∧ ansL l l' a m = []) := by
  by_cases h : errL l l' a m = 0
  · exact .inl h
  · exact .inr ⟨h, by unfold ansL; rw [if_neg h]⟩
/-- What a line lies between. -/
def other (m : Int) (l' : List Int) (j : Nat) : Int := if m ≤ 2 ∧ 0 < l'.length then l'.getD j 0 else 0
theorem half_between (x : Int) (k : Nat) : min x 0 ≤ x / 2 ^ k ∧ x / 2 ^ k ≤ max x 0 := by
  have hp : (0 : Int) < 2 ^ k := Int.pow_pos (by omega)
  have hp1 : (1 : Int) ≤ 2 ^ k := by omega
  rcases Int.le_total 0 x with h | h
  · have h1 := Int.ediv_nonneg h (Int.le_of_lt hp)
    have h2 := Int.ediv_le_self (2 ^ k) h
    omega
  · have h1 : x / 2 ^ k ≤ 0 := by
      have := Int.ediv_le_ediv hp h
      simpa using this
    have h2 : x ≤ x / 2 ^ k := by
      rw [Int.le_ediv_iff_mul_le hp]
      have := Int.mul_le_mul_of_nonpos_left h hp1
      simpa using this
    omega
theorem line_between {a m : Int} {l l' : List Int} (he : errL l l' a m = 0) (j : Nat) :
    min (l.getD j 0) (other m l' j) ≤ lineOf a m l l' j ∧ lineOf a m l l' j ≤ max (l.getD j 0) (other m l' j) ∧ (2 < m → 8 < a → lineOf a m l l' j = 0) := by
  obtain ⟨⟨h1, h2, h3⟩, _⟩ := err_zero he
  unfold lineOf val other
  generalize l.getD j 0 = x
  generalize l'.getD j 0 = y
  by_cases hm : m ≤ 2 ∧ 0 < l'.length
  · rw [if_pos hm, if_pos ⟨hm.1, by simpa using hm.2⟩]
    have hm1 := hm.1
    rcases (show (a = 1 ∧ m = 1) ∨ (a = 1 ∧ m = 2) ∨ (a = 2 ∧ m = 2) by omega) with ⟨rfl, rfl⟩ | ⟨rfl, rfl⟩ | ⟨rfl, rfl⟩
    · refine ⟨?_, ?_, ?_⟩ <;> omega
    · refine ⟨?_, ?_, ?_⟩ <;> omega
    · refine ⟨?_, ?_, ?_⟩ <;> omega
  · rw [if_neg hm, if_neg (by simpa using hm)]
    by_cases h8 : 8 < a
    · rw [if_pos h8]
      omega
    · rw [if_neg h8]
      obtain ⟨h4, h5⟩ := half_between x a.toNat
      exact ⟨h4, h5, fun _ h => absurd h h8⟩
end Go.Proofs.Ytoifkgldnhnamaa
