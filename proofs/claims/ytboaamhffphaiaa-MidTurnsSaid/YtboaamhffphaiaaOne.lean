/- Split and Join of two slices of one number each. -/
import Derived.Test.YtboaamhffphaiaaPlain
namespace Go.Proofs.Ytboaamhffphaiaa
open Go.RowKit

theorem rd_one {w : World} {g : Nat} {u : Int} (h : w.cell? ⟨g, 0, none⟩ = some (.int .i64 u)) : Rd w w.heap.size .i64 (some ⟨g, 0, none⟩) 1 [u] := by
  refine ⟨rfl, by omega, fun _ => ⟨_, rfl, World.block_lt_of_cell? w _ h, fun j hj => ?_⟩⟩
  obtain rfl : j = 0 := by omega
  simpa [Addr.add] using h
theorem one_ok {u v : Int} (hu : -268435455 ≤ u ∧ u ≤ 268435455) (hv : -268435455 ≤ v ∧ v ≤ 268435455) : errM [u] [v] = 0 := by
  unfold errM okL lineB
  simp [hu, hv]
/-- Two slices of one number each, and no error; what was there in world w0 is as it was. -/
def One (p q : Int) (w0 : World) (e : Ending) (w' : World) : Prop :=
  ∃ b c b' c', e = .returned (.tuple #[.slice (some ⟨b, 0, none⟩) 1 c, .slice (some ⟨b', 0, none⟩) 1 c', .int .i64 0]) ∧ w'.cell? ⟨b, 0, none⟩ = some (.int .i64 p) ∧ w'.cell? ⟨b', 0, none⟩ = some (.int .i64 q) ∧ Below w0.heap.size w0 w'
theorem split_one (w0 : World) (g g' : Nat) (u v : Int) (W : World) (hu : -268435455 ≤ u ∧ u ≤ 268435455) (hv : -268435455 ≤ v ∧ v ≤ 268435455) (hW : Below w0.heap.size w0 W)
    (hg : W.cell? ⟨g, 0, none⟩ = some (.int .i64 u)) (hg' : W.cell? ⟨g', 0, none⟩ = some (.int .i64 v)) :
    Calls Try.prog 8 #[.slice (some ⟨g, 0, none⟩) 1 1, .slice (some ⟨g', 0, none⟩) 1 1] W (One (kp (rnd (u + v))) (kp (rnd (u - v))) w0) := by
  refine (split_lit _ _ 1 1 1 _ [u] [v] W (rd_one hg) (rd_one hg') (Nat.le_refl _) (one_ok hu hv) [kp (rnd (u + v))] [kp (rnd (u - v))] rfl rfl).mono ?_
  rintro e w' ⟨A1, c1, A2, c2, rfl, h1, h2, _, h4⟩
  obtain ⟨b, rfl, hc⟩ := own_one h1
  obtain ⟨b', rfl, hc'⟩ := own_one h2
  exact ⟨b, c1, b', c2, rfl, hc, hc', below_ hW h4⟩
theorem join_one (w0 : World) (g g' : Nat) (u v : Int) (W : World) (hu : -268435455 ≤ u ∧ u ≤ 268435455) (hv : -268435455 ≤ v ∧ v ≤ 268435455) (hW : Below w0.heap.size w0 W)
    (hg : W.cell? ⟨g, 0, none⟩ = some (.int .i64 u)) (hg' : W.cell? ⟨g', 0, none⟩ = some (.int .i64 v)) :
    Calls Try.prog 7 #[.slice (some ⟨g, 0, none⟩) 1 1, .slice (some ⟨g', 0, none⟩) 1 1] W (One (kp (u + v)) (kp (u - v)) w0) := by
  refine (join_lit _ _ 1 1 1 _ [u] [v] W (rd_one hg) (rd_one hg') (Nat.le_refl _) (one_ok hu hv) [kp (u + v)] [kp (u - v)] rfl rfl).mono ?_
  rintro e w' ⟨A1, c1, A2, c2, rfl, h1, h2, _, h4⟩
  obtain ⟨b, rfl, hc⟩ := own_one h1
  obtain ⟨b', rfl, hc'⟩ := own_one h2
  exact ⟨b, c1, b', c2, rfl, hc, hc', below_ hW h4⟩
theorem below_alloc2 {w W : World} (h : Below w.heap.size w W) (o : Obj) : Below w.heap.size w (W.alloc o) := h.alloc h.size o
/-- Sides turned over. -/
theorem sides (u v : Int) (hu : -268435455 ≤ u ∧ u ≤ 268435455) (hv : -268435455 ≤ v ∧ v ≤ 268435455) : kp (rnd (u - v)) + kp (rnd (v - u)) = 0 ∨ kp (rnd (u - v)) + kp (rnd (v - u)) = 1 := by
  rw [(mid_in hu hv).2, (mid_in hv hu).2]
  omega
theorem err_symm {l r : List Int} : errM l r = errM r l := by
  have e : (okL l = true ∧ okL r = true) ↔ (okL r = true ∧ okL l = true) := And.comm
  unfold errM
  by_cases h : l.length = r.length
  · simp only [h, e]
  · have h1 : l.length ≠ r.length ∨ 256 < l.length := .inl h
    have h2 : r.length ≠ l.length ∨ 256 < r.length := .inl fun k => h k.symm
    rw [if_pos h1, if_pos h2]
end Go.Proofs.Ytboaamhffphaiaa
