/- The plain law of middle and side: what is split, and joined, is as it was. No program stands here. -/
import Derived.Test.YtboaamhffphaiaaHelp
namespace Go.Proofs.Ytboaamhffphaiaa

theorem splitM_length (l r : List Int) : (splitM l r).length = l.length := pl_length _ _
theorem splitS_length (l r : List Int) : (splitS l r).length = l.length := pl_length _ _
theorem joinL_length (l r : List Int) : (joinL l r).length = l.length := pl_length _ _
theorem joinR_length (l r : List Int) : (joinR l r).length = l.length := pl_length _ _
theorem splitM_at {l r : List Int} {k : Nat} (h : k < l.length) : (splitM l r).getD k 0 = kp (rnd (l.getD k 0 + r.getD k 0)) := pl_getD _ _ _ h
theorem splitS_at {l r : List Int} {k : Nat} (h : k < l.length) : (splitS l r).getD k 0 = kp (rnd (l.getD k 0 - r.getD k 0)) := pl_getD _ _ _ h
theorem joinL_at {l r : List Int} {k : Nat} (h : k < l.length) : (joinL l r).getD k 0 = kp (l.getD k 0 + r.getD k 0) := pl_getD _ _ _ h
theorem joinR_at {l r : List Int} {k : Nat} (h : k < l.length) : (joinR l r).getD k 0 = kp (l.getD k 0 - r.getD k 0) := pl_getD _ _ _ h
theorem pl_ok (V : Nat → Int) (n : Nat) (h : ∀ j, ∃ x, V j = kp x) : okL (pl V n) = true := by
  rw [okL, List.all_eq_true]
  intro y hy
  simp only [pl, List.mem_map] at hy
  obtain ⟨j, _, rfl⟩ := hy
  obtain ⟨x, hx⟩ := h j
  have := kp_range x
  rw [hx]
  simpa [lineB] using this
theorem err_split {l r : List Int} (he : errM l r = 0) : errM (splitM l r) (splitS l r) = 0 := by
  obtain ⟨_, h2, _, _⟩ := err_zero he
  unfold errM
  rw [if_neg (by rw [splitM_length, splitS_length]; omega), if_pos ⟨pl_ok _ _ fun j => ⟨_, rfl⟩, pl_ok _ _ fun j => ⟨_, rfl⟩⟩]
theorem err_join {l r : List Int} (he : errM l r = 0) : errM (joinL l r) (joinR l r) = 0 := by
  obtain ⟨_, h2, _, _⟩ := err_zero he
  unfold errM
  rw [if_neg (by rw [joinL_length, joinR_length]; omega), if_pos ⟨pl_ok _ _ fun j => ⟨_, rfl⟩, pl_ok _ _ fun j => ⟨_, rfl⟩⟩]
theorem kp_in {n : Int} (h : -268435455 ≤ n ∧ n ≤ 268435455) : kp n = n := by
  unfold kp
  rw [if_neg (by omega), if_neg (by omega)]
theorem mid_in {u v : Int} (hu : -268435455 ≤ u ∧ u ≤ 268435455) (hv : -268435455 ≤ v ∧ v ≤ 268435455) : kp (rnd (u + v)) = (u + v + 1) / 2 ∧ kp (rnd (u - v)) = (u - v + 1) / 2 := by
  unfold rnd
  exact ⟨kp_in (by omega), kp_in (by omega)⟩
/-- What is split, and joined. -/
theorem back_r {u v : Int} (hu : -268435455 ≤ u ∧ u ≤ 268435455) (hv : -268435455 ≤ v ∧ v ≤ 268435455) : kp (kp (rnd (u + v)) - kp (rnd (u - v))) = v := by
  rw [(mid_in hu hv).1, (mid_in hu hv).2]
  have e : (u + v + 1) / 2 - (u - v + 1) / 2 = v := by omega
  rw [e]
  exact kp_in hv
theorem back_l {u v : Int} (hu : -268435455 ≤ u ∧ u ≤ 268435455) (hv : -268435455 ≤ v ∧ v ≤ 268435455) : kp (kp (rnd (u + v)) + kp (rnd (u - v))) = if 268435455 < u + (u + v) % 2 then 268435455 else u + (u + v) % 2 := by
  rw [(mid_in hu hv).1, (mid_in hu hv).2]
  have e : (u + v + 1) / 2 + (u - v + 1) / 2 = u + (u + v) % 2 := by omega
  rw [e]
  unfold kp
  rw [if_neg (by omega)]
/-- What is joined, and is not kept, and split. -/
theorem forth {u v : Int} (hu : -268435455 ≤ u ∧ u ≤ 268435455) (hv : -268435455 ≤ v ∧ v ≤ 268435455) (h : -268435455 ≤ u + v ∧ u + v ≤ 268435455 ∧ -268435455 ≤ u - v ∧ u - v ≤ 268435455) :
    kp (rnd (kp (u + v) + kp (u - v))) = u ∧ kp (rnd (kp (u + v) - kp (u - v))) = v := by
  rw [kp_in (n := u + v) (by omega), kp_in (n := u - v) (by omega)]
  unfold rnd
  have e1 : (u + v + (u - v) + 1) / 2 = u := by omega
  have e2 : (u + v - (u - v) + 1) / 2 = v := by omega
  rw [e1, e2]
  exact ⟨kp_in hu, kp_in hv⟩
theorem same_mid {u : Int} (hu : -268435455 ≤ u ∧ u ≤ 268435455) : kp (rnd (u + u)) = u ∧ kp (rnd (u - u)) = 0 := by
  unfold rnd
  have e1 : (u + u + 1) / 2 = u := by omega
  have e2 : (u - u + 1) / 2 = 0 := by omega
  rw [e1, e2]
  exact ⟨kp_in hu, by decide⟩
end Go.Proofs.Ytboaamhffphaiaa
