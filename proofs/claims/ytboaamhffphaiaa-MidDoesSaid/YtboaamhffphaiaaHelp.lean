/- The statements' helper: alive. -/
import Derived.Test.YtboaamhffphaiaaEach
namespace Go.Proofs.Ytboaamhffphaiaa
open Go.RowKit

theorem Rd.lit (W : World) (cs : Array Value) (t : TypeId) (k : IntKind) (xs : List Int) (n : Nat) (h : cs.toList = nums k xs) (hn : xs.length = n) (hm : n ≤ 9223372036854775807) :
    Rd (W.alloc (.cells cs t)) (W.alloc (.cells cs t)).heap.size k (some ⟨W.heap.size, 0, none⟩) n xs := by
  refine ⟨hn, hm, fun h0 => ⟨_, rfl, by simp, fun j hj => ?_⟩⟩
  have ha : (⟨W.heap.size, 0, none⟩ : Addr).add j = ⟨W.heap.size, j, none⟩ := by unfold Addr.add; split <;> simp_all
  rw [ha, cell_of_row _ _ _ cs t (0, 0) (heap_alloc_new W _), ← Array.getElem?_toList, h]
  exact nums_get k xs j (by omega)
theorem Rd.lit2 (W : World) (cs : Array Value) (t : TypeId) (o : Obj) (k : IntKind) (xs : List Int) (n : Nat) (h : cs.toList = nums k xs) (hn : xs.length = n) (hm : n ≤ 9223372036854775807) :
    Rd ((W.alloc (.cells cs t)).alloc o) ((W.alloc (.cells cs t)).alloc o).heap.size k (some ⟨W.heap.size, 0, none⟩) n xs :=
  have hb : Below (W.alloc (.cells cs t)).heap.size (W.alloc (.cells cs t)) ((W.alloc (.cells cs t)).alloc o) := (Below.refl _ _).alloc (Nat.le_refl _) _
  ((Rd.lit W cs t k xs n h hn hm).below hb).more hb.size
theorem below_alloc (w : World) (o : Obj) : Below w.heap.size w (w.alloc o) := (Below.refl _ _).alloc (Nat.le_refl _) _

theorem split_lit (A A' : Option Addr) (n c c' B : Nat) (l r : List Int) (w : World) (hr : Rd w B .i64 A n l) (hr' : Rd w B .i64 A' n r) (hB : B ≤ w.heap.size) (he : errM l r = 0) (p q : List Int) (hp : splitM l r = p) (hq : splitS l r = q) :
    Calls Try.prog 8 #[.slice A n c, .slice A' n c'] w (Pair n p q 0 w) := by
  have h := split_ok A A' n c c' B l r w hr hr' hB he
  rwa [hp, hq] at h
theorem join_lit (A A' : Option Addr) (n c c' B : Nat) (l r : List Int) (w : World) (hr : Rd w B .i64 A n l) (hr' : Rd w B .i64 A' n r) (hB : B ≤ w.heap.size) (he : errM l r = 0) (p q : List Int) (hp : joinL l r = p) (hq : joinR l r = q) :
    Calls Try.prog 7 #[.slice A n c, .slice A' n c'] w (Pair n p q 0 w) := by
  have h := join_ok A A' n c c' B l r w hr hr' hB he
  rwa [hp, hq] at h
/-- The one cell of a row of one. -/
theorem own_one {w : World} {base c : Nat} {A : Option Addr} {x : Int} (h : w.ownsRow base 3 1 (.slice A 1 c) 1 (nums .i64 [x])) : ∃ g, A = some ⟨g, 0, none⟩ ∧ w.cell? ⟨g, 0, none⟩ = some (.int .i64 x) := by
  obtain ⟨g, cap, hv, _, _⟩ := h.form (by omega)
  obtain rfl : A = some ⟨g, 0, none⟩ := by injection hv
  exact ⟨g, rfl, by rw [h.cellAt 0 (by omega)]; rfl⟩

set_option maxHeartbeats 1000000 in
theorem alive_any (w : World) : Calls Try.prog 9 #[] w fun e w' => e = .returned (.bool true) ∧ Below w.heap.size w w' := by
  go_enter Try.func9, Try.ntmps9
  go_wp2_with fail
  have hb := two_below w (.cells #[.int .i64 4] 3) (.cells #[.int .i64 2] 3)
  refine (split_lit (some ⟨w.heap.size, 0, none⟩) (some ⟨w.heap.size + 1, 0, none⟩) 1 1 1 _ [4] [2] _ (Rd.lit2 w #[.int .i64 4] 3 _ .i64 [4] 1 rfl rfl (by omega)) (by have h := Rd.lit (w.alloc (.cells #[.int .i64 4] 3)) #[.int .i64 2] 3 .i64 [2] 1 rfl rfl (by omega); simpa using h) (Nat.le_refl _) (by decide) [3] [1] (by decide) (by decide)).mono ?_
  rintro e w1 hpair
  obtain ⟨A1, c1, A2, c2, rfl, h1, h2, h3, h4⟩ := pair_later hb hpair
  obtain ⟨g, rfl, hc⟩ := own_one h1
  obtain ⟨g', rfl, hc'⟩ := own_one h2
  clear h1 h2 h3 hpair
  go_wp2_with fail
  go_ret
  exact ⟨rfl, h4⟩
end Go.Proofs.Ytboaamhffphaiaa
