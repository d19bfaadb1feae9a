/- The contracts of the statements' helpers: bits and alive. -/
import Derived.Test.YteodhfgnjolcjaaWalks
namespace Go.Proofs.Yteodhfgnjolcjaa
open Go.RowKit

theorem info5 : (Try.prog.info? 5).map (fun i => (i.zero, i.size, i.bytes)) = some (some (.int .u8 0), 1, 1) := by kernel_rfl

/-- The bits of bytes: whether they are odd. -/
def par (l : List Int) : List Int := l.map fun x => x % 2
theorem par_length (l : List Int) : (par l).length = l.length := by simp [par]
theorem par_range (l : List Int) : ∀ x ∈ par l, 0 ≤ x ∧ x ≤ 1 := by
  intro x hx
  simp only [par, List.mem_map] at hx
  obtain ⟨y, _, rfl⟩ := hx
  omega

/-- What a call hands back: a slice of its own, n numbers of kind uint8. -/
def Made (n : Nat) (l : List Int) (w : World) (e : Ending) (w' : World) : Prop :=
  ∃ A c, e = .returned (.slice A n c) ∧ w'.ownsRow w.heap.size 5 1 (.slice A n c) n (nums .u8 l) ∧ Below w.heap.size w w'

set_option maxHeartbeats 1000000 in
theorem bits_any (A : Option Addr) (n c B : Nat) (l : List Int) (w : World) (hr : Rd w B .u8 A n l) (hB : B ≤ w.heap.size) (hl : ∀ x ∈ l, 0 ≤ x ∧ x ≤ 255) (hb : n ≤ 20000) :
    Calls Try.prog 14 #[.slice A n c] w (Made n (par l) w) := by
  have Hlen := Lib.hid hr.len
  go_enter Try.func14, Try.ntmps14
  go_wp2
  go_loopw [3, 4] (fun v i wr => ∃ k : Nat, k ≤ n ∧ i = .int .i64 k ∧ wr.ownsRow w.heap.size 5 1 v (par (l.take k)).length (nums .u8 (par (l.take k))) ∧ Below w.heap.size w wr) (fun _ i _ => n - (intOf i).toNat)
  case atStart => exact ⟨0, Nat.zero_le _, rfl, World.ownsRow_nil _ _ _ _, Below.refl _ _⟩
  case round =>
    obtain ⟨k, hk, rfl, hown, hbl⟩ := hrel
    by_cases hlt : k < n
    · obtain ⟨ad, rfl, hab, hcell⟩ := (hr.below (hbl.mono hB)).at_ hlt
      have hx : 0 ≤ l.getD k 0 ∧ l.getD k 0 ≤ 255 := by
        rw [List.getD_eq_getElem?_getD, List.getElem?_eq_getElem (by rw [Hlen.out]; exact hlt)]
        exact hl _ (List.getElem_mem _)
      have HN := Lib.hid (show par (l.take (k + 1)) = par (l.take k) ++ [l.getD k 0 % 2] by rw [take_snoc l k (by rw [Hlen.out]; exact hlt)]; simp [par])
      have HL := Lib.hid (show (par (l.take k)).length = k by rw [par_length, List.length_take, Hlen.out]; omega)
      generalize l.getD k 0 = x at *
      obtain ⟨hx0, hx1⟩ := hx
      generalize par (l.take k) = y at *
      go_wp2_with (at_builtin; refine append_num w.heap.size rfl (.tmp 11) (.tmp 17) 25 5 .u8 1 rfl Try.underlying25 info5 (by omega) _ y (x % 2) rfl rfl hown hbl hbl.size (by rw [HL.out]; omega) ?_; intro v1 w1 hown1 hbl1 _ _)
      go_roundw
      case rel => exact ⟨k + 1, by omega, by go_num, by rw [HN.out]; exact hown1, hbl1⟩
      case measure => simp [intOf]; omega
    · have HT := Lib.hid (show l.take k = l by rw [List.take_of_length_le]; rw [Hlen.out]; omega)
      have HL := Lib.hid (show (par l).length = n by rw [par_length, Hlen.out])
      go_wp2
      go_ret
      rw [HT.out, HL.out] at hown
      obtain ⟨A', c', hv⟩ := own_slice hown
      subst hv
      exact ⟨A', c', rfl, hown, hbl⟩

theorem Rd.lit (W : World) (cs : Array Value) (t : TypeId) (k : IntKind) (xs : List Int) (n : Nat) (h : cs.toList = nums k xs) (hn : xs.length = n) (hm : n ≤ 9223372036854775807) :
    Rd (W.alloc (.cells cs t)) (W.alloc (.cells cs t)).heap.size k (some ⟨W.heap.size, 0, none⟩) n xs := by
  refine ⟨hn, hm, fun h0 => ⟨_, rfl, by simp, fun j hj => ?_⟩⟩
  have ha : (⟨W.heap.size, 0, none⟩ : Addr).add j = ⟨W.heap.size, j, none⟩ := by unfold Addr.add; split <;> simp_all
  rw [ha, cell_of_row _ _ _ cs t (0, 0) (heap_alloc_new W _), ← Array.getElem?_toList, h]
  exact nums_get k xs j (by omega)

theorem two_eq {a b a' b' : Int} {w : World} (h1 : a = a') (h2 : b = b') : Two a b w = Two a' b' w := by rw [h1, h2]
theorem of_lit (A : Option Addr) (n c B : Nat) (l : List Int) (w : World) (hr : Rd w B .u8 A n l) (hB : B ≤ w.heap.size) (hl : ∀ x ∈ l, 0 ≤ x ∧ x ≤ 255) (x e : Int) (h1 : ovr 65535 l = x) (h2 : ovE 65535 l = e) :
    Calls Try.prog 10 #[.slice A n c] w (Two x e w) := by
  have h := of_any A n c B l w hr hB hl
  rwa [h1, h2] at h
theorem over_lit (s : Int) (A : Option Addr) (n c B : Nat) (l : List Int) (w : World) (hr : Rd w B .u8 A n l) (hB : B ≤ w.heap.size) (hl : ∀ x ∈ l, 0 ≤ x ∧ x ≤ 255) (x e : Int) (h1 : ovr s l = x) (h2 : ovE s l = e) :
    Calls Try.prog 9 #[.int .i64 s, .slice A n c] w (Two x e w) := by
  have h := over_any s A n c B l w hr hB hl
  rwa [h1, h2] at h

set_option maxHeartbeats 1000000 in
theorem alive_any (w : World) : Calls Try.prog 11 #[] w fun e w' => e = .returned (.bool true) ∧ Below w.heap.size w w' := by
  go_enter Try.func11, Try.ntmps11
  go_wp2_with fail
  refine (of_lit none 0 0 w.heap.size [] _ (Rd.nil _ _ _ _) (Nat.le_refl _) (by simp) 65535 0 (by decide +kernel) (by decide +kernel)).mono ?_
  rintro e w1 ⟨rfl, hb1⟩
  go_wp2_with fail
  refine (of_lit (some ⟨w1.heap.size, 0, none⟩) 1 1 _ [1] _ (Rd.lit w1 _ 5 .u8 [1] 1 rfl rfl (by omega)) (Nat.le_refl _) (by decide) 65534 0 (by decide +kernel) (by decide +kernel)).mono ?_
  rintro e w2 ⟨rfl, hb2⟩
  go_wp2_with fail
  refine (of_lit (some ⟨w2.heap.size, 0, none⟩) 16 16 _ [1, 1, 1, 1, 1, 1, 1, 1, 1, 1, 1, 1, 1, 1, 1, 1] _ (Rd.lit w2 _ 5 .u8 [1, 1, 1, 1, 1, 1, 1, 1, 1, 1, 1, 1, 1, 1, 1, 1] 16 rfl rfl (by omega)) (Nat.le_refl _) (by decide) 0 0 (by decide +kernel) (by decide +kernel)).mono ?_
  rintro e w3 ⟨rfl, hb3⟩
  go_wp2_with fail
  go_ret
  refine ⟨rfl, ?_⟩
  have k2 : Below w1.heap.size w1 w2 := ((Below.refl _ _).alloc (Nat.le_refl _) _).trans (hb2.mono (by simp))
  have k3 : Below w2.heap.size w2 w3 := ((Below.refl _ _).alloc (Nat.le_refl _) _).trans (hb3.mono (by simp))
  exact below_ (below_ hb1 k2) k3
end Go.Proofs.Yteodhfgnjolcjaa
