/- The contracts of the small functions of mid: what is no line, ContainsFunc, the two sums, the closures, Round; and of Same. -/
import Derived.Test.YtboaamhffphaiaaRows
import Derived.Test.YtboaamhffphaiaaAppend
import Derived.Deep.QuietTactic
import Derived.BigQuiet
namespace Go.Proofs.Ytboaamhffphaiaa
open Go.RowKit

theorem info3 : (Try.prog.info? 3).map (fun i => (i.zero, i.size, i.bytes)) = some (some (.int .i64 0), 1, 8) := by kernel_rfl

theorem getD_mem {l : List Int} {j : Nat} (h : j < l.length) : l.getD j 0 ∈ l := by
  rw [List.getD_eq_getElem?_getD, List.getElem?_eq_getElem h]
  exact List.getElem_mem _
theorem take_snoc (l : List Int) (k : Nat) (h : k < l.length) : l.take (k + 1) = l.take k ++ [l.getD k 0] := by
  rw [List.take_add_one, List.getElem?_eq_getElem h, List.getD_eq_getElem?_getD, List.getElem?_eq_getElem h]; rfl

/-- Is a number a line? -/
def lineB (x : Int) : Bool := decide (-268435455 ≤ x ∧ x ≤ 268435455)
def okL (l : List Int) : Bool := l.all lineB
theorem okL_at {l : List Int} (h : okL l = true) {x : Int} (hx : x ∈ l) : -268435455 ≤ x ∧ x ≤ 268435455 := by
  have := List.all_eq_true.1 h x hx
  simpa [lineB] using this
theorem okL_snoc (l : List Int) (x : Int) : okL (l ++ [x]) = (okL l && lineB x) := by simp [okL]

/-! ### What is no line; ContainsFunc -/
theorem odd_any (x : Int) (w : World) : Calls Try.prog 21 #[.int .i64 x] w fun e w' => e = .returned (.bool (!lineB x)) ∧ w = w' := by
  by_cases h0 : x < -268435455
  · have H := Lib.hid (show true = !lineB x by simp [lineB]; omega)
    go_enter Try.func21, Try.ntmps21
    go_wp2
    go_ret
    exact ⟨congrArg (fun z => Ending.returned (.bool z)) H.out, rfl⟩
  · by_cases h1 : 268435455 < x
    · have H := Lib.hid (show true = !lineB x by simp [lineB]; omega)
      go_enter Try.func21, Try.ntmps21
      go_wp2
      go_ret
      exact ⟨congrArg (fun z => Ending.returned (.bool z)) H.out, rfl⟩
    · have H := Lib.hid (show false = !lineB x by simp [lineB]; omega)
      go_enter Try.func21, Try.ntmps21
      go_wp2
      go_ret
      exact ⟨congrArg (fun z => Ending.returned (.bool z)) H.out, rfl⟩

/-- A place, or -1 where all are lines. -/
def Place (l : List Int) (w : World) (e : Ending) (w' : World) : Prop := ∃ i : Int, e = .returned (.int .i64 i) ∧ decide (0 ≤ i) = !okL l ∧ w = w'
set_option maxHeartbeats 1000000 in
theorem index_any (A : Option Addr) (n c B : Nat) (l : List Int) (w : World) (hr : Rd w B .i64 A n l) :
    Calls Try.prog 27 #[.slice A n c, .func (.func 21) #[] #[]] w (Place l w) := by
  have hn := hr.le
  have Hlen := Lib.hid hr.len
  go_enter Try.func27, Try.ntmps27
  go_wp2
  go_loop [8] (fun i => ∃ k : Nat, k ≤ n ∧ i = .int .i64 k ∧ Hid (okL (l.take k) = true)) (fun i => n - (intOf i).toNat)
  case atStart => exact ⟨0, Nat.zero_le _, rfl, rfl⟩
  case round =>
    obtain ⟨k, hk, rfl, hq⟩ := hrel
    by_cases hlt : k < n
    · obtain ⟨ad, rfl, hab, hcell⟩ := hr.at_ hlt
      have HM := Lib.hid (getD_mem (l := l) (j := k) (by rw [Hlen.out]; exact hlt))
      have HN := Lib.hid (show okL (l.take (k + 1)) = lineB (l.getD k 0) by rw [take_snoc l k (by rw [Hlen.out]; exact hlt), okL_snoc, hq.out, Bool.true_and])
      generalize l.getD k 0 = x at *
      cases hx : lineB x
      · have HX := Lib.hid (show okL l = false by
          rw [okL, List.all_eq_false]
          exact ⟨x, HM.out, by rw [hx]; simp⟩)
        have ho : ∀ W : World, Calls Try.prog 21 #[.int .i64 x] W fun e w' => e = .returned (.bool true) ∧ W = w' := fun W => by have := odd_any x W; rw [hx] at this; exact this
        have HO := Lib.hid ho
        clear ho hx
        go_wp2_with (go_at_call 21; refine (HO.out _).mono ?_; rintro e w1 ⟨rfl, rfl⟩)
        go_ret
        exact ⟨k, rfl, by rw [HX.out]; simp, rfl⟩
      · have HK := Lib.hid (show okL (l.take (k + 1)) = true by rw [HN.out]; exact hx)
        have ho : ∀ W : World, Calls Try.prog 21 #[.int .i64 x] W fun e w' => e = .returned (.bool false) ∧ W = w' := fun W => by have := odd_any x W; rw [hx] at this; exact this
        have HO := Lib.hid ho
        clear ho hx
        go_wp2_with (go_at_call 21; refine (HO.out _).mono ?_; rintro e w1 ⟨rfl, rfl⟩)
        go_round
        case rel => exact ⟨k + 1, by omega, by go_num, HK⟩
        case measure => simp [intOf]; omega
    · have HT := Lib.hid (show okL l = true by rw [← hq.out, List.take_of_length_le]; rw [Hlen.out]; omega)
      go_wp2
      go_ret
      exact ⟨-1, rfl, by rw [HT.out]; simp, rfl⟩
theorem contains_any (A : Option Addr) (n c B : Nat) (l : List Int) (w : World) (hr : Rd w B .i64 A n l) (b : Bool) (hb : b = !okL l) :
    Calls Try.prog 20 #[.slice A n c, .func (.func 21) #[] #[]] w fun e w' => e = .returned (.bool b) ∧ w = w' := by
  have HB := Lib.hid hb
  clear hb
  go_enter Try.func20, Try.ntmps20
  go_wp2_with fail
  refine (index_any A n c B l _ hr).mono ?_
  rintro e w1 ⟨i, rfl, hd, rfl⟩
  have HD := Lib.hid hd
  clear hd
  go_wp2_with fail
  go_ret
  exact ⟨congrArg (fun z => Ending.returned (.bool z)) (by rw [HB.out, ← HD.out]), rfl⟩

/-- The world is the old one, some orders having been drawn. -/
def Drawn (w w' : World) : Prop := ∃ q, w' = w.drewN q
theorem Drawn.below {w w' : World} {B : Nat} (h : Drawn w w') : Below B w w' := by
  obtain ⟨q, rfl⟩ := h
  exact below_drewN (Below.refl _ _) q

/-- Are two lists one? -/
def sameB (l m : List Int) : Bool := decide (l = m)
def Told (b : Bool) (w : World) (e : Ending) (w' : World) : Prop := e = .returned (.bool b) ∧ Drawn w w'
set_option maxHeartbeats 1000000 in
theorem same_any (A A' : Option Addr) (n c n' c' B : Nat) (l m : List Int) (w : World) (hr : Rd w B .i64 A n l) (hr' : Rd w B .i64 A' n' m) :
    Calls Try.prog 12 #[.slice A n c, .slice A' n' c'] w (Told (sameB l m) w) := by
  have hn := hr.le
  have hn' := hr'.le
  have Hlen := Lib.hid hr.len
  have Hlen' := Lib.hid hr'.len
  by_cases hnn : n = n'
  case neg =>
    have hd : ((n : Int) != (n' : Int)) = true := by simp; omega
    have HX := Lib.hid (show false = sameB l m by
      unfold sameB
      rw [eq_comm, decide_eq_false_iff_not]
      rintro rfl
      exact hnn (Hlen.out.symm.trans Hlen'.out))
    clear hnn
    go_enter Try.func12, Try.ntmps12
    go_wp2_with fail
    go_ret
    exact ⟨congrArg (fun z => Ending.returned (.bool z)) HX.out, 0, rfl⟩
  subst hnn
  go_enter Try.func12, Try.ntmps12
  go_wp2_with fail
  go_loopw [5] (fun i wr => ∃ k : Nat, k ≤ n ∧ i = .int .i64 k ∧ Hid (l.take k = m.take k) ∧ Drawn w wr) (fun i _ => n - (intOf i).toNat)
  case atStart => exact ⟨0, Nat.zero_le _, rfl, rfl, 0, rfl⟩
  case round =>
    obtain ⟨k, hk, rfl, hq, q, rfl⟩ := hrel
    by_cases hlt : k < n
    · obtain ⟨ad, rfl, _, hcell⟩ := hr.at_ hlt
      obtain ⟨ad', rfl, _, hcell'⟩ := hr'.at_ hlt
      have hki : (k : Int) < (n : Int) := by omega
      have hk0 : (0 : Int) ≤ (k : Int) := by omega
      have HN := Lib.hid (show l.take (k + 1) = l.take k ++ [l.getD k 0] from take_snoc l k (by rw [Hlen.out]; exact hlt))
      have HN' := Lib.hid (show m.take (k + 1) = m.take k ++ [m.getD k 0] from take_snoc m k (by rw [Hlen'.out]; exact hlt))
      by_cases hz : l.getD k 0 = m.getD k 0
      · have HX := Lib.hid (show l.take (k + 1) = m.take (k + 1) by rw [HN.out, HN'.out, hq.out, hz])
        rw [hz] at hcell
        clear hz
        generalize m.getD k 0 = z at *
        go_wp2_with fail
        go_quiet (fail)
        go_wp2_with fail
        go_roundw
        case rel => exact ⟨k + 1, by omega, by go_num, HX, _, rfl⟩
        case measure => simp [intOf]; omega
      · have hd : (l.getD k 0 != m.getD k 0) = true := by simpa using hz
        have HX := Lib.hid (show false = sameB l m by
          unfold sameB
          rw [eq_comm, decide_eq_false_iff_not]
          rintro rfl
          exact hz rfl)
        clear hz
        generalize l.getD k 0 = z at *
        generalize m.getD k 0 = z' at *
        go_wp2_with fail
        go_quiet (fail)
        go_wp2_with fail
        go_ret
        exact ⟨congrArg (fun z => Ending.returned (.bool z)) HX.out, _, World.drewN_drewN _ _ _⟩
    · have HT := Lib.hid (show true = sameB l m by
        have h := hq.out
        rw [List.take_of_length_le (by rw [Hlen.out]; omega), List.take_of_length_le (by rw [Hlen'.out]; omega)] at h
        unfold sameB
        rw [eq_comm, decide_eq_true_eq]
        exact h)
      go_wp2_with fail
      go_ret
      exact ⟨congrArg (fun z => Ending.returned (.bool z)) HT.out, _, rfl⟩


/-! ### The sums, and what is kept -/
theorem plus_any (x y : Int) (w : World) (hx : -268435455 ≤ x ∧ x ≤ 268435455) (hy : -268435455 ≤ y ∧ y ≤ 268435455) : Calls Try.prog 14 #[.int .i64 x, .int .i64 y] w fun e w' => e = .returned (.int .i64 (x + y)) ∧ w = w' := by
  obtain ⟨hx0, hx1⟩ := hx
  obtain ⟨hy0, hy1⟩ := hy
  go_enter Try.func14, Try.ntmps14
  go_wp2
  go_ret
  exact ⟨rfl, rfl⟩
theorem minus_any (x y : Int) (w : World) (hx : -268435455 ≤ x ∧ x ≤ 268435455) (hy : -268435455 ≤ y ∧ y ≤ 268435455) : Calls Try.prog 15 #[.int .i64 x, .int .i64 y] w fun e w' => e = .returned (.int .i64 (x - y)) ∧ w = w' := by
  obtain ⟨hx0, hx1⟩ := hx
  obtain ⟨hy0, hy1⟩ := hy
  go_enter Try.func15, Try.ntmps15
  go_wp2
  go_ret
  exact ⟨rfl, rfl⟩
/-- A number from -MaxLine to MaxLine. -/
def kp (n : Int) : Int := if n < -268435455 then -268435455 else if 268435455 < n then 268435455 else n
theorem kp_range (n : Int) : -268435455 ≤ kp n ∧ kp n ≤ 268435455 := by
  unfold kp
  split
  · omega
  · split <;> omega
theorem keep_any (n : Int) (w : World) : Calls Try.prog 22 #[.int .i64 n] w fun e w' => e = .returned (.int .i64 (kp n)) ∧ w = w' := by
  rcases (show n < -268435455 ∨ 268435455 < n ∨ (-268435455 ≤ n ∧ n ≤ 268435455) by omega) with h | h | ⟨h, h'⟩
  · have HX := Lib.hid (show -268435455 = kp n by unfold kp; rw [if_pos h])
    go_enter Try.func22, Try.ntmps22
    go_wp2
    go_ret
    exact ⟨congrArg (fun z => Ending.returned (.int .i64 z)) HX.out, rfl⟩
  · have HX := Lib.hid (show 268435455 = kp n by unfold kp; rw [if_neg (by omega), if_pos h])
    go_enter Try.func22, Try.ntmps22
    go_wp2
    go_ret
    exact ⟨congrArg (fun z => Ending.returned (.int .i64 z)) HX.out, rfl⟩
  · have HX := Lib.hid (show n = kp n by unfold kp; rw [if_neg (by omega), if_neg (by omega)])
    go_enter Try.func22, Try.ntmps22
    go_wp2
    go_ret
    exact ⟨congrArg (fun z => Ending.returned (.int .i64 z)) HX.out, rfl⟩
theorem rkept_any (n : Int) (w : World) : Calls Try.prog 25 #[.int .i64 n] w fun e w' => e = .returned (.int .i64 (kp n)) ∧ w' = w := by
  rcases (show n < -268435455 ∨ 268435455 < n ∨ (-268435455 ≤ n ∧ n ≤ 268435455) by omega) with h | h | ⟨h, h'⟩
  · have HX := Lib.hid (show -268435455 = kp n by unfold kp; rw [if_pos h])
    go_enter Try.func25, Try.ntmps25
    go_wp2
    go_ret
    exact ⟨congrArg (fun z => Ending.returned (.int .i64 z)) HX.out, rfl⟩
  · have HX := Lib.hid (show 268435455 = kp n by unfold kp; rw [if_neg (by omega), if_pos h])
    go_enter Try.func25, Try.ntmps25
    go_wp2
    go_ret
    exact ⟨congrArg (fun z => Ending.returned (.int .i64 z)) HX.out, rfl⟩
  · have HX := Lib.hid (show n = kp n by unfold kp; rw [if_neg (by omega), if_neg (by omega)])
    go_enter Try.func25, Try.ntmps25
    go_wp2
    go_ret
    exact ⟨congrArg (fun z => Ending.returned (.int .i64 z)) HX.out, rfl⟩

/-! ### Rounded off by one bit -/
def rnd (n : Int) : Int := (n + 1) / 2
theorem and_one (n : Int) : bits .and .i64 n 1 = n % 2 := by
  have e : (BitVec.ofInt IntKind.i64.bits n &&& BitVec.ofInt IntKind.i64.bits 1).toNat = (n % 2).toNat := by
    rw [BitVec.toNat_and]
    have h1 : (BitVec.ofInt IntKind.i64.bits 1).toNat = 1 := rfl
    rw [h1, Nat.and_one_is_mod, BitVec.toNat_ofInt]
    have h2 : ((2 ^ IntKind.i64.bits : Nat) : Int) = 18446744073709551616 := rfl
    rw [h2]
    omega
  simp only [bits]
  rw [e, IntKind.wrap_i64]
  omega
set_option maxHeartbeats 1000000 in
theorem round_any (n : Int) (w : World) (h0 : -1073741824 ≤ n) (h1 : n ≤ 1073741824) :
    Calls Try.prog 24 #[.int .i64 n, .int .i64 1] w fun e w' => e = .returned (.tuple #[.int .i64 (rnd n), .int .i64 0]) ∧ Drawn w w' := by
  have HX := Lib.hid (show n / 2 + n % 2 = rnd n by unfold rnd; omega)
  have q1 := and_one n
  have q2 : IntKind.i64.wrap (n / 2 + n % 2) = n / 2 + n % 2 := IntWalk.i64_in _ (by omega)
  go_enter Try.func24, Try.ntmps24
  go_wp2_with fail
  go_quiet (fail)
  go_wp2_with fail
  go_ret2
  exact ⟨congrArg (fun z => Ending.returned (.tuple #[.int .i64 z, .int .i64 0])) HX.out, _, rfl⟩
theorem rdown_any (n : Int) (w : World) (h0 : -1073741824 ≤ n) (h1 : n ≤ 1073741824) : Calls Try.prog 26 #[.int .i64 n, .int .i64 1] w fun e w' => e = .returned (.int .i64 (rnd n)) ∧ w' = w := by
  by_cases hd : 1 ≤ n - n / 2 * 2
  · have HX := Lib.hid (show n / 2 + 1 = rnd n by unfold rnd; omega)
    go_enter Try.func26, Try.ntmps26
    go_wp2_with fail
    go_ret
    exact ⟨congrArg (fun z => Ending.returned (.int .i64 z)) HX.out, rfl⟩
  · have HX := Lib.hid (show n / 2 = rnd n by unfold rnd; omega)
    go_enter Try.func26, Try.ntmps26
    go_wp2_with fail
    go_ret
    exact ⟨congrArg (fun z => Ending.returned (.int .i64 z)) HX.out, rfl⟩

/-! ### halved -/
theorem halved_any (g : Nat) (w : World) : Calls Try.prog 16 #[.func (.func g) #[] #[]] w fun e w' => e = .returned (.func (.func 23) #[] #[.pointer (some ⟨w.heap.size, 0, none⟩)]) ∧ w' = w.alloc (.cells #[.func (.func g) #[] #[]] 32) := by
  go_enter Try.func16, Try.ntmps16
  go_wp2
  go_ret
  exact ⟨rfl, rfl⟩
def HalfOf (v : Int) (w : World) (e : Ending) (w' : World) : Prop := e = .returned (.int .i64 (rnd v)) ∧ Drawn w w'
theorem half_plus (x y : Int) (b : Nat) (w : World) (hx : -268435455 ≤ x ∧ x ≤ 268435455) (hy : -268435455 ≤ y ∧ y ≤ 268435455) (hc : w.cell? ⟨b, 0, none⟩ = some (.func (.func 14) #[] #[])) :
    Calls Try.prog 23 #[.int .i64 x, .int .i64 y, .pointer (some ⟨b, 0, none⟩)] w (HalfOf (x + y) w) := by
  go_enter Try.func23, Try.ntmps23
  go_wp2_with fail
  refine (plus_any x y _ hx hy).mono ?_
  rintro e w1 ⟨rfl, rfl⟩
  go_wp2_with fail
  refine (round_any (x + y) _ (by omega) (by omega)).mono ?_
  rintro e w1 ⟨rfl, q, rfl⟩
  go_wp2_with fail
  go_ret
  exact ⟨rfl, q, rfl⟩
theorem half_minus (x y : Int) (b : Nat) (w : World) (hx : -268435455 ≤ x ∧ x ≤ 268435455) (hy : -268435455 ≤ y ∧ y ≤ 268435455) (hc : w.cell? ⟨b, 0, none⟩ = some (.func (.func 15) #[] #[])) :
    Calls Try.prog 23 #[.int .i64 x, .int .i64 y, .pointer (some ⟨b, 0, none⟩)] w (HalfOf (x - y) w) := by
  go_enter Try.func23, Try.ntmps23
  go_wp2_with fail
  refine (minus_any x y _ hx hy).mono ?_
  rintro e w1 ⟨rfl, rfl⟩
  go_wp2_with fail
  refine (round_any (x - y) _ (by omega) (by omega)).mono ?_
  rintro e w1 ⟨rfl, q, rfl⟩
  go_wp2_with fail
  go_ret
  exact ⟨rfl, q, rfl⟩
end Go.Proofs.Ytboaamhffphaiaa
