/- The contracts of lose.Seq, of the library's ContainsFunc at the closure that tells what is no line, and of the statements' small helpers. -/
import Derived.Test.YtoifkgldnhnamaaRows
import Derived.Test.YtoifkgldnhnamaaAppend
import Derived.Deep.QuietTactic
import Derived.BigQuiet
namespace Go.Proofs.Ytoifkgldnhnamaa
open Go.RowKit

theorem info3 : (Try.prog.info? 3).map (fun i => (i.zero, i.size, i.bytes)) = some (some (.int .i64 0), 1, 8) := by kernel_rfl

theorem getD_mem {l : List Int} {j : Nat} (h : j < l.length) : l.getD j 0 ∈ l := by
  rw [List.getD_eq_getElem?_getD, List.getElem?_eq_getElem h]
  exact List.getElem_mem _
theorem take_snoc (l : List Int) (k : Nat) (h : k < l.length) : l.take (k + 1) = l.take k ++ [l.getD k 0] := by
  rw [List.take_add_one, List.getElem?_eq_getElem h, List.getD_eq_getElem?_getD, List.getElem?_eq_getElem h]; rfl

/-- Is a number a line? -/
def lineB (x : Int) : Bool := decide (-268435455 ≤ x ∧ x ≤ 268435455)
def okL (l : List Int) : Bool := l.all lineB
theorem okL_at {l : List Int} (h : okL l = true) {x : Int} (hx : x ∈ l) : -268435455 ≤ x ∧ x ≤ 268435455 := by
  have := List.all_eq_true.1 h x hx
  simpa [lineB] using this
theorem okL_snoc (l : List Int) (x : Int) : okL (l ++ [x]) = (okL l && lineB x) := by simp [okL]

/-! ### Seq -/
def seqA (x : Int) : Int := if x = 1 ∨ x = 2 then 3 else 0
def seqE (x : Int) : Int := if x ≤ 3 then 0 else 2
theorem ret_seq {a b a' b' : Int} (h1 : a' = a) (h2 : b' = b) : Ending.returned (.tuple #[.int .u8 a, .int .i64 b]) = .returned (.tuple #[.int .u8 a', .int .i64 b']) := by rw [h1, h2]
theorem seq_any (x : Int) (w : World) (h0 : 0 ≤ x) (_h1 : x ≤ 255) : Calls Try.prog 8 #[.int .u8 x] w fun e w' => e = .returned (.tuple #[.int .u8 (seqA x), .int .i64 (seqE x)]) ∧ w = w' := by
  rcases (show x = 0 ∨ x = 1 ∨ x = 2 ∨ x = 3 ∨ 3 < x by omega) with rfl | rfl | rfl | rfl | h
  · go_enter Try.func8, Try.ntmps8
    go_wp2
    go_ret2
    exact ⟨rfl, rfl⟩
  · go_enter Try.func8, Try.ntmps8
    go_wp2
    go_ret2
    exact ⟨rfl, rfl⟩
  · go_enter Try.func8, Try.ntmps8
    go_wp2
    go_ret2
    exact ⟨rfl, rfl⟩
  · go_enter Try.func8, Try.ntmps8
    go_wp2
    go_ret2
    exact ⟨rfl, rfl⟩
  · have e0 : (x == 0) = false := by simp; omega
    have e1 : (x == 1) = false := by simp; omega
    have e2 : (x == 2) = false := by simp; omega
    have e3 : (x == 3) = false := by simp; omega
    have H1 := Lib.hid (show seqA x = 0 by unfold seqA; rw [if_neg (by omega)])
    have H2 := Lib.hid (show seqE x = 2 by unfold seqE; rw [if_neg (by omega)])
    go_enter Try.func8, Try.ntmps8
    go_wp2
    go_ret2
    exact ⟨ret_seq H1.out H2.out, rfl⟩
theorem rafter_any (x : Int) (w : World) (h0 : 0 ≤ x) (h1 : x ≤ 3) : Calls Try.prog 16 #[.int .u8 x] w fun e w' => e = .returned (.int .u8 (seqA x)) ∧ w = w' := by
  rcases (show x = 0 ∨ x = 1 ∨ x = 2 ∨ x = 3 by omega) with rfl | rfl | rfl | rfl
  all_goals
    go_enter Try.func16, Try.ntmps16
    go_wp2
    go_ret
    exact ⟨rfl, rfl⟩
theorem rseq_any (x : Int) (w : World) (h0 : 0 ≤ x) (_h1 : x ≤ 255) : Calls Try.prog 9 #[.int .u8 x] w fun e w' => e = .returned (.tuple #[.int .u8 (seqA x), .int .i64 (seqE x)]) ∧ w = w' := by
  by_cases h : x ≤ 3
  · have H2 := Lib.hid (show seqE x = 0 by unfold seqE; rw [if_pos h])
    go_enter Try.func9, Try.ntmps9
    go_wp2_with (go_at_call 16; refine (rafter_any x _ h0 h).mono ?_; rintro e w1 ⟨rfl, rfl⟩)
    go_ret2
    exact ⟨ret_seq rfl H2.out, rfl⟩
  · have H1 := Lib.hid (show seqA x = 0 by unfold seqA; rw [if_neg (by omega)])
    have H2 := Lib.hid (show seqE x = 2 by unfold seqE; rw [if_neg h])
    go_enter Try.func9, Try.ntmps9
    go_wp2_with fail
    go_ret2
    exact ⟨ret_seq H1.out H2.out, rfl⟩

/-! ### What is no line; ContainsFunc -/
theorem odd_any (x : Int) (w : World) : Calls Try.prog 17 #[.int .i64 x] w fun e w' => e = .returned (.bool (!lineB x)) ∧ w = w' := by
  by_cases h0 : x < -268435455
  · have H := Lib.hid (show true = !lineB x by simp [lineB]; omega)
    go_enter Try.func17, Try.ntmps17
    go_wp2
    go_ret
    exact ⟨congrArg (fun z => Ending.returned (.bool z)) H.out, rfl⟩
  · by_cases h1 : 268435455 < x
    · have H := Lib.hid (show true = !lineB x by simp [lineB]; omega)
      go_enter Try.func17, Try.ntmps17
      go_wp2
      go_ret
      exact ⟨congrArg (fun z => Ending.returned (.bool z)) H.out, rfl⟩
    · have H := Lib.hid (show false = !lineB x by simp [lineB]; omega)
      go_enter Try.func17, Try.ntmps17
      go_wp2
      go_ret
      exact ⟨congrArg (fun z => Ending.returned (.bool z)) H.out, rfl⟩

/-- A place, or -1 where all are lines. -/
def Place (l : List Int) (w : World) (e : Ending) (w' : World) : Prop := ∃ i : Int, e = .returned (.int .i64 i) ∧ decide (0 ≤ i) = !okL l ∧ w = w'
set_option maxHeartbeats 1000000 in
theorem index_any (A : Option Addr) (n c B : Nat) (l : List Int) (w : World) (hr : Rd w B .i64 A n l) :
    Calls Try.prog 24 #[.slice A n c, .func (.func 17) #[] #[]] w (Place l w) := by
  have hn := hr.le
  have Hlen := Lib.hid hr.len
  go_enter Try.func24, Try.ntmps24
  go_wp2
  go_loop [8] (fun i => ∃ k : Nat, k ≤ n ∧ i = .int .i64 k ∧ Hid (okL (l.take k) = true)) (fun i => n - (intOf i).toNat)
  case atStart => exact ⟨0, Nat.zero_le _, rfl, rfl⟩
  case round =>
    obtain ⟨k, hk, rfl, hq⟩ := hrel
    by_cases hlt : k < n
    · obtain ⟨ad, rfl, hab, hcell⟩ := hr.at_ hlt
      have HM := Lib.hid (getD_mem (l := l) (j := k) (by rw [Hlen.out]; exact hlt))
      have HN := Lib.hid (show okL (l.take (k + 1)) = lineB (l.getD k 0) by rw [take_snoc l k (by rw [Hlen.out]; exact hlt), okL_snoc, hq.out, Bool.true_and])
      generalize l.getD k 0 = x at *
      cases hx : lineB x
      · have HX := Lib.hid (show okL l = false by
          rw [okL, List.all_eq_false]
          exact ⟨x, HM.out, by rw [hx]; simp⟩)
        have ho : ∀ W : World, Calls Try.prog 17 #[.int .i64 x] W fun e w' => e = .returned (.bool true) ∧ W = w' := fun W => by have := odd_any x W; rw [hx] at this; exact this
        have HO := Lib.hid ho
        clear ho hx
        go_wp2_with (go_at_call 17; refine (HO.out _).mono ?_; rintro e w1 ⟨rfl, rfl⟩)
        go_ret
        exact ⟨k, rfl, by rw [HX.out]; simp, rfl⟩
      · have HK := Lib.hid (show okL (l.take (k + 1)) = true by rw [HN.out]; exact hx)
        have ho : ∀ W : World, Calls Try.prog 17 #[.int .i64 x] W fun e w' => e = .returned (.bool false) ∧ W = w' := fun W => by have := odd_any x W; rw [hx] at this; exact this
        have HO := Lib.hid ho
        clear ho hx
        go_wp2_with (go_at_call 17; refine (HO.out _).mono ?_; rintro e w1 ⟨rfl, rfl⟩)
        go_round
        case rel => exact ⟨k + 1, by omega, by go_num, HK⟩
        case measure => simp [intOf]; omega
    · have HT := Lib.hid (show okL l = true by rw [← hq.out, List.take_of_length_le]; rw [Hlen.out]; omega)
      go_wp2
      go_ret
      exact ⟨-1, rfl, by rw [HT.out]; simp, rfl⟩
theorem contains_any (A : Option Addr) (n c B : Nat) (l : List Int) (w : World) (hr : Rd w B .i64 A n l) (b : Bool) (hb : b = !okL l) :
    Calls Try.prog 18 #[.slice A n c, .func (.func 17) #[] #[]] w fun e w' => e = .returned (.bool b) ∧ w = w' := by
  have HB := Lib.hid hb
  clear hb
  go_enter Try.func18, Try.ntmps18
  go_wp2_with fail
  refine (index_any A n c B l _ hr).mono ?_
  rintro e w1 ⟨i, rfl, hd, rfl⟩
  have HD := Lib.hid hd
  clear hd
  go_wp2_with fail
  go_ret
  exact ⟨congrArg (fun z => Ending.returned (.bool z)) (by rw [HB.out, ← HD.out]), rfl⟩
end Go.Proofs.Ytoifkgldnhnamaa
