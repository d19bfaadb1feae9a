/- The contracts of crc.Over, crc.Of, its closure and of the reference's functions: what each returns, in which world. -/
import Derived.Test.YteodhfgnjolcjaaRows
import Derived.Test.YteodhfgnjolcjaaBase
namespace Go.Proofs.Yteodhfgnjolcjaa
open Go.RowKit

/-- One step of the word (as the walk spells it). -/
def stI (x c : Int) : Int := if x / 32768 = c then IntKind.u16.wrap (x * 2) else bits .xor .u16 (IntKind.u16.wrap (x * 2)) 32773
def crcI (x : Int) (l : List Int) : Int := l.foldl stI x
theorem wrap_u16 (n : Int) : IntKind.u16.wrap n = n % 65536 := by simp [IntKind.wrap, IntKind.bits, IntKind.signed]
theorem stI_range (x c : Int) : 0 ≤ stI x c ∧ stI x c ≤ 65535 := by
  have h : ∀ a b : Int, 0 ≤ bits .xor .u16 a b ∧ bits .xor .u16 a b ≤ 65535 := by
    intro a b
    simp only [bits, wrap_u16]
    omega
  unfold stI
  split
  · rw [wrap_u16]; omega
  · exact h _ _
theorem crcI_range (x : Int) (l : List Int) (h : 0 ≤ x ∧ x ≤ 65535) : 0 ≤ crcI x l ∧ crcI x l ≤ 65535 := by
  induction l generalizing x with
  | nil => exact h
  | cons c l ih => exact ih _ (stI_range x c)
theorem crcI_snoc (x : Int) (l : List Int) (c : Int) : crcI x (l ++ [c]) = stI (crcI x l) c := by simp [crcI]
theorem take_snoc (l : List Int) (k : Nat) (h : k < l.length) : l.take (k + 1) = l.take k ++ [l.getD k 0] := by
  rw [List.take_add_one, List.getElem?_eq_getElem h, List.getD_eq_getElem?_getD, List.getElem?_eq_getElem h]; rfl

/-- Behind a store into one cell of block B. -/
structure Boxed (w w' : World) (B : Nat) (v : Value) : Prop where
  cell : w'.cell? ⟨B, 0, none⟩ = some v
  free : w'.frozen? ⟨B, 0, none⟩ = false
  below : Below B w w'

set_option maxHeartbeats 400000 in
theorem step_any (x c : Int) (B : Nat) (w : World) (hx0 : 0 ≤ x) (hx1 : x ≤ 65535) (_hc0 : 0 ≤ c) (_hc1 : c ≤ 1) (h : w.cell? ⟨B, 0, none⟩ = some (.int .u16 x)) (hf : w.frozen? ⟨B, 0, none⟩ = false) :
   Calls Try.prog 15 #[.int .u8 c, .pointer (some ⟨B, 0, none⟩)] w fun e w' => e = .returned (.tuple #[]) ∧ Boxed w w' B (.int .u16 (stI x c)) := by
  by_cases hq : x / 32768 = c
  · have hd : (x / 32768 != c) = false := by simp [hq]
    have HS := Lib.hid (show stI x c = IntKind.u16.wrap (x * 2) by simp [stI, hq])
    clear hq
    go_enter Try.func15, Try.ntmps15
    go_wp2
    go_end0
    refine ⟨rfl, ?_, ?_, ?_⟩
    · rw [World.cell?_setCell_same _ _ _ h, HS.out]
    · rw [World.frozen?_setCell]; exact hf
    · exact (Below.refl B w).setCell (p := ⟨B, 0, none⟩) (Nat.le_refl _) _
  · have hd : (x / 32768 != c) = true := by simp [hq]
    have HS := Lib.hid (show stI x c = bits .xor .u16 (IntKind.u16.wrap (x * 2)) 32773 by simp [stI, hq])
    clear hq
    go_enter Try.func15, Try.ntmps15
    go_wp2
    go_end0
    refine ⟨rfl, ?_, ?_, ?_⟩
    · rw [World.cell?_setCell_same _ _ _ (World.cell?_setCell_same _ _ _ h), HS.out]
    · rw [World.frozen?_setCell, World.frozen?_setCell]; exact hf
    · exact ((Below.refl B w).setCell (p := ⟨B, 0, none⟩) (Nat.le_refl _) _).setCell (p := ⟨B, 0, none⟩) (Nat.le_refl _) _

def ovB (l : List Int) : Bool := l.all fun c => decide (c ≤ 1)
def ovr (s : Int) (l : List Int) : Int := if s < 0 ∨ 65535 < s then 0 else if ovB l then crcI s l else 0
def ovE (s : Int) (l : List Int) : Int := if s < 0 ∨ 65535 < s then 2 else if ovB l then 0 else 8

theorem ret_two {a b a' b' : Int} (h1 : a' = a) (h2 : b' = b) : Ending.returned (.tuple #[.int .i64 a, .int .i64 b]) = .returned (.tuple #[.int .i64 a', .int .i64 b']) := by rw [h1, h2]
def Two (a b : Int) (w : World) (e : Ending) (w' : World) : Prop := e = .returned (.tuple #[.int .i64 a, .int .i64 b]) ∧ Below w.heap.size w w'

set_option maxHeartbeats 1000000 in
theorem over_any (s : Int) (A : Option Addr) (n c B : Nat) (l : List Int) (w : World) (hr : Rd w B .u8 A n l) (hB : B ≤ w.heap.size) (hl : ∀ x ∈ l, 0 ≤ x ∧ x ≤ 255) :
    Calls Try.prog 9 #[.int .i64 s, .slice A n c] w (Two (ovr s l) (ovE s l) w) := by
  by_cases h1 : s < 0
  · have HR := Lib.hid (show ovr s l = 0 by simp [ovr, h1])
    have HE := Lib.hid (show ovE s l = 2 by simp [ovE, h1])
    go_enter Try.func9, Try.ntmps9
    go_wp2
    go_ret2
    exact ⟨ret_two HR.out HE.out, Below.refl _ _⟩
  by_cases h2 : 65535 < s
  · have HR := Lib.hid (show ovr s l = 0 by simp [ovr, h2])
    have HE := Lib.hid (show ovE s l = 2 by simp [ovE, h2])
    go_enter Try.func9, Try.ntmps9
    go_wp2
    go_ret2
    exact ⟨ret_two HR.out HE.out, Below.refl _ _⟩
  have h3 : 0 ≤ s := by omega
  have h4 : s ≤ 65535 := by omega
  clear h1 h2
  have hn := hr.le
  have Hlen := Lib.hid hr.len
  have HR0 := Lib.hid (show ovr s l = if ovB l then crcI s l else 0 by simp only [ovr]; rw [if_neg (by omega)])
  have HE0 := Lib.hid (show ovE s l = if ovB l then 0 else 8 by simp only [ovE]; rw [if_neg (by omega)])
  go_enter Try.func9, Try.ntmps9
  go_wp2
  have hcA : (w.alloc (.cells #[.int .u16 s] 32)).cell? ⟨w.heap.size, 0, none⟩ = some (.int .u16 s) := by simp
  have hfA : (w.alloc (.cells #[.int .u16 s] 32)).frozen? ⟨w.heap.size, 0, none⟩ = false := by simp
  have hbA : Below w.heap.size w (w.alloc (.cells #[.int .u16 s] 32)) := (Below.refl _ _).alloc (Nat.le_refl _) _
  go_loopw [21] (fun i wr => ∃ k : Nat, k ≤ n ∧ i = .int .i64 k ∧ Hid (ovB (l.take k) = true) ∧ wr.cell? ⟨w.heap.size, 0, none⟩ = some (.int .u16 (crcI s (l.take k))) ∧ wr.frozen? ⟨w.heap.size, 0, none⟩ = false ∧ Below w.heap.size w wr)
    (fun i _ => n - (intOf i).toNat)
  case atStart => exact ⟨0, Nat.zero_le _, rfl, rfl, hcA, hfA, hbA⟩
  case round =>
    clear hcA hfA hbA
    obtain ⟨k, hk, rfl, hq, hc, hf, hb⟩ := hrel
    have hrg := crcI_range s (l.take k) ⟨h3, h4⟩
    obtain ⟨hrg0, hrg1⟩ := hrg
    by_cases hlt : k < n
    · obtain ⟨ad, rfl, hab, hcell⟩ := (hr.below (hb.mono hB)).at_ hlt
      have HT := Lib.hid (take_snoc l k (by rw [Hlen.out]; exact hlt))
      have hx : 0 ≤ l.getD k 0 ∧ l.getD k 0 ≤ 255 := by
        rw [List.getD_eq_getElem?_getD, List.getElem?_eq_getElem (by rw [Hlen.out]; exact hlt)]
        exact hl _ (List.getElem_mem _)
      have HOF : 1 < l.getD k 0 → ovB l = false := by
        intro h
        rw [ovB, List.all_eq_false]
        refine ⟨l.getD k 0, ?_, by simp only [decide_eq_true_eq]; omega⟩
        rw [List.getD_eq_getElem?_getD, List.getElem?_eq_getElem (by rw [Hlen.out]; exact hlt)]
        exact List.getElem_mem _
      have HOF' := Lib.hid HOF
      clear HOF
      have HOV := Lib.hid (show ovB (l.take (k + 1)) = decide (l.getD k 0 ≤ 1) by
        have h := hq.out
        unfold ovB at h ⊢
        rw [HT.out, List.all_append, h]; simp)
      generalize l.getD k 0 = x at *
      obtain ⟨hx0, hx1⟩ := hx
      by_cases h1 : x ≤ 1
      · have hst := stI_range (crcI s (l.take k)) x
        have HN := Lib.hid (show crcI s (l.take (k + 1)) = stI (crcI s (l.take k)) x by rw [HT.out, crcI_snoc])
        have HO := Lib.hid (show ovB (l.take (k + 1)) = true by rw [HOV.out]; simpa using h1)
        generalize crcI s (l.take k) = y at *
        go_wp2_with (go_at_call 15; refine (step_any _ _ _ _ (by omega) (by omega) (by omega) (by omega) (by assumption) (by assumption)).mono ?_; rintro e w1 ⟨rfl, hbx⟩; have hbb := hb.trans hbx.below; have hcc := hbx.cell; have hff := hbx.free)
        go_roundw
        case rel => exact ⟨k + 1, by omega, by go_num, HO, by rw [HN.out]; exact hcc, hff, hbb⟩
        case measure => simp [intOf]; omega
      · have HO : ovB l = false := HOF'.out (by omega)
        have HR := Lib.hid (show ovr s l = 0 by rw [HR0.out, HO]; rfl)
        have HE := Lib.hid (show ovE s l = 8 by rw [HE0.out, HO]; rfl)
        clear HO
        go_wp2
        go_ret2
        exact ⟨ret_two HR.out HE.out, hb⟩
    · have hkn : k = n := by omega
      have HT := Lib.hid (show l.take k = l by rw [List.take_of_length_le]; rw [Hlen.out]; omega)
      have HR := Lib.hid (show ovr s l = crcI s (l.take k) by rw [HR0.out, if_pos (by rw [← HT.out]; exact hq.out), HT.out])
      have HE := Lib.hid (show ovE s l = 0 by rw [HE0.out, if_pos (by rw [← HT.out]; exact hq.out)])
      clear hkn
      go_wp2
      go_ret2
      exact ⟨ret_two HR.out HE.out, hb⟩

theorem of_any (A : Option Addr) (n c B : Nat) (l : List Int) (w : World) (hr : Rd w B .u8 A n l) (hB : B ≤ w.heap.size) (hl : ∀ x ∈ l, 0 ≤ x ∧ x ≤ 255) :
    Calls Try.prog 10 #[.slice A n c] w (Two (ovr 65535 l) (ovE 65535 l) w) := by
  go_enter Try.func10, Try.ntmps10
  go_wp2_with (go_at_call 9; refine (over_any 65535 A n c B l _ hr hB hl).mono ?_; rintro e w1 ⟨rfl, hb⟩)
  go_ret2
  exact ⟨rfl, hb⟩

theorem xor_i64 (a : Int) (h0 : 0 ≤ a) (h1 : a ≤ 65535) : bits .xor .i64 a 32773 = bits .xor .u16 a 32773 := by
  obtain ⟨n, rfl⟩ := Int.eq_ofNat_of_zero_le h0
  have hn : n < 65536 := by omega
  have hx : n ^^^ 32773 < 2 ^ 16 := Nat.xor_lt_two_pow (by omega) (by omega)
  have e1 : (BitVec.ofInt IntKind.i64.bits (n : Int) ^^^ BitVec.ofInt IntKind.i64.bits 32773).toNat = n ^^^ 32773 := by
    rw [BitVec.toNat_xor]
    simp only [IntKind.bits, BitVec.ofInt_natCast, BitVec.toNat_ofNat]
    rw [Nat.mod_eq_of_lt (by omega)]
    rfl
  have e2 : (BitVec.ofInt IntKind.u16.bits (n : Int) ^^^ BitVec.ofInt IntKind.u16.bits 32773).toNat = n ^^^ 32773 := by
    rw [BitVec.toNat_xor]
    simp only [IntKind.bits, BitVec.ofInt_natCast, BitVec.toNat_ofNat]
    rw [Nat.mod_eq_of_lt (by omega)]
    rfl
  simp only [bits]
  rw [e1, e2, wrap_u16, IntKind.wrap_i64]
  omega

theorem rstep_any (x c : Int) (w : World) (hx0 : 0 ≤ x) (hx1 : x ≤ 65535) :
    Calls Try.prog 18 #[.int .i64 x, .int .i64 c] w fun e w' => e = .returned (.int .i64 (stI x c)) ∧ w = w' := by
  by_cases hq : x / 32768 = c
  · have hd : (x / 32768 != c) = false := by simp [hq]
    have HS := Lib.hid (show 2 * x % 65536 = stI x c by simp only [stI, if_pos hq, wrap_u16]; omega)
    clear hq
    go_enter Try.func18, Try.ntmps18
    go_wp2
    go_ret
    exact ⟨congrArg (fun z => Ending.returned (.int .i64 z)) HS.out, rfl⟩
  · have hd : (x / 32768 != c) = true := by simp [hq]
    have HS := Lib.hid (show bits .xor .i64 (2 * x % 65536) 32773 = stI x c by
      simp only [stI, if_neg hq, wrap_u16]
      rw [xor_i64 _ (by omega) (by omega), Int.mul_comm])
    clear hq
    go_enter Try.func18, Try.ntmps18
    go_wp2
    go_ret
    exact ⟨congrArg (fun z => Ending.returned (.int .i64 z)) HS.out, rfl⟩

set_option maxHeartbeats 1000000 in
theorem rsum_any (s : Int) (A : Option Addr) (n c B : Nat) (l : List Int) (w : World) (hr : Rd w B .u8 A n l) (hl : ∀ x ∈ l, 0 ≤ x ∧ x ≤ 255) (h3 : 0 ≤ s) (h4 : s ≤ 65535) :
    Calls Try.prog 17 #[.int .i64 s, .slice A n c] w fun e w' => e = .returned (.int .i64 (crcI s l)) ∧ w = w' := by
  have hn := hr.le
  have Hlen := Lib.hid hr.len
  go_enter Try.func17, Try.ntmps17
  go_wp2
  go_loop [0, 5] (fun v i => ∃ k : Nat, k ≤ n ∧ i = .int .i64 k ∧ v = .int .i64 (crcI s (l.take k))) (fun _ i => n - (intOf i).toNat)
  case atStart => exact ⟨0, Nat.zero_le _, rfl, rfl⟩
  case round =>
    obtain ⟨k, hk, rfl, rfl⟩ := hrel
    obtain ⟨hrg0, hrg1⟩ := crcI_range s (l.take k) ⟨h3, h4⟩
    by_cases hlt : k < n
    · obtain ⟨ad, rfl, hab, hcell⟩ := hr.at_ hlt
      have HN := Lib.hid (show crcI s (l.take (k + 1)) = stI (crcI s (l.take k)) (l.getD k 0) by rw [take_snoc l k (by rw [Hlen.out]; exact hlt), crcI_snoc])
      have hx : 0 ≤ l.getD k 0 ∧ l.getD k 0 ≤ 255 := by
        rw [List.getD_eq_getElem?_getD, List.getElem?_eq_getElem (by rw [Hlen.out]; exact hlt)]
        exact hl _ (List.getElem_mem _)
      generalize l.getD k 0 = x at *
      obtain ⟨hx0, hx1⟩ := hx
      generalize crcI s (l.take k) = y at *
      go_wp2_with (go_at_call 18; refine (rstep_any _ _ _ (by omega) (by omega)).mono ?_; rintro e w1 ⟨rfl, rfl⟩)
      go_round
      case rel => exact ⟨k + 1, by omega, by go_num, by rw [HN.out]⟩
      case measure => simp [intOf]; omega
    · have HT := Lib.hid (show crcI s (l.take k) = crcI s l by rw [List.take_of_length_le]; rw [Hlen.out]; omega)
      go_wp2
      go_ret
      exact ⟨congrArg (fun z => Ending.returned (.int .i64 z)) HT.out, rfl⟩

set_option maxHeartbeats 1000000 in
theorem rmay_any (A : Option Addr) (n c B : Nat) (l : List Int) (w : World) (hr : Rd w B .u8 A n l) (hl : ∀ x ∈ l, 0 ≤ x ∧ x ≤ 255) :
    Calls Try.prog 16 #[.slice A n c] w fun e w' => e = .returned (.bool (ovB l)) ∧ w = w' := by
  have hn := hr.le
  have Hlen := Lib.hid hr.len
  go_enter Try.func16, Try.ntmps16
  go_wp2
  go_loop [3] (fun i => ∃ k : Nat, k ≤ n ∧ i = .int .i64 k ∧ Hid (ovB (l.take k) = true)) (fun i => n - (intOf i).toNat)
  case atStart => exact ⟨0, Nat.zero_le _, rfl, rfl⟩
  case round =>
    obtain ⟨k, hk, rfl, hq⟩ := hrel
    by_cases hlt : k < n
    · obtain ⟨ad, rfl, hab, hcell⟩ := hr.at_ hlt
      have hx : 0 ≤ l.getD k 0 ∧ l.getD k 0 ≤ 255 := by
        rw [List.getD_eq_getElem?_getD, List.getElem?_eq_getElem (by rw [Hlen.out]; exact hlt)]
        exact hl _ (List.getElem_mem _)
      have HOF := Lib.hid (show 1 < l.getD k 0 → ovB l = false by
        intro h
        rw [ovB, List.all_eq_false]
        refine ⟨l.getD k 0, ?_, by simp only [decide_eq_true_eq]; omega⟩
        rw [List.getD_eq_getElem?_getD, List.getElem?_eq_getElem (by rw [Hlen.out]; exact hlt)]
        exact List.getElem_mem _)
      have HOV := Lib.hid (show ovB (l.take (k + 1)) = decide (l.getD k 0 ≤ 1) by
        have h := hq.out
        unfold ovB at h ⊢
        rw [take_snoc l k (by rw [Hlen.out]; exact hlt), List.all_append, h]; simp)
      generalize l.getD k 0 = x at *
      obtain ⟨hx0, hx1⟩ := hx
      by_cases h1 : x ≤ 1
      · have HO := Lib.hid (show ovB (l.take (k + 1)) = true by rw [HOV.out]; simpa using h1)
        go_wp2
        go_round
        case rel => exact ⟨k + 1, by omega, by go_num, HO⟩
        case measure => simp [intOf]; omega
      · have HO := Lib.hid (show false = ovB l from (HOF.out (by omega)).symm)
        go_wp2
        go_ret
        exact ⟨congrArg (fun z => Ending.returned (.bool z)) HO.out, rfl⟩
    · have HT := Lib.hid (show true = ovB l by rw [← hq.out, List.take_of_length_le]; rw [Hlen.out]; omega)
      go_wp2
      go_ret
      exact ⟨congrArg (fun z => Ending.returned (.bool z)) HT.out, rfl⟩

set_option maxHeartbeats 1000000 in
theorem rover_any (s : Int) (A : Option Addr) (n c B : Nat) (l : List Int) (w : World) (hr : Rd w B .u8 A n l) (hl : ∀ x ∈ l, 0 ≤ x ∧ x ≤ 255) :
    Calls Try.prog 13 #[.int .i64 s, .slice A n c] w fun e w' => e = .returned (.tuple #[.int .i64 (ovr s l), .int .i64 (ovE s l)]) ∧ w = w' := by
  by_cases h1 : s < 0
  · have HR := Lib.hid (show ovr s l = 0 by simp [ovr, h1])
    have HE := Lib.hid (show ovE s l = 2 by simp [ovE, h1])
    go_enter Try.func13, Try.ntmps13
    go_wp2_with fail
    go_ret2
    exact ⟨ret_two HR.out HE.out, rfl⟩
  by_cases h2 : 65535 < s
  · have HR := Lib.hid (show ovr s l = 0 by simp [ovr, h2])
    have HE := Lib.hid (show ovE s l = 2 by simp [ovE, h2])
    go_enter Try.func13, Try.ntmps13
    go_wp2_with fail
    go_ret2
    exact ⟨ret_two HR.out HE.out, rfl⟩
  have h3 : 0 ≤ s := by omega
  have h4 : s ≤ 65535 := by omega
  clear h1 h2
  have HM := rmay_any A n c B l w hr hl
  cases hq : ovB l
  · have HR := Lib.hid (show ovr s l = 0 by simp only [ovr]; rw [if_neg (by omega), hq]; rfl)
    have HE := Lib.hid (show ovE s l = 8 by simp only [ovE]; rw [if_neg (by omega), hq]; rfl)
    rw [hq] at HM
    have HM' := Lib.hid HM
    clear HM hq
    go_enter Try.func13, Try.ntmps13
    go_wp2_with (go_at_call 16; refine HM'.out.mono ?_; rintro e w1 ⟨rfl, rfl⟩)
    go_ret2
    exact ⟨ret_two HR.out HE.out, rfl⟩
  · have HR := Lib.hid (show ovr s l = crcI s l by simp only [ovr]; rw [if_neg (by omega), hq]; rfl)
    have HE := Lib.hid (show ovE s l = 0 by simp only [ovE]; rw [if_neg (by omega), hq]; rfl)
    rw [hq] at HM
    have HM' := Lib.hid HM
    clear HM hq
    go_enter Try.func13, Try.ntmps13
    go_wp2_with (first
      | (go_at_call 16; refine HM'.out.mono ?_; rintro e w1 ⟨rfl, rfl⟩)
      | (go_at_call 17; refine (rsum_any s A n c B l _ hr hl h3 h4).mono ?_; rintro e w1 ⟨rfl, rfl⟩))
    go_ret2
    exact ⟨ret_two HR.out HE.out, rfl⟩

theorem rof_any (A : Option Addr) (n c B : Nat) (l : List Int) (w : World) (hr : Rd w B .u8 A n l) (hl : ∀ x ∈ l, 0 ≤ x ∧ x ≤ 255) :
    Calls Try.prog 12 #[.slice A n c] w fun e w' => e = .returned (.tuple #[.int .i64 (ovr 65535 l), .int .i64 (ovE 65535 l)]) ∧ w = w' := by
  go_enter Try.func12, Try.ntmps12
  go_wp2_with (go_at_call 13; refine (rover_any 65535 A n c B l _ hr hl).mono ?_; rintro e w1 ⟨rfl, rfl⟩)
  go_ret2
  exact ⟨rfl, rfl⟩
end Go.Proofs.Yteodhfgnjolcjaa
