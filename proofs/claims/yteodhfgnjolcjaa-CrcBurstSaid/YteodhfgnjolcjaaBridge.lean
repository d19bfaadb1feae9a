/- The walks' steps on whole numbers are the plain law's steps on words of 16 bits. -/
import Derived.Test.YteodhfgnjolcjaaHelp
import Derived.Test.YteodhfgnjolcjaaPlain
namespace Go.Proofs.Yteodhfgnjolcjaa
open Go.RowKit

/-- Numbers as bits. -/
def bl (l : List Int) : List Bool := l.map fun c => decide (c = 1)
def tI (x : Plain.W) : Int := (x.toNat : Int)
theorem tI_range (x : Plain.W) : 0 ≤ tI x ∧ tI x ≤ 65535 := by
  unfold tI
  have := x.isLt
  omega
theorem tI_inj {x y : Plain.W} (h : tI x = tI y) : x = y := by
  unfold tI at h
  exact BitVec.eq_of_toNat_eq (by omega)
theorem tI_of (s : Int) (h0 : 0 ≤ s) (h1 : s ≤ 65535) : s = tI (BitVec.ofNat 16 s.toNat) := by
  unfold tI
  rw [BitVec.toNat_ofNat]
  omega
theorem st_eq (x : Plain.W) (b : Bool) : Plain.st x b = (x <<< 1) ^^^ (if x.msb ^^ b then Plain.G else 0#16) := by
  unfold Plain.st Plain.sh
  rw [BitVec.shiftLeft_xor_distrib, BitVec.msb_xor, Plain.top_msb]
  have : Plain.top b <<< 1 = 0#16 := by cases b <;> decide
  rw [this, BitVec.xor_zero]
theorem stI_st (x : Plain.W) (c : Int) (h : c = 0 ∨ c = 1) : stI (tI x) c = tI (Plain.st x (decide (c = 1))) := by
  have hx := x.isLt
  have hm : x.msb = decide (32768 ≤ x.toNat) := BitVec.msb_eq_decide x
  have hs : (x <<< 1).toNat = x.toNat * 2 % 65536 := by rw [BitVec.toNat_shiftLeft, Nat.shiftLeft_eq]
  rw [st_eq]
  unfold stI
  by_cases hq : tI x / 32768 = c
  · rw [if_pos hq]
    have e : (x.msb ^^ decide (c = 1)) = false := by
      rw [hm]
      unfold tI at hq
      rcases h with rfl | rfl
      · have : ¬ 32768 ≤ x.toNat := by omega
        simp [this]
      · have : 32768 ≤ x.toNat := by omega
        simp [this]
    rw [e]
    simp only [Bool.false_eq_true, if_false, BitVec.xor_zero, wrap_u16, tI, hs]
    omega
  · rw [if_neg hq]
    have e : (x.msb ^^ decide (c = 1)) = true := by
      rw [hm]
      unfold tI at hq
      rcases h with rfl | rfl
      · have : 32768 ≤ x.toNat := by omega
        simp [this]
      · have : ¬ 32768 ≤ x.toNat := by omega
        simp [this]
    rw [e]
    simp only [if_true, wrap_u16, tI, bits]
    rw [show (x.toNat : Int) * 2 % 65536 = ((x.toNat * 2 % 65536 : Nat) : Int) by omega, ← hs]
    have e2 : (BitVec.ofInt IntKind.u16.bits ((x <<< 1).toNat : Int)) = x <<< 1 := by
      rw [BitVec.ofInt_natCast]
      exact BitVec.ofNat_toNat _ _
    rw [e2]
    have e3 : (BitVec.ofInt IntKind.u16.bits 32773) = Plain.G := rfl
    rw [e3]
    have := ((x <<< 1) ^^^ Plain.G).isLt
    show ((((x <<< 1) ^^^ Plain.G).toNat : Nat) : Int) % 65536 = _
    omega
theorem crcI_run (x : Plain.W) (l : List Int) (h : ∀ c ∈ l, 0 ≤ c ∧ c ≤ 1) : crcI (tI x) l = tI (Plain.run x (bl l)) := by
  induction l generalizing x with
  | nil => rfl
  | cons c l ih =>
    have hc := h c (by simp)
    have e : crcI (tI x) (c :: l) = crcI (stI (tI x) c) l := rfl
    rw [e, stI_st x c (by omega), ih _ (fun d hd => h d (by simp [hd]))]
    rfl
theorem ovB_bits (l : List Int) (h : ∀ c ∈ l, 0 ≤ c ∧ c ≤ 1) : ovB l = true := by
  unfold ovB
  rw [List.all_eq_true]
  intro c hc
  have := h c hc
  simpa using this.2
/-- The sum of bits. -/
def sumB (s : Plain.W) (l : List Int) : Plain.W := Plain.run s (bl l)
theorem ovr_bits (s : Plain.W) (l : List Int) (h : ∀ c ∈ l, 0 ≤ c ∧ c ≤ 1) : ovr (tI s) l = tI (sumB s l) ∧ ovE (tI s) l = 0 := by
  have hs := tI_range s
  have hB := ovB_bits l h
  unfold ovr ovE
  refine ⟨?_, ?_⟩
  · rw [if_neg (by omega), if_pos hB]
    exact crcI_run s l h
  · rw [if_neg (by omega), if_pos hB]
theorem bl_inj {l m : List Int} (hl : ∀ x ∈ l, 0 ≤ x ∧ x ≤ 1) (hm : ∀ x ∈ m, 0 ≤ x ∧ x ≤ 1) (h : bl l = bl m) : l = m := by
  induction l generalizing m with
  | nil => cases m with
    | nil => rfl
    | cons y m => simp [bl] at h
  | cons x l ih =>
    cases m with
    | nil => simp [bl] at h
    | cons y m =>
      simp only [bl, List.map_cons, List.cons.injEq] at h
      have hx := hl x (by simp)
      have hy := hm y (by simp)
      have h4 : x = y := by
        have h2 := h.1
        rw [decide_eq_decide] at h2
        omega
      rw [h4, ih (fun z hz => hl z (by simp [hz])) (fun z hz => hm z (by simp [hz])) h.2]
theorem bl_append (l m : List Int) : bl (l ++ m) = bl l ++ bl m := by simp [bl]

/-- Of and Over of bits. -/
theorem of_bits (A : Option Addr) (n c B : Nat) (l : List Int) (w : World) (hr : Rd w B .u8 A n l) (hB : B ≤ w.heap.size) (hl : ∀ x ∈ l, 0 ≤ x ∧ x ≤ 1) :
    Calls Try.prog 10 #[.slice A n c] w (Two (tI (sumB 65535#16 l)) 0 w) :=
  of_lit A n c B l w hr hB (fun x hx => by have := hl x hx; omega) _ _ (ovr_bits 65535#16 l hl).1 (ovr_bits 65535#16 l hl).2
theorem over_bits (s : Plain.W) (A : Option Addr) (n c B : Nat) (l : List Int) (w : World) (hr : Rd w B .u8 A n l) (hB : B ≤ w.heap.size) (hl : ∀ x ∈ l, 0 ≤ x ∧ x ≤ 1) :
    Calls Try.prog 9 #[.int .i64 (tI s), .slice A n c] w (Two (tI (sumB s l)) 0 w) :=
  over_lit (tI s) A n c B l w hr hB (fun x hx => by have := hl x hx; omega) _ _ (ovr_bits s l hl).1 (ovr_bits s l hl).2
end Go.Proofs.Yteodhfgnjolcjaa
