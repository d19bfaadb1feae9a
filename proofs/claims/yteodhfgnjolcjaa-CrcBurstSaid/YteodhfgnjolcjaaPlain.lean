/- The plain law of sums of bits: a word of 16 bits, its step with a bit, and what follows of it. Nothing of the program stands here. -/
namespace Go.Proofs.Yteodhfgnjolcjaa.Plain

abbrev W := BitVec 16
def G : W := 32773#16
/-- A step with the bit 0. -/
def sh (x : W) : W := (x <<< 1) ^^^ (if x.msb then G else 0#16)
def top (b : Bool) : W := if b then 32768#16 else 0#16
/-- A step of a word with a bit. -/
def st (x : W) (b : Bool) : W := sh (x ^^^ top b)
def run (x : W) (l : List Bool) : W := l.foldl st x
def shs : Nat → W → W
  | 0, x => x
  | n + 1, x => shs n (sh x)

theorem xor_lc (x y z : W) : x ^^^ (y ^^^ z) = y ^^^ (x ^^^ z) := by rw [← BitVec.xor_assoc, BitVec.xor_comm x y, BitVec.xor_assoc]
theorem xor_ss (x y : W) : x ^^^ (x ^^^ y) = y := by rw [← BitVec.xor_assoc, BitVec.xor_self, BitVec.zero_xor]
theorem sh_xor (x y : W) : sh (x ^^^ y) = sh x ^^^ sh y := by
  unfold sh
  rw [BitVec.shiftLeft_xor_distrib, BitVec.msb_xor]
  cases x.msb <;> cases y.msb <;> simp only [Bool.xor_false, Bool.false_xor, Bool.xor_self, Bool.false_eq_true, if_false, if_true, BitVec.xor_zero, BitVec.xor_assoc]
  · rw [BitVec.xor_comm (y <<< 1) G, xor_lc]
  · rw [xor_lc G, BitVec.xor_self, BitVec.xor_zero]
theorem sh_zero : sh 0#16 = 0#16 := by decide
theorem sh_eq_zero (x : W) (h : sh x = 0#16) : x = 0#16 := by
  unfold sh at h
  cases hm : x.msb
  · rw [hm] at h
    simp only [Bool.false_eq_true, if_false, BitVec.xor_zero] at h
    apply BitVec.eq_of_getLsbD_eq
    intro i hi
    rcases Nat.lt_or_ge i 15 with h1 | h1
    · have h2 : (x <<< 1).getLsbD (i + 1) = false := by rw [h]; simp
      rw [BitVec.getLsbD_shiftLeft] at h2
      simp at h2
      simpa using h2 (by omega)
    · obtain rfl : i = 15 := by omega
      have : x.msb = x.getLsbD 15 := by rw [BitVec.msb_eq_getLsbD_last]
      rw [← this, hm]; simp
  · rw [hm] at h
    have h2 : ((x <<< 1) ^^^ G).getLsbD 0 = false := by
      simp only [if_true] at h
      rw [h]; rfl
    rw [BitVec.getLsbD_xor, BitVec.getLsbD_shiftLeft] at h2
    simp [G] at h2
theorem xor_eq_zero (x y : W) (h : x ^^^ y = 0#16) : x = y := by
  have h1 : x ^^^ y ^^^ y = 0#16 ^^^ y := by rw [h]
  simpa [BitVec.xor_assoc] using h1
theorem sh_inj (x y : W) (h : sh x = sh y) : x = y := by
  apply xor_eq_zero
  apply sh_eq_zero
  rw [sh_xor, h, BitVec.xor_self]
theorem shs_inj (n : Nat) (x y : W) (h : shs n x = shs n y) : x = y := by
  induction n generalizing x y with
  | zero => exact h
  | succ n ih => exact sh_inj _ _ (ih _ _ h)
theorem shs_xor (n : Nat) (x y : W) : shs n (x ^^^ y) = shs n x ^^^ shs n y := by
  induction n generalizing x y with
  | zero => rfl
  | succ n ih => simp only [shs]; rw [sh_xor, ih]
theorem shs_zero (n : Nat) : shs n 0#16 = 0#16 := by
  induction n with
  | zero => rfl
  | succ n ih => simp only [shs]; rw [sh_zero, ih]
theorem xor_cancel (x y z : W) (h : x ^^^ z = y ^^^ z) : x = y := by
  have h1 : x ^^^ z ^^^ z = y ^^^ z ^^^ z := by rw [h]
  simpa [BitVec.xor_assoc] using h1
theorem st_inj (x y : W) (b : Bool) (h : st x b = st y b) : x = y := xor_cancel _ _ _ (sh_inj _ _ h)
theorem run_inj (x y : W) (l : List Bool) (h : run x l = run y l) : x = y := by
  induction l generalizing x y with
  | nil => exact h
  | cons b l ih => exact st_inj _ _ b (ih _ _ h)
theorem run_append (x : W) (l m : List Bool) : run x (l ++ m) = run (run x l) m := by simp [run]
theorem top_xor (a b : Bool) : top (a ^^ b) = top a ^^^ top b := by cases a <;> cases b <;> rfl
theorem st_xor (x y : W) (a b : Bool) : st (x ^^^ y) (a ^^ b) = st x a ^^^ st y b := by
  unfold st
  rw [top_xor, ← sh_xor]
  congr 1
  simp only [BitVec.xor_assoc]
  rw [xor_lc y]
theorem run_xor (x y : W) (l m : List Bool) (h : l.length = m.length) : run (x ^^^ y) (List.zipWith (· ^^ ·) l m) = run x l ^^^ run y m := by
  induction l generalizing x y m with
  | nil =>
    obtain rfl : m = [] := List.eq_nil_of_length_eq_zero (by simpa using h.symm)
    rfl
  | cons a l ih =>
    cases m with
    | nil => simp at h
    | cons b m =>
      simp only [List.zipWith_cons_cons, run, List.foldl_cons]
      rw [st_xor]
      exact ih _ _ _ (by simpa using h)

/-- Up to 16 bits as the highest ones of a word. -/
def load : List Bool → W
  | [] => 0#16
  | b :: l => top b ^^^ (load l >>> 1)
theorem load_low (l : List Bool) (j : Nat) (h : l.length + j < 16) : (load l).getLsbD j = false := by
  induction l generalizing j with
  | nil => simp [load]
  | cons b l ih =>
    simp only [load, BitVec.getLsbD_xor, BitVec.getLsbD_ushiftRight]
    simp only [List.length_cons] at h
    rw [ih (1 + j) (by omega)]
    have : ∀ b j, j < 15 → (top b).getLsbD j = false := by
      intro b j hj
      cases b
      · simp [top]
      · have : ∀ j, j < 15 → (32768#16).getLsbD j = false := by decide
        exact this j hj
    rw [this b j (by omega)]
    rfl
theorem sh_half (x : W) (h : x.getLsbD 0 = false) : sh (x >>> 1) = x := by
  have hm : (x >>> 1).msb = false := by rw [BitVec.msb_ushiftRight]; simp
  unfold sh
  rw [hm]
  simp only [Bool.false_eq_true, if_false, BitVec.xor_zero]
  apply BitVec.eq_of_getLsbD_eq
  intro i hi
  rw [BitVec.getLsbD_shiftLeft, BitVec.getLsbD_ushiftRight]
  rcases Nat.eq_zero_or_pos i with h0 | h0
  · subst h0
    rw [h]; rfl
  · have : 1 + (i - 1) = i := by omega
    simp [this, hi]
    omega
/-- A run over up to 16 bits is that over noughts of the word with these bits turned ahead. -/
theorem run_load (x : W) (l : List Bool) (h : l.length ≤ 16) : run x l = shs l.length (x ^^^ load l) := by
  induction l generalizing x with
  | nil => simp [run, load, shs]
  | cons b l ih =>
    simp only [List.length_cons] at h
    have e : run x (b :: l) = run (st x b) l := rfl
    rw [e, ih _ (by omega)]
    simp only [List.length_cons, shs, load]
    congr 1
    rw [← BitVec.xor_assoc, sh_xor, sh_half _ (load_low l 0 (by omega))]
    rfl
theorem top_msb (b : Bool) : (top b).msb = b := by cases b <;> decide
theorem load_eq_zero (l : List Bool) (h : l.length ≤ 16) (h0 : load l = 0#16) : ∀ b ∈ l, b = false := by
  induction l with
  | nil => simp
  | cons b l ih =>
    simp only [List.length_cons] at h
    simp only [load] at h0
    have h1 : (top b ^^^ (load l >>> 1)).msb = false := by rw [h0]; rfl
    rw [BitVec.msb_xor, BitVec.msb_ushiftRight, top_msb] at h1
    simp at h1
    subst h1
    have h2 : load l >>> 1 = 0#16 := by simpa [top] using h0
    have h3 : load l = 0#16 := by
      rw [← sh_half (load l) (load_low l 0 (by omega)), h2, sh_zero]
    intro c hc
    rcases List.mem_cons.1 hc with rfl | hc
    · rfl
    · exact ih (by omega) h3 c hc

/-- Bits that differ by 'd' within 16 places have one sum only where they are the same. -/
theorem run_burst (x : W) (p l m q : List Bool) (hlm : l.length = m.length) (h16 : l.length ≤ 16) (h : run x (p ++ l ++ q) = run x (p ++ m ++ q)) : l = m := by
  rw [run_append, run_append, run_append, run_append] at h
  have h1 := run_inj _ _ _ h
  rw [run_load _ l h16, run_load _ m (by omega), hlm] at h1
  have h2 := shs_inj _ _ _ h1
  have h3 : load l = load m := by
    rw [BitVec.xor_comm _ (load l), BitVec.xor_comm _ (load m)] at h2
    exact xor_cancel _ _ _ h2
  clear h h1 h2 p q
  induction l generalizing m with
  | nil => exact (List.eq_nil_of_length_eq_zero (by simpa using hlm.symm)).symm
  | cons a l ih =>
    cases m with
    | nil => simp at hlm
    | cons b m =>
      simp only [List.length_cons] at h16 hlm
      simp only [load] at h3
      have h4 : (top a ^^^ (load l >>> 1)).msb = (top b ^^^ (load m >>> 1)).msb := by rw [h3]
      rw [BitVec.msb_xor, BitVec.msb_ushiftRight, BitVec.msb_xor, BitVec.msb_ushiftRight, top_msb, top_msb] at h4
      simp at h4
      subst h4
      have h5 : load l >>> 1 = load m >>> 1 := by
        have h6 : top a ^^^ (top a ^^^ (load l >>> 1)) = top a ^^^ (top a ^^^ (load m >>> 1)) := by rw [h3]
        rwa [xor_ss, xor_ss] at h6
      have h7 : load l = load m := by rw [← sh_half (load l) (load_low l 0 (by omega)), h5, sh_half _ (load_low m 0 (by omega))]
      rw [ih m (by omega) (by omega) h7]

/-- The 16 bits of a word, the highest one first. -/
def bits16 (v : W) : List Bool := (List.range 16).map fun i => v.getLsbD (15 - i)
theorem load_bits (v : W) : load (bits16 v) = v := by
  have hs : ∀ (l : List Bool) (j : Nat), l.length ≤ 16 → j < 16 → 16 ≤ l.length + j → (load l).getLsbD j = l.getD (15 - j) false := by
    intro l
    induction l with
    | nil => intro j h1 h2 h3; simp at h3; omega
    | cons b l ih =>
      intro j h1 h2 h3
      simp only [List.length_cons] at h1 h3
      simp only [load, BitVec.getLsbD_xor, BitVec.getLsbD_ushiftRight]
      rcases Nat.lt_or_ge j 15 with hj | hj
      · have e0 : (top b).getLsbD j = false := by
          have e : ∀ j, j < 15 → (32768#16).getLsbD j = false := by decide
          cases b
          · simp [top]
          · exact e j hj
        rw [e0, ih (1 + j) (by omega) (by omega) (by omega), show 15 - j = (15 - (1 + j)) + 1 by omega]
        simp
      · obtain rfl : j = 15 := by omega
        have e1 : (load l).getLsbD (1 + 15) = false := BitVec.getLsbD_of_ge _ _ (by omega)
        rw [e1]
        cases b <;> rfl
  apply BitVec.eq_of_getLsbD_eq
  intro i hi
  rw [hs _ i (by simp [bits16]) hi (by simp [bits16])]
  have : 15 - (15 - i) = i := by omega
  simp [bits16, List.getD_eq_getElem?_getD, show 15 - i < 16 by omega, this]
/-- Bits, and behind them 16 more, have the sum 0 only where these are the sum of the ones ahead. -/
theorem run_ends (x : W) (l : List Bool) (v : W) : run x (l ++ bits16 v) = 0#16 ↔ run x l = v := by
  rw [run_append, run_load _ _ (by simp [bits16]), load_bits]
  constructor
  · intro h
    rw [← shs_zero (bits16 v).length] at h
    exact xor_eq_zero _ _ (shs_inj _ _ _ h)
  · rintro rfl
    rw [BitVec.xor_self, shs_zero]
end Go.Proofs.Yteodhfgnjolcjaa.Plain
