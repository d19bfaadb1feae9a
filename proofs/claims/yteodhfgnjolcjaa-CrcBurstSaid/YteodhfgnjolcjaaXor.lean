/- Exclusive or of whole numbers is that of words; and the sums of three lists of bits. -/
import Derived.Test.YteodhfgnjolcjaaBridge
namespace Go.Proofs.Yteodhfgnjolcjaa
open Go.RowKit

theorem xor_nat (k : IntKind) (j : Nat) (hj : j ≤ k.bits) (hk : ∀ n : Int, 0 ≤ n → n < 2 ^ j → k.wrap n = n) (a b : Nat) (ha : a < 2 ^ j) (hb : b < 2 ^ j) : bits .xor k a b = ((a ^^^ b : Nat) : Int) := by
  have hp : 2 ^ j ≤ 2 ^ k.bits := Nat.pow_le_pow_right (by decide) hj
  have ha' : a % 2 ^ k.bits = a := Nat.mod_eq_of_lt (Nat.lt_of_lt_of_le ha hp)
  have hb' : b % 2 ^ k.bits = b := Nat.mod_eq_of_lt (Nat.lt_of_lt_of_le hb hp)
  have cast : ∀ n : Nat, n < 2 ^ j → ((n : Nat) : Int) < 2 ^ j := fun n h => by exact_mod_cast h
  simp only [bits, BitVec.ofInt_natCast, BitVec.toNat_xor, BitVec.toNat_ofNat, ha', hb']
  exact hk _ (Int.natCast_nonneg _) (cast _ (Nat.xor_lt_two_pow ha hb))
theorem xor_mod2 (a b : Nat) : (a ^^^ b) % 2 = (a + b) % 2 := by
  have h := Nat.testBit_xor a b 0
  simp only [Nat.testBit_zero] at h
  have ha : a % 2 = 0 ∨ a % 2 = 1 := by omega
  have hb : b % 2 = 0 ∨ b % 2 = 1 := by omega
  have hc : (a ^^^ b) % 2 = 0 ∨ (a ^^^ b) % 2 = 1 := by omega
  rcases ha with ha | ha <;> rcases hb with hb | hb <;> rcases hc with hc | hc <;> simp [ha, hb, hc] at h <;> omega
theorem xor_u8 (x y : Int) (hx : 0 ≤ x ∧ x ≤ 255) (hy : 0 ≤ y ∧ y ≤ 255) : bits .xor .u8 x y = ((x.toNat ^^^ y.toNat : Nat) : Int) ∧ x.toNat ^^^ y.toNat < 256 := by
  obtain ⟨a, rfl⟩ := Int.eq_ofNat_of_zero_le hx.1
  obtain ⟨b, rfl⟩ := Int.eq_ofNat_of_zero_le hy.1
  refine ⟨?_, ?_⟩
  · simpa using xor_nat .u8 8 (by decide) wraps_u8 a b (by omega) (by omega)
  · have : a ^^^ b < 2 ^ 8 := Nat.xor_lt_two_pow (by omega) (by omega)
    simpa using this
theorem xor_tI (x y : Plain.W) : bits .xor .i64 (tI x) (tI y) = tI (x ^^^ y) := by
  unfold tI
  rw [xor_nat .i64 16 (by decide) (fun n h0 h1 => by rw [IntKind.wrap_i64]; omega) _ _ x.isLt y.isLt, BitVec.toNat_xor]

/-- A bit of three, as the walk spells it. -/
def el (x y z : Int) : Int := (bits .xor .u8 (bits .xor .u8 x y) z).tmod 2
theorem el_eq (x y z : Int) (hx : 0 ≤ x ∧ x ≤ 255) (hy : 0 ≤ y ∧ y ≤ 255) (hz : 0 ≤ z ∧ z ≤ 255) : el x y z = (x + y + z) % 2 := by
  obtain ⟨e1, h1⟩ := xor_u8 x y hx hy
  unfold el
  rw [e1]
  obtain ⟨e2, h2⟩ := xor_u8 ((x.toNat ^^^ y.toNat : Nat) : Int) z ⟨by omega, by omega⟩ hz
  rw [e2, Int.tmod_eq_emod_of_nonneg (by omega), Int.toNat_natCast]
  have e3 := xor_mod2 (x.toNat ^^^ y.toNat) z.toNat
  have e4 := xor_mod2 x.toNat y.toNat
  omega
def tr (l l1 l2 : List Int) (k : Nat) : List Int := (List.range k).map fun j => el (l.getD j 0) (l1.getD j 0) (l2.getD j 0)
theorem tr_length (l l1 l2 : List Int) (k : Nat) : (tr l l1 l2 k).length = k := by simp [tr]
theorem tr_snoc (l l1 l2 : List Int) (k : Nat) : tr l l1 l2 (k + 1) = tr l l1 l2 k ++ [el (l.getD k 0) (l1.getD k 0) (l2.getD k 0)] := by simp [tr, List.range_succ]
theorem set_at (y : List Int) (x : Int) (n k : Nat) (h : y.length = k) (hk : k < n) : (nums .u8 (y ++ List.replicate (n - k) 0)).set k (.int .u8 x) = nums .u8 (y ++ [x] ++ List.replicate (n - (k + 1)) 0) := by
  obtain ⟨m, hm⟩ : ∃ m, n - k = m + 1 := ⟨n - k - 1, by omega⟩
  have hm' : n - (k + 1) = m := by omega
  subst h
  rw [hm, hm']
  simp [nums, List.replicate_succ]
theorem getD_in {l : List Int} (h : ∀ x ∈ l, 0 ≤ x ∧ x ≤ 255) (j : Nat) : 0 ≤ l.getD j 0 ∧ l.getD j 0 ≤ 255 := by
  rw [List.getD_eq_getElem?_getD]
  rcases Nat.lt_or_ge j l.length with hj | hj
  · rw [List.getElem?_eq_getElem hj]
    exact h _ (List.getElem_mem _)
  · rw [List.getElem?_eq_none hj]
    simp
theorem tr_range {l l1 l2 : List Int} (h : ∀ x ∈ l, 0 ≤ x ∧ x ≤ 255) (h1 : ∀ x ∈ l1, 0 ≤ x ∧ x ≤ 255) (h2 : ∀ x ∈ l2, 0 ≤ x ∧ x ≤ 255) (k : Nat) : ∀ x ∈ tr l l1 l2 k, 0 ≤ x ∧ x ≤ 1 := by
  intro x hx
  simp only [tr, List.mem_map] at hx
  obtain ⟨j, _, rfl⟩ := hx
  rw [el_eq _ _ _ (getD_in h j) (getD_in h1 j) (getD_in h2 j)]
  omega
theorem tr_bits {l l1 l2 : List Int} (h : ∀ x ∈ l, 0 ≤ x ∧ x ≤ 255) (h1 : ∀ x ∈ l1, 0 ≤ x ∧ x ≤ 255) (h2 : ∀ x ∈ l2, 0 ≤ x ∧ x ≤ 255) (e1 : l1.length = l.length) (e2 : l2.length = l.length) :
    bl (tr l l1 l2 l.length) = List.zipWith (· ^^ ·) (List.zipWith (· ^^ ·) (bl (par l)) (bl (par l1))) (bl (par l2)) := by
  apply List.ext_getElem
  · simp [bl, tr, par, e1, e2]
  · intro j hj hj'
    have hjl : j < l.length := by simpa [bl, tr] using hj
    have hjl1 : j < l1.length := by omega
    have hjl2 : j < l2.length := by omega
    have ex := getD_in h j
    have ey := getD_in h1 j
    have ez := getD_in h2 j
    have ee := el_eq _ _ _ ex ey ez
    simp only [bl, tr, par, List.getElem_map, List.getElem_range, List.getElem_zipWith]
    rw [List.getD_eq_getElem?_getD, List.getElem?_eq_getElem hjl, Option.getD_some, List.getD_eq_getElem?_getD, List.getElem?_eq_getElem hjl1, Option.getD_some, List.getD_eq_getElem?_getD, List.getElem?_eq_getElem hjl2, Option.getD_some] at ee
    simp only [List.getD_eq_getElem?_getD, List.getElem?_eq_getElem hjl, List.getElem?_eq_getElem hjl1, List.getElem?_eq_getElem hjl2, Option.getD_some, ee]
    have hx : l[j] % 2 = 0 ∨ l[j] % 2 = 1 := by omega
    have hy : l1[j] % 2 = 0 ∨ l1[j] % 2 = 1 := by omega
    have hz : l2[j] % 2 = 0 ∨ l2[j] % 2 = 1 := by omega
    have hs : (l[j] + l1[j] + l2[j]) % 2 = (l[j] % 2 + l1[j] % 2 + l2[j] % 2) % 2 := by omega
    rw [hs]
    rcases hx with hx | hx <;> rcases hy with hy | hy <;> rcases hz with hz | hz <;> simp [hx, hy, hz]
theorem three {l l1 l2 : List Int} (h : ∀ x ∈ l, 0 ≤ x ∧ x ≤ 255) (h1 : ∀ x ∈ l1, 0 ≤ x ∧ x ≤ 255) (h2 : ∀ x ∈ l2, 0 ≤ x ∧ x ≤ 255) (e1 : l1.length = l.length) (e2 : l2.length = l.length) :
    tI (sumB 65535#16 (tr l l1 l2 l.length)) = bits .xor .i64 (bits .xor .i64 (tI (sumB 65535#16 (par l))) (tI (sumB 65535#16 (par l1)))) (tI (sumB 65535#16 (par l2))) := by
  rw [xor_tI, xor_tI]
  congr 1
  unfold sumB
  rw [tr_bits h h1 h2 e1 e2]
  have hs : (65535#16 : Plain.W) = (65535#16 ^^^ 65535#16) ^^^ 65535#16 := by decide
  have e := Plain.run_xor (65535#16 ^^^ 65535#16) 65535#16 (List.zipWith (· ^^ ·) (bl (par l)) (bl (par l1))) (bl (par l2)) (by simp [bl, par, e1, e2])
  rw [Plain.run_xor 65535#16 65535#16 (bl (par l)) (bl (par l1)) (by simp [bl, par, e1])] at e
  rw [← e, ← hs]
end Go.Proofs.Yteodhfgnjolcjaa
