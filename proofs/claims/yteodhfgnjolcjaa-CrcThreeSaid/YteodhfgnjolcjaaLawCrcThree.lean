/- CrcThree returns true: the sums of three lists of one length, by exclusive or, are that of the three lists bit by bit, for any three lists of bytes. No condition. -/
import Derived.Test.YteodhfgnjolcjaaRows
import Derived.Test.YteodhfgnjolcjaaXor
import Derived.StillTailTactics
import Derived.WalkKit
import Derived.ProofKit
import Derived.OpenShut
import Derived.ShutString
import Derived.ChangeOld
import Derived.Below
namespace Go.Proofs.Yteodhfgnjolcjaa.crcThree
open Go.ChangeShapes Go.WideShapes Go.ChangeAt Go.RowKit
open Go.ChangeMaps (open_string shut_string)
set_option linter.unusedVariables false

theorem own : ownKnob Try.prog.godebug = none := by kernel_rfl
theorem laidOut : laidOutB Try.prog = true := by kernel_rfl

/-- WHAT THE WALK IS TOLD OF A SLICE OF INTEGERS THAT CAME IN: it is nil; or it leads to a row of 'cap' cells, the numbers 'zs' (the first 'len' are its elements, the rest its spare room), each fitting its kind. -/
def IsRow (k : IntKind) (w : World) (a : Option Addr) (len cap : Nat) (zs : List Int) : Prop :=
  (a = none ∧ len = 0 ∧ cap = 0 ∧ zs = []) ∨
  ∃ x, a = some x ∧ len ≤ cap ∧ cap ≤ maxLen ∧ zs.length = cap ∧ (∀ i, i < zs.length → w.cell? (x.add i) = some (.int k (zs.getD i 0))) ∧ ∀ n ∈ zs, (Lit.int k n).wf = true

/-! ### The walk -/
theorem walk (a0 : Option Addr) (len0 cap0 : Nat) (z0 : List Int) (a1 : Option Addr) (len1 cap1 : Nat) (z1 : List Int) (a2 : Option Addr) (len2 cap2 : Nat) (z2 : List Int) (w : World) (w0 : IsRow .u8 w a0 len0 cap0 z0) (w1 : IsRow .u8 w a1 len1 cap1 z1) (w2 : IsRow .u8 w a2 len2 cap2 z2) :
    Calls Try.prog 7 #[.slice a0 len0 cap0, .slice a1 len1 cap1, .slice a2 len2 cap2] w fun e w' => e = .returned (.bool true) ∧ Below w.heap.size w w' := by
  obtain ⟨l, hr, _, hwf⟩ := rd_of_row w0
  have hl : ∀ x ∈ l, 0 ≤ x ∧ x ≤ 255 := fun x hx => bounds_u8 (hwf x hx)
  obtain ⟨l1, hr1, _, hwf1⟩ := rd_of_row w1
  have hl1 : ∀ x ∈ l1, 0 ≤ x ∧ x ≤ 255 := fun x hx => bounds_u8 (hwf1 x hx)
  obtain ⟨l2, hr2, _, hwf2⟩ := rd_of_row w2
  have hl2 : ∀ x ∈ l2, 0 ≤ x ∧ x ≤ 255 := fun x hx => bounds_u8 (hwf2 x hx)
  have hn := hr.le
  have hn1 := hr1.le
  have hn2 := hr2.le
  by_cases hbig : 20000 < len0
  · go_enter Try.func7, Try.ntmps7
    go_wp2_with fail
    refine (alive_any _).mono ?_
    rintro e wa ⟨rfl, hba⟩
    go_wp2_with fail
    go_ret
    exact ⟨rfl, hba⟩
  by_cases hbig1 : len1 = len0
  case neg =>
    have hd : ((len1 : Int) != (len0 : Int)) = true := by simp; omega
    go_enter Try.func7, Try.ntmps7
    go_wp2_with fail
    refine (alive_any _).mono ?_
    rintro e wa ⟨rfl, hba⟩
    go_wp2_with fail
    go_ret
    exact ⟨rfl, hba⟩
  subst hbig1
  by_cases hbig2 : len2 = len1
  case neg =>
    have hd : ((len2 : Int) != (len1 : Int)) = true := by simp; omega
    go_enter Try.func7, Try.ntmps7
    go_wp2_with fail
    refine (alive_any _).mono ?_
    rintro e wa ⟨rfl, hba⟩
    go_wp2_with fail
    go_ret
    exact ⟨rfl, hba⟩
  subst hbig2
  obtain ⟨i0, hi0, hz0, hz1, hz2⟩ := info_parts info5
  go_enter Try.func7, Try.ntmps7
  go_wp2_with fail
  refine (alive_any _).mono ?_
  rintro e wa ⟨rfl, hba⟩
  go_wp2_with (at_make; refine wpList_make_full _ rfl _ _ 25 rfl wa.heap.size 5 i0 _ 1 Try.underlying25 hi0 hz0 hz1 .i64 .i64 _ _ len2 rfl rfl rfl rfl (by rw [hz2]; omega) (by simp only [maxLen]; omega) (Nat.le_refl _) ?_; intro wb hown hgb)
  have hown0 : wb.ownsRow wa.heap.size 5 1 (.slice (some ⟨wa.heap.size, 0, none⟩) len2 len2) len2 (nums .u8 (tr l l1 l2 0 ++ List.replicate (len2 - 0) 0)) := by
    simpa [nums, tr, toList_madeCells_one, Value.cells] using hown
  have hgb' : Below wa.heap.size wa wb := (Below.refl _ _).grown hgb (Nat.le_refl _) (by simp)
  clear hown hgb
  go_loopw [9] (fun i wr => ∃ k : Nat, k ≤ len2 ∧ i = .int .i64 k ∧ wr.ownsRow wa.heap.size 5 1 (.slice (some ⟨wa.heap.size, 0, none⟩) len2 len2) len2 (nums .u8 (tr l l1 l2 k ++ List.replicate (len2 - k) 0)) ∧ Below wa.heap.size wa wr) (fun i _ => len2 - (intOf i).toNat)
  case atStart => exact ⟨0, by omega, rfl, hown0, hgb'⟩
  case round =>
    clear hown0 hgb'
    obtain ⟨k, hk, rfl, hor, hbr⟩ := hrel
    have gr := below_ hba hbr
    by_cases hlt : k < len2
    · obtain ⟨ad, rfl, hab, hcell⟩ := (hr.below gr).at_ hlt
      obtain ⟨ad1, rfl, hab1, hcell1⟩ := (hr1.below gr).at_ hlt
      obtain ⟨ad2, rfl, hab2, hcell2⟩ := (hr2.below gr).at_ hlt
      have hfz : wr.frozen? ⟨wa.heap.size, k, none⟩ = false := hor.frozenAt k
      have hcT : wr.cell? ⟨wa.heap.size, k, none⟩ = some (.int .u8 ((tr l l1 l2 k ++ List.replicate (len2 - k) 0).getD k 0)) := by
        rw [hor.cellAt k (by omega), nums_get _ _ _ (by simp [tr_length]; omega)]
      have h0k : (0 : Int) ≤ (k : Int) := by omega
      have hki : (k : Int) < (len2 : Int) := by omega
      go_wp2_with fail
      go_still_tail 18, (by kernel_rfl)
      go_wp2_with fail
      go_roundw
      case rel =>
        have hst := (hor.stored k (.int .u8 (el (l.getD k 0) (l1.getD k 0) (l2.getD k 0)))).1
        rw [set_at _ _ _ _ (tr_length _ _ _ _) hlt, ← tr_snoc] at hst
        simp only [List.getD_eq_getElem?_getD] at hst
        exact ⟨k + 1, by omega, by go_num, hst, (hbr.setCell (p := ⟨wa.heap.size, k, none⟩) (Nat.le_refl _) _).drew⟩
      case measure => simp [intOf]; omega
    · obtain rfl : k = len2 := by omega
      have hot : wr.ownsRow wa.heap.size 5 1 (.slice (some ⟨wa.heap.size, 0, none⟩) k k) k (nums .u8 (tr l l1 l2 k)) := by simpa using hor
      clear hor
      have hp := par_range l
      have hp1 := par_range l1
      have hp2 := par_range l2
      have HL := Lib.hid hr.len
      have HT := Lib.hid (three hl hl1 hl2 (by rw [hr1.len, hr.len]) (by rw [hr2.len, hr.len]))
      have htr := tr_range hl hl1 hl2 k
      go_wp2_with fail
      refine (bits_any a0 k cap0 _ l _ (hr.below gr) gr.size hl (by omega)).mono ?_
      rintro e wd ⟨A, c, rfl, hown, hbd⟩
      go_wp2_with fail
      refine (of_bits A k c _ (par l) _ (Rd.of_own hown) (Nat.le_refl _) hp).mono ?_
      rintro e we ⟨rfl, hbe⟩
      have hot1 := own_below (own_below hot hbd) hbe
      have ge := below_ gr (below_ hbd hbe)
      clear hown hot hbd hbe gr hba hbr
      go_wp2_with fail
      refine (bits_any a1 k cap1 _ l1 _ (hr1.below ge) ge.size hl1 (by omega)).mono ?_
      rintro e wd ⟨A, c, rfl, hown, hbd⟩
      go_wp2_with fail
      refine (of_bits A k c _ (par l1) _ (Rd.of_own hown) (Nat.le_refl _) hp1).mono ?_
      rintro e wf ⟨rfl, hbe⟩
      have hot2 := own_below (own_below hot1 hbd) hbe
      have gf := below_ ge (below_ hbd hbe)
      clear hown hot1 hbd hbe ge
      go_wp2_with fail
      refine (bits_any a2 k cap2 _ l2 _ (hr2.below gf) gf.size hl2 (by omega)).mono ?_
      rintro e wd ⟨A, c, rfl, hown, hbd⟩
      go_wp2_with fail
      refine (of_bits A k c _ (par l2) _ (Rd.of_own hown) (Nat.le_refl _) hp2).mono ?_
      rintro e wg ⟨rfl, hbe⟩
      have hot3 := own_below (own_below hot2 hbd) hbe
      have gg := below_ gf (below_ hbd hbe)
      clear hown hot2 hbd hbe gf
      go_wp2_with fail
      refine (of_bits (some ⟨wa.heap.size, 0, none⟩) k k _ (tr l l1 l2 k) _ (Rd.of_own hot3) (Nat.le_refl _) htr).mono ?_
      rintro e wh ⟨rfl, hbh⟩
      have e1 : (tI (sumB 65535#16 (tr l l1 l2 k)) == bits .xor .i64 (bits .xor .i64 (tI (sumB 65535#16 (par l))) (tI (sumB 65535#16 (par l1)))) (tI (sumB 65535#16 (par l2)))) = true := by
        rw [beq_iff_eq, ← HT.out, HL.out]
      go_wp2_with fail
      go_ret
      exact ⟨rfl, below_ gg hbh⟩

/-! ### THE ROW's STEP: WRITTEN OUT: LEAVE IT -/
set_option maxRecDepth 100000 in
theorem lifted (os : Os) (started : os.Started) (H : Type) (enc : TypeId × Value → H) :
    ReturnsInHanded {} Try.checked os 7 .any (Rows.crcThreeSpec.pre6 enc Try.prog Try.f7 Rows.crcThreeRow.domain false) (Rows.crcThreeSpec.post enc Try.prog Try.f7 false true false false) := by
  refine returnsInHanded_of_change (C := Try.checked) own started (by kernel_rfl) Try.func7
    (ChangeSpec.witness6 (enc := enc) (C := Try.checked) false ⟨#[], #[.slice none 0 0, .slice none 0 0, .slice none 0 0], []⟩ 8 (by kernel_rfl) (by kernel_rfl) (by kernel_rfl) (by kernel_rfl)) ?_
  intro W base args ds gs before hval0 hW hcnd _
  have hval : ∀ (j : Nat) t v, Try.f7.params[j]? = some t → args[j]? = some v → Value.okWide Try.prog W .any base t v := hval0
  have hW' := hW
  obtain ⟨p, q, hA0, hV, rfl, hfz, hnd⟩ := hW
  have hA : DataW.TrodAll enc Try.prog W 0 (fun _ => true) true Try.f7.params.toList args.toList ds p := hA0
  rw [Try.params7] at hA hval
  obtain ⟨v0, vs0, d0, ds0, p0, q0, hargs, rfl, rfl, h0, r0⟩ := trodAll_cons hA
  obtain ⟨v1, vs1, d1, ds1, p1, q1, rfl, rfl, rfl, h1, r1⟩ := trodAll_cons r0
  obtain ⟨v2, vs2, d2, ds2, p2, q2, rfl, rfl, rfl, h2, r2⟩ := trodAll_cons r1
  obtain ⟨rfl, rfl, rfl⟩ := trodAll_nil r2
  obtain rfl : args = #[v0, v1, v2] := by cases args; simp_all
  obtain ⟨rfl, rfl⟩ := trodVars_none hV
  obtain ⟨a0, len0, cap0, rfl⟩ := okWide_slice Try.underlying25 (hval 0 25 v0 rfl rfl)
  have k0 := h0
  have lt0 : ∀ x ∈ p0, x.block < W.heap.size := by obtain ⟨m, hm⟩ := k0; exact DataW.trod_lt m _ _ _ hm
  obtain ⟨z0, w0⟩ : ∃ zs, IsRow .u8 W a0 len0 cap0 zs := by
    obtain ⟨fuel, hf⟩ := h0
    rcases open_ints Try.underlying25 Try.underlying5 (by kernel_rfl) hf with ⟨hcs, _⟩ | ⟨x, l, c, zs, hcs, _, hl, hm, hz, _, hcell, hwz⟩
    · simp [Value.cells] at hcs
      obtain ⟨rfl, rfl, rfl⟩ := hcs
      exact ⟨[], .inl ⟨rfl, rfl, rfl, rfl⟩⟩
    · simp [Value.cells] at hcs
      obtain ⟨rfl, rfl, rfl⟩ := hcs
      exact ⟨zs, .inr ⟨_, rfl, hl, hm, by simpa using hz, hcell, hwz⟩⟩
  obtain ⟨a1, len1, cap1, rfl⟩ := okWide_slice Try.underlying25 (hval 1 25 v1 rfl rfl)
  have k1 := h1
  have lt1 : ∀ x ∈ p1, x.block < W.heap.size := by obtain ⟨m, hm⟩ := k1; exact DataW.trod_lt m _ _ _ hm
  obtain ⟨z1, w1⟩ : ∃ zs, IsRow .u8 W a1 len1 cap1 zs := by
    obtain ⟨fuel, hf⟩ := h1
    rcases open_ints Try.underlying25 Try.underlying5 (by kernel_rfl) hf with ⟨hcs, _⟩ | ⟨x, l, c, zs, hcs, _, hl, hm, hz, _, hcell, hwz⟩
    · simp [Value.cells] at hcs
      obtain ⟨rfl, rfl, rfl⟩ := hcs
      exact ⟨[], .inl ⟨rfl, rfl, rfl, rfl⟩⟩
    · simp [Value.cells] at hcs
      obtain ⟨rfl, rfl, rfl⟩ := hcs
      exact ⟨zs, .inr ⟨_, rfl, hl, hm, by simpa using hz, hcell, hwz⟩⟩
  obtain ⟨a2, len2, cap2, rfl⟩ := okWide_slice Try.underlying25 (hval 2 25 v2 rfl rfl)
  have k2 := h2
  have lt2 : ∀ x ∈ p2, x.block < W.heap.size := by obtain ⟨m, hm⟩ := k2; exact DataW.trod_lt m _ _ _ hm
  obtain ⟨z2, w2⟩ : ∃ zs, IsRow .u8 W a2 len2 cap2 zs := by
    obtain ⟨fuel, hf⟩ := h2
    rcases open_ints Try.underlying25 Try.underlying5 (by kernel_rfl) hf with ⟨hcs, _⟩ | ⟨x, l, c, zs, hcs, _, hl, hm, hz, _, hcell, hwz⟩
    · simp [Value.cells] at hcs
      obtain ⟨rfl, rfl, rfl⟩ := hcs
      exact ⟨[], .inl ⟨rfl, rfl, rfl, rfl⟩⟩
    · simp [Value.cells] at hcs
      obtain ⟨rfl, rfl, rfl⟩ := hcs
      exact ⟨zs, .inr ⟨_, rfl, hl, hm, by simpa using hz, hcell, hwz⟩⟩
  clear hA0 hval0
  refine (walk a0 len0 cap0 z0 a1 len1 cap1 z1 a2 len2 cap2 z2 W w0 w1 w2).mono fun e W' ⟨he, bel⟩ => ?_
  subst he
  exact ⟨_, rfl, _, _, _, [], _, [], hW', trodAll_mk1 (shut_bool Try.underlying4 _), (trodAll_cons_mk (Below.trod laidOut (by kernel_rfl) (of_decide_eq_true (by kernel_rfl)) k0 bel lt0) (trodAll_cons_mk (Below.trod laidOut (by kernel_rfl) (of_decide_eq_true (by kernel_rfl)) k1 bel lt1) (trodAll_cons_mk (Below.trod laidOut (by kernel_rfl) (of_decide_eq_true (by kernel_rfl)) k2 bel lt2) trodAll_mk0))), rfl, bel.frame _, fun h => by cases h⟩

theorem over : Rows.crcThreeRow.holds Try.pinned (OpenSpec.ofChange Rows.crcThreeSpec) :=
  OpenClaim.holds_of_wide 7 Try.f7 rfl rfl rfl rfl rfl rfl rfl ⟨rfl, rfl, rfl, rfl, rfl⟩ rfl rfl rfl rfl rfl (by kernel_rfl) Try.func7 (by kernel_rfl)
    (of_decide_eq_true (by kernel_rfl)) (by unfold Func.isWrapper; first | (rw [if_pos (by decide +kernel)]; kernel_rfl) | (rw [if_neg (by decide +kernel)]; exact ⟨rfl, rfl⟩))
    (fun os started H enc _ => lifted os started H enc)

/-- ████ THE STATEMENT ████ -/
theorem proved : Rows.CrcThreeSaid := over
#print axioms proved
end Go.Proofs.Yteodhfgnjolcjaa.crcThree
