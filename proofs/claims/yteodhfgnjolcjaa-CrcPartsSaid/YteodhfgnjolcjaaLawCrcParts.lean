/- CrcParts returns true: a sum goes on over parts, and the same bits behind turn unlike sums into unlike ones, for any three lists of bytes. No condition. -/
import Derived.Test.YteodhfgnjolcjaaRows
import Derived.Test.YteodhfgnjolcjaaBridge
import Derived.Test.YteodhfgnjolcjaaAppend
import Derived.WalkKit
import Derived.ProofKit
import Derived.OpenShut
import Derived.ShutString
import Derived.ChangeOld
import Derived.Below
namespace Go.Proofs.Yteodhfgnjolcjaa.crcParts
open Go.ChangeShapes Go.WideShapes Go.ChangeAt Go.RowKit
open Go.ChangeMaps (open_string shut_string)
set_option linter.unusedVariables false

theorem own : ownKnob Try.prog.godebug = none := by kernel_rfl
theorem laidOut : laidOutB Try.prog = true := by kernel_rfl

/-- WHAT THE WALK IS TOLD OF A SLICE OF INTEGERS THAT CAME IN: it is nil; or it leads to a row of 'cap' cells, the numbers 'zs' (the first 'len' are its elements, the rest its spare room), each fitting its kind. -/
def IsRow (k : IntKind) (w : World) (a : Option Addr) (len cap : Nat) (zs : List Int) : Prop :=
  (a = none ∧ len = 0 ∧ cap = 0 ∧ zs = []) ∨
  ∃ x, a = some x ∧ len ≤ cap ∧ cap ≤ maxLen ∧ zs.length = cap ∧ (∀ i, i < zs.length → w.cell? (x.add i) = some (.int k (zs.getD i 0))) ∧ ∀ n ∈ zs, (Lit.int k n).wf = true

theorem parts (s : Plain.W) (l m : List Int) : sumB s (l ++ m) = sumB (sumB s l) m := by
  unfold sumB
  rw [bl_append, Plain.run_append]
theorem behind (x y : Plain.W) (m : List Int) : (tI (sumB x m) == tI (sumB y m)) = (tI x == tI y) := by
  rw [Bool.eq_iff_iff, beq_iff_eq, beq_iff_eq]
  refine ⟨fun h => ?_, fun h => ?_⟩
  · rw [Plain.run_inj x y (bl m) (tI_inj h)]
  · rw [tI_inj h]

/-! ### The walk -/
theorem walk (a0 : Option Addr) (len0 cap0 : Nat) (z0 : List Int) (a1 : Option Addr) (len1 cap1 : Nat) (z1 : List Int) (a2 : Option Addr) (len2 cap2 : Nat) (z2 : List Int) (w : World) (w0 : IsRow .u8 w a0 len0 cap0 z0) (w1 : IsRow .u8 w a1 len1 cap1 z1) (w2 : IsRow .u8 w a2 len2 cap2 z2) :
    Calls Try.prog 6 #[.slice a0 len0 cap0, .slice a1 len1 cap1, .slice a2 len2 cap2] w fun e w' => e = .returned (.bool true) ∧ Below w.heap.size w w' := by
  obtain ⟨l, hr, _, hwf⟩ := rd_of_row w0
  have hl : ∀ x ∈ l, 0 ≤ x ∧ x ≤ 255 := fun x hx => bounds_u8 (hwf x hx)
  obtain ⟨l1, hr1, _, hwf1⟩ := rd_of_row w1
  have hl1 : ∀ x ∈ l1, 0 ≤ x ∧ x ≤ 255 := fun x hx => bounds_u8 (hwf1 x hx)
  obtain ⟨l2, hr2, _, hwf2⟩ := rd_of_row w2
  have hl2 : ∀ x ∈ l2, 0 ≤ x ∧ x ≤ 255 := fun x hx => bounds_u8 (hwf2 x hx)
  have hn := hr.le
  have hn1 := hr1.le
  have hn2 := hr2.le
  by_cases hbig : 20000 < len0
  · go_enter Try.func6, Try.ntmps6
    go_wp2_with fail
    refine (alive_any _).mono ?_
    rintro e wa ⟨rfl, hba⟩
    go_wp2_with fail
    go_ret
    exact ⟨rfl, hba⟩
  by_cases hbig1 : 20000 < len1
  · go_enter Try.func6, Try.ntmps6
    go_wp2_with fail
    refine (alive_any _).mono ?_
    rintro e wa ⟨rfl, hba⟩
    go_wp2_with fail
    go_ret
    exact ⟨rfl, hba⟩
  by_cases hbig2 : 20000 < len2
  · go_enter Try.func6, Try.ntmps6
    go_wp2_with fail
    refine (alive_any _).mono ?_
    rintro e wa ⟨rfl, hba⟩
    go_wp2_with fail
    go_ret
    exact ⟨rfl, hba⟩
  have Hpl := Lib.hid (show (par l).length = len0 by rw [par_length, hr.len])
  have Hpl2 := Lib.hid (show (par l2).length = len2 by rw [par_length, hr2.len])
  have hp := par_range l
  have hp1 := par_range l1
  have hp2 := par_range l2
  go_enter Try.func6, Try.ntmps6
  go_wp2_with fail
  refine (alive_any _).mono ?_
  rintro e wa ⟨rfl, hba⟩
  go_wp2_with fail
  refine (bits_any a0 len0 cap0 _ l _ (hr.below hba) hba.size hl (by omega)).mono ?_
  rintro e wb ⟨A, c, rfl, hown, hbb⟩
  go_wp2_with fail
  refine (of_bits A len0 c _ (par l) _ (Rd.of_own hown) (Nat.le_refl _) hp).mono ?_
  rintro e wc ⟨rfl, hbc⟩
  have gc := below_ hba (below_ hbb hbc)
  clear hown
  go_wp2_with fail
  refine (bits_any a1 len1 cap1 _ l1 _ (hr1.below gc) gc.size hl1 (by omega)).mono ?_
  rintro e wd ⟨A', c', rfl, hown', hbd⟩
  go_wp2_with fail
  refine (of_bits A' len1 c' _ (par l1) _ (Rd.of_own hown') (Nat.le_refl _) hp1).mono ?_
  rintro e we ⟨rfl, hbe⟩
  have ge := below_ gc (below_ hbd hbe)
  clear hown' hba hbb hbc gc hbd hbe
  go_wp2_with fail
  refine (bits_any a0 len0 cap0 _ l _ (hr.below ge) ge.size hl (by omega)).mono ?_
  rintro e wf ⟨A1, c1, rfl, hown1, hbf⟩
  go_wp2_with fail
  refine (bits_any a2 len2 cap2 _ l2 _ (hr2.below (below_ ge hbf)) (below_ ge hbf).size hl2 (by omega)).mono ?_
  rintro e wg ⟨A2, c2, rfl, hown2, hbg⟩
  have hob : wg.ownsRow we.heap.size 5 1 (.slice A1 len0 c1) (par l).length (nums .u8 (par l)) := by rw [Hpl.out]; exact own_below hown1 hbg
  have hrt := Rd.of_own hown2
  have hbx : Below we.heap.size we wg := below_ hbf hbg
  have HRG := Lib.hid (show ∀ x ∈ par l ++ par l2, 0 ≤ x ∧ x ≤ 1 from fun x hx => (List.mem_append.1 hx).elim (hp x) (hp2 x))
  have hlen2 : ((par l).length + len2) * 1 ≤ 140737488355328 := by rw [Hpl.out]; omega
  have HP := Lib.hid (parts 65535#16 (par l) (par l2))
  go_wp2_with (at_builtin; refine append_rd we.heap.size rfl (.tmp 51) (.tmp 53) 25 5 .u8 1 rfl Try.underlying25 info5 (by omega) _ (par l) rfl wg.heap.size A2 _ c2 (par l2) rfl hob hrt hbx hbx.size hlen2 ?_; intro v2 wh hown3 hbh _ _; rw [List.length_append] at hown3; obtain ⟨A3, c3, rfl⟩ := own_slice hown3)
  refine (of_bits A3 _ c3 _ (par l ++ par l2) _ (Rd.of_own hown3) (Nat.le_refl _) HRG.out).mono ?_
  rintro e wi ⟨rfl, hbi⟩
  have gi := below_ ge (below_ hbh hbi)
  clear hown3 hob hrt hown2 hown1 hbx hbf hbg hbh hbi
  go_wp2_with fail
  refine (bits_any a2 len2 cap2 _ l2 _ (hr2.below gi) gi.size hl2 (by omega)).mono ?_
  rintro e wj ⟨A4, c4, rfl, hown4, hbj⟩
  go_wp2_with fail
  refine (over_bits (sumB 65535#16 (par l)) A4 len2 c4 _ (par l2) _ (Rd.of_own hown4) (Nat.le_refl _) hp2).mono ?_
  rintro e wk ⟨rfl, hbk⟩
  have gk := below_ gi (below_ hbj hbk)
  clear hown4 gi hbj hbk
  go_wp2_with fail
  refine (bits_any a2 len2 cap2 _ l2 _ (hr2.below gk) gk.size hl2 (by omega)).mono ?_
  rintro e wl ⟨A5, c5, rfl, hown5, hbl⟩
  go_wp2_with fail
  refine (over_bits (sumB 65535#16 (par l1)) A5 len2 c5 _ (par l2) _ (Rd.of_own hown5) (Nat.le_refl _) hp2).mono ?_
  rintro e wm ⟨rfl, hbm⟩
  have gm := below_ gk (below_ hbl hbm)
  clear hown5 gk hbl hbm
  have e1 : (tI (sumB 65535#16 (par l ++ par l2)) == tI (sumB (sumB 65535#16 (par l)) (par l2))) = true := by rw [HP.out, beq_iff_eq]
  have e2 := behind (sumB 65535#16 (par l)) (sumB 65535#16 (par l1)) (par l2)
  cases hc : (tI (sumB 65535#16 (par l)) == tI (sumB 65535#16 (par l1)))
  all_goals
    rw [hc] at e2
    go_wp2_with fail
    go_ret
    exact ⟨rfl, gm⟩

/-! ### THE ROW's STEP: WRITTEN OUT: LEAVE IT -/
set_option maxRecDepth 100000 in
theorem lifted (os : Os) (started : os.Started) (H : Type) (enc : TypeId × Value → H) :
    ReturnsInHanded {} Try.checked os 6 .any (Rows.crcPartsSpec.pre6 enc Try.prog Try.f6 Rows.crcPartsRow.domain false) (Rows.crcPartsSpec.post enc Try.prog Try.f6 false true false false) := by
  refine returnsInHanded_of_change (C := Try.checked) own started (by kernel_rfl) Try.func6
    (ChangeSpec.witness6 (enc := enc) (C := Try.checked) false ⟨#[], #[.slice none 0 0, .slice none 0 0, .slice none 0 0], []⟩ 8 (by kernel_rfl) (by kernel_rfl) (by kernel_rfl) (by kernel_rfl)) ?_
  intro W base args ds gs before hval0 hW hcnd _
  have hval : ∀ (j : Nat) t v, Try.f6.params[j]? = some t → args[j]? = some v → Value.okWide Try.prog W .any base t v := hval0
  have hW' := hW
  obtain ⟨p, q, hA0, hV, rfl, hfz, hnd⟩ := hW
  have hA : DataW.TrodAll enc Try.prog W 0 (fun _ => true) true Try.f6.params.toList args.toList ds p := hA0
  rw [Try.params6] at hA hval
  obtain ⟨v0, vs0, d0, ds0, p0, q0, hargs, rfl, rfl, h0, r0⟩ := trodAll_cons hA
  obtain ⟨v1, vs1, d1, ds1, p1, q1, rfl, rfl, rfl, h1, r1⟩ := trodAll_cons r0
  obtain ⟨v2, vs2, d2, ds2, p2, q2, rfl, rfl, rfl, h2, r2⟩ := trodAll_cons r1
  obtain ⟨rfl, rfl, rfl⟩ := trodAll_nil r2
  obtain rfl : args = #[v0, v1, v2] := by cases args; simp_all
  obtain ⟨rfl, rfl⟩ := trodVars_none hV
  obtain ⟨a0, len0, cap0, rfl⟩ := okWide_slice Try.underlying25 (hval 0 25 v0 rfl rfl)
  have k0 := h0
  have lt0 : ∀ x ∈ p0, x.block < W.heap.size := by obtain ⟨m, hm⟩ := k0; exact DataW.trod_lt m _ _ _ hm
  obtain ⟨z0, w0⟩ : ∃ zs, IsRow .u8 W a0 len0 cap0 zs := by
    obtain ⟨fuel, hf⟩ := h0
    rcases open_ints Try.underlying25 Try.underlying5 (by kernel_rfl) hf with ⟨hcs, _⟩ | ⟨x, l, c, zs, hcs, _, hl, hm, hz, _, hcell, hwz⟩
    · simp [Value.cells] at hcs
      obtain ⟨rfl, rfl, rfl⟩ := hcs
      exact ⟨[], .inl ⟨rfl, rfl, rfl, rfl⟩⟩
    · simp [Value.cells] at hcs
      obtain ⟨rfl, rfl, rfl⟩ := hcs
      exact ⟨zs, .inr ⟨_, rfl, hl, hm, by simpa using hz, hcell, hwz⟩⟩
  obtain ⟨a1, len1, cap1, rfl⟩ := okWide_slice Try.underlying25 (hval 1 25 v1 rfl rfl)
  have k1 := h1
  have lt1 : ∀ x ∈ p1, x.block < W.heap.size := by obtain ⟨m, hm⟩ := k1; exact DataW.trod_lt m _ _ _ hm
  obtain ⟨z1, w1⟩ : ∃ zs, IsRow .u8 W a1 len1 cap1 zs := by
    obtain ⟨fuel, hf⟩ := h1
    rcases open_ints Try.underlying25 Try.underlying5 (by kernel_rfl) hf with ⟨hcs, _⟩ | ⟨x, l, c, zs, hcs, _, hl, hm, hz, _, hcell, hwz⟩
    · simp [Value.cells] at hcs
      obtain ⟨rfl, rfl, rfl⟩ := hcs
      exact ⟨[], .inl ⟨rfl, rfl, rfl, rfl⟩⟩
    · simp [Value.cells] at hcs
      obtain ⟨rfl, rfl, rfl⟩ := hcs
      exact ⟨zs, .inr ⟨_, rfl, hl, hm, by simpa using hz, hcell, hwz⟩⟩
  obtain ⟨a2, len2, cap2, rfl⟩ := okWide_slice Try.underlying25 (hval 2 25 v2 rfl rfl)
  have k2 := h2
  have lt2 : ∀ x ∈ p2, x.block < W.heap.size := by obtain ⟨m, hm⟩ := k2; exact DataW.trod_lt m _ _ _ hm
  obtain ⟨z2, w2⟩ : ∃ zs, IsRow .u8 W a2 len2 cap2 zs := by
    obtain ⟨fuel, hf⟩ := h2
    rcases open_ints Try.underlying25 Try.underlying5 (by kernel_rfl) hf with ⟨hcs, _⟩ | ⟨x, l, c, zs, hcs, _, hl, hm, hz, _, hcell, hwz⟩
    · simp [Value.cells] at hcs
      obtain ⟨rfl, rfl, rfl⟩ := hcs
      exact ⟨[], .inl ⟨rfl, rfl, rfl, rfl⟩⟩
    · simp [Value.cells] at hcs
      obtain ⟨rfl, rfl, rfl⟩ := hcs
      exact ⟨zs, .inr ⟨_, rfl, hl, hm, by simpa using hz, hcell, hwz⟩⟩
  clear hA0 hval0
  refine (walk a0 len0 cap0 z0 a1 len1 cap1 z1 a2 len2 cap2 z2 W w0 w1 w2).mono fun e W' ⟨he, bel⟩ => ?_
  subst he
  exact ⟨_, rfl, _, _, _, [], _, [], hW', trodAll_mk1 (shut_bool Try.underlying4 _), (trodAll_cons_mk (Below.trod laidOut (by kernel_rfl) (of_decide_eq_true (by kernel_rfl)) k0 bel lt0) (trodAll_cons_mk (Below.trod laidOut (by kernel_rfl) (of_decide_eq_true (by kernel_rfl)) k1 bel lt1) (trodAll_cons_mk (Below.trod laidOut (by kernel_rfl) (of_decide_eq_true (by kernel_rfl)) k2 bel lt2) trodAll_mk0))), rfl, bel.frame _, fun h => by cases h⟩

theorem over : Rows.crcPartsRow.holds Try.pinned (OpenSpec.ofChange Rows.crcPartsSpec) :=
  OpenClaim.holds_of_wide 6 Try.f6 rfl rfl rfl rfl rfl rfl rfl ⟨rfl, rfl, rfl, rfl, rfl⟩ rfl rfl rfl rfl rfl (by kernel_rfl) Try.func6 (by kernel_rfl)
    (of_decide_eq_true (by kernel_rfl)) (by unfold Func.isWrapper; first | (rw [if_pos (by decide +kernel)]; kernel_rfl) | (rw [if_neg (by decide +kernel)]; exact ⟨rfl, rfl⟩))
    (fun os started H enc _ => lifted os started H enc)

/-- ████ THE STATEMENT ████ -/
theorem proved : Rows.CrcPartsSaid := over
#print axioms proved
end Go.Proofs.Yteodhfgnjolcjaa.crcParts
