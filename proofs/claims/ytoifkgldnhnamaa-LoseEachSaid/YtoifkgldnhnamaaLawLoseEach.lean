/- LoseEach returns true: each lost line is filled for itself, a longer run from what is ahead alone, and in a run of two each is nearer to its own side, for any lines, numbers and place. No condition. -/
import Derived.Test.YtoifkgldnhnamaaRows
import Derived.Test.YtoifkgldnhnamaaMore
import Derived.WalkKit
import Derived.ProofKit
import Derived.OpenShut
import Derived.ShutString
import Derived.ChangeOld
import Derived.Below
namespace Go.Proofs.Ytoifkgldnhnamaa.loseEach
open Go.ChangeShapes Go.WideShapes Go.ChangeAt Go.RowKit
open Go.ChangeMaps (open_string shut_string)
set_option linter.unusedVariables false

theorem own : ownKnob Try.prog.godebug = none := by kernel_rfl
theorem laidOut : laidOutB Try.prog = true := by kernel_rfl

/-- WHAT THE WALK IS TOLD OF A SLICE OF INTEGERS THAT CAME IN: it is nil; or it leads to a row of 'cap' cells, the numbers 'zs' (the first 'len' are its elements, the rest its spare room), each fitting its kind. -/
def IsRow (k : IntKind) (w : World) (a : Option Addr) (len cap : Nat) (zs : List Int) : Prop :=
  (a = none ∧ len = 0 ∧ cap = 0 ∧ zs = []) ∨
  ∃ x, a = some x ∧ len ≤ cap ∧ cap ≤ maxLen ∧ zs.length = cap ∧ (∀ i, i < zs.length → w.cell? (x.add i) = some (.int k (zs.getD i 0))) ∧ ∀ n ∈ zs, (Lit.int k n).wf = true

theorem each_val {a m : Int} {l l' : List Int} (j : Nat) (h : 0 < l'.length) : val a m true (l.getD j 0) (l'.getD j 0) = lineOf a m l l' j := by
  unfold lineOf
  rw [show decide (0 < l'.length) = true from decide_eq_true h]
theorem each_nil {a m : Int} {l l' : List Int} (j : Nat) (h : l'.length = 0) : val a m false (l.getD j 0) 0 = lineOf a m l l' j := by
  have e : l' = [] := List.eq_nil_of_length_eq_zero h
  subst e
  rfl
theorem each_long {a m : Int} {l l' : List Int} (j : Nat) (h : 2 < m) : lineOf a m l [] j = lineOf a m l l' j := by
  unfold lineOf val
  simp only [show ¬ m ≤ 2 by omega, false_and, if_false]
theorem each_two {l l' : List Int} (j : Nat) (h : 0 < l'.length) : lineOf 1 2 l l' j = (l.getD j 0 * 2 + l'.getD j 0) / 3 ∧ lineOf 2 2 l l' j = (l.getD j 0 + l'.getD j 0 * 2) / 3 := by
  unfold lineOf val
  rw [show decide (0 < l'.length) = true from decide_eq_true h]
  refine ⟨?_, ?_⟩
  · rw [if_pos ⟨by omega, rfl⟩]
    congr 1
    omega
  · rw [if_pos ⟨by omega, rfl⟩]
    congr 1
    omega
theorem lines_cst (A A' : Option Addr) (c c' B : Nat) (x y v a m : Int) (w : World) (hr : Rd w B .i64 A 256 (cst x)) (hr' : Rd w B .i64 A' 256 (cst y)) (hB : B ≤ w.heap.size)
    (hx : -268435455 ≤ x ∧ x ≤ 268435455) (hy : -268435455 ≤ y ∧ y ≤ 268435455) (h : 1 ≤ a ∧ a ≤ m ∧ m ≤ 65536) (hv : val a m true x y = v) :
    Calls Try.prog 10 #[.slice A 256 c, .slice A' 256 c', .int .i64 a, .int .i64 m] w (Full (cst v) w) := by
  have he := cst_err x y a m hx hy h
  have hf := lines_full A A' 256 c 256 c' B (cst x) (cst y) a m w hr hr' hB he
  have ha := cst_ans x y a m hx hy h
  unfold ansL at ha
  rw [if_pos he, hv] at ha
  rwa [ha] at hf
theorem lines_cst_nil (A : Option Addr) (c B : Nat) (x v a m : Int) (w : World) (hr : Rd w B .i64 A 256 (cst x)) (hB : B ≤ w.heap.size)
    (hx : -268435455 ≤ x ∧ x ≤ 268435455) (h : 1 ≤ a ∧ a ≤ m ∧ m ≤ 65536) (hv : val a m false x 0 = v) :
    Calls Try.prog 10 #[.slice A 256 c, .slice none 0 0, .int .i64 a, .int .i64 m] w (Full (cst v) w) := by
  have he := nil_err x a m hx h
  have hf := lines_full A none 256 c 0 0 B (cst x) [] a m w hr (Rd.nil _ _ _ _) hB he
  have ha := nil_ans x a m hx h
  unfold ansL at ha
  rw [if_pos he, hv] at ha
  rwa [ha] at hf

/-! ### The walk -/
set_option maxHeartbeats 4000000 in
set_option maxRecDepth 100000 in
theorem walk (a0 : Option Addr) (len0 cap0 : Nat) (z0 : List Int) (a1 : Option Addr) (len1 cap1 : Nat) (z1 : List Int) (a2 : Int) (a3 : Int) (a4 : Int) (w : World) (w0 : IsRow .i64 w a0 len0 cap0 z0) (w1 : IsRow .i64 w a1 len1 cap1 z1) (w2 : (Lit.int .i64 a2).wf = true) (w3 : (Lit.int .i64 a3).wf = true) (w4 : (Lit.int .i64 a4).wf = true) :
    Calls Try.prog 6 #[.slice a0 len0 cap0, .slice a1 len1 cap1, .int .i64 a2, .int .i64 a3, .int .i64 a4] w fun e w' => e = .returned (.bool true) ∧ Below w.heap.size w w' := by
  obtain ⟨l, hr, _, _⟩ := rd_of_row w0
  obtain ⟨l', hr', _, _⟩ := rd_of_row w1
  have hn := hr.le
  have hn' := hr'.le
  by_cases hbig : 1000 < len0
  · go_enter Try.func6, Try.ntmps6
    go_wp2_with fail
    refine (alive_any _).mono ?_
    rintro e wa ⟨rfl, hba⟩
    go_wp2_with fail
    go_ret
    exact ⟨rfl, hba⟩
  by_cases hbig' : 1000 < len1
  · go_enter Try.func6, Try.ntmps6
    go_wp2_with fail
    refine (alive_any _).mono ?_
    rintro e wa ⟨rfl, hba⟩
    go_wp2_with fail
    go_ret
    exact ⟨rfl, hba⟩
  rcases err_cases l l' a2 a3 with he | ⟨he, hans⟩
  case inr =>
    have hd : (errL l l' a2 a3 != 0) = true := by simpa using he
    have HA := Lib.hid hans
    clear hans he
    go_enter Try.func6, Try.ntmps6
    go_wp2_with fail
    refine (alive_any _).mono ?_
    rintro e wa ⟨rfl, hba⟩
    go_wp2_with fail
    refine (lines_lit a0 a1 len0 cap0 len1 cap1 _ l l' a2 a3 _ (hr.below hba) (hr'.below hba) hba.size [] (errL l l' a2 a3) HA.out rfl).mono ?_
    rintro e wb ⟨A, c, rfl, _, hbb⟩
    go_wp2_with fail
    go_ret
    exact ⟨rfl, below_ hba hbb⟩
  obtain ⟨⟨g1, g2, g3⟩, e1, e2, ok1, ok2⟩ := err_zero he
  have HE := Lib.hid he
  obtain rfl : len0 = 256 := by rw [← hr.len]; exact e1
  by_cases hp0 : a4 < 0
  · clear e1 e2 he
    go_enter Try.func6, Try.ntmps6
    go_wp2_with fail
    refine (alive_any _).mono ?_
    rintro e wa ⟨rfl, hba⟩
    go_wp2_with fail
    refine (lines_full a0 a1 256 cap0 len1 cap1 _ l l' a2 a3 _ (hr.below hba) (hr'.below hba) hba.size HE.out).mono ?_
    rintro e wb ⟨A, c, rfl, hown, hbb⟩
    go_wp2_with fail
    go_ret
    exact ⟨rfl, below_ hba hbb⟩
  by_cases hp1 : 255 < a4
  · clear e1 e2 he
    go_enter Try.func6, Try.ntmps6
    go_wp2_with fail
    refine (alive_any _).mono ?_
    rintro e wa ⟨rfl, hba⟩
    go_wp2_with fail
    refine (lines_full a0 a1 256 cap0 len1 cap1 _ l l' a2 a3 _ (hr.below hba) (hr'.below hba) hba.size HE.out).mono ?_
    rintro e wb ⟨A, c, rfl, hown, hbb⟩
    go_wp2_with fail
    go_ret
    exact ⟨rfl, below_ hba hbb⟩
  obtain ⟨p, rfl⟩ := Int.eq_ofNat_of_zero_le (show 0 ≤ a4 by omega)
  have hp : p < 256 := by omega
  have hpi : (p : Int) < 256 := by omega
  have hpn : (0 : Int) ≤ (p : Int) := by omega
  have hx := okL_at ok1 (getD_mem (l := l) (j := p) (by rw [e1]; exact hp))
  have HX := Lib.hid hx
  have hcase : len1 = 256 ∨ len1 = 0 := by rw [← hr'.len]; exact e2
  have HL' := Lib.hid hr'.len
  have HOK := Lib.hid ok2
  have HP := Lib.hid (show 1 ≤ a2 ∧ a2 ≤ a3 ∧ a3 ≤ 65536 from ⟨g1, g2, g3⟩)
  have HERR := Lib.hid (fun (b : Int) (q : List Int) (h1 : 1 ≤ b ∧ b ≤ a3) (h2 : q.length = 256 ∨ q.length = 0) (h3 : okL q = true) => show errL l q b a3 = 0 by
    unfold errL
    rw [if_neg (by omega), if_neg (by omega), if_pos ⟨ok1, h3⟩])
  clear e1 e2 he hx ok1 ok2
  obtain ⟨x, hxe⟩ : ∃ x, l.getD p 0 = x := ⟨_, rfl⟩
  obtain ⟨y, hye⟩ : ∃ y, l'.getD p 0 = y := ⟨_, rfl⟩
  have HXE := Lib.hid hxe
  have HYE := Lib.hid hye
  rw [hxe] at HX
  clear hxe hye
  have HEN := Lib.hid (HERR.out a2 [] ⟨g1, g2⟩ (Or.inr rfl) rfl)
  rcases hcase with rfl | rfl
  · have HY := Lib.hid (okL_at HOK.out (getD_mem (l := l') (j := p) (by rw [HL'.out]; exact hp)))
    rw [HYE.out] at HY
    have HV := Lib.hid (each_val (a := a2) (m := a3) (l := l) (l' := l') p (by rw [HL'.out]; omega))
    rw [HXE.out, HYE.out] at HV
    by_cases h2 : 2 < a3
    · have HV2 := Lib.hid (each_long (a := a2) (m := a3) (l := l) (l' := l') p h2)
      go_enter Try.func6, Try.ntmps6
      go_wp2_with fail
      refine (alive_any _).mono ?_
      rintro e wa ⟨rfl, hba⟩
      go_wp2_with fail
      refine (lines_full a0 a1 256 cap0 256 cap1 _ l l' a2 a3 _ (hr.below hba) (hr'.below hba) hba.size HE.out).mono ?_
      rintro e wb ⟨A, c, rfl, hown, hbb⟩
      have gb := below_ hba hbb
      obtain ⟨ad, rfl, _, hc⟩ := (hr.below gb).at_ hp
      rw [HXE.out] at hc
      go_wp2_with fail
      refine (filled_any x _).mono ?_
      rintro e wc ⟨A1, c1, rfl, hown1, hbc⟩
      have gc := below_ gb hbc
      obtain ⟨ad', rfl, _, hc'⟩ := (hr'.below gc).at_ hp
      rw [HYE.out] at hc'
      go_wp2_with fail
      refine (filled_any y _).mono ?_
      rintro e wd ⟨A2, c2, rfl, hown2, hbd⟩
      go_wp2_with fail
      refine (lines_cst A1 A2 c1 c2 _ x y _ a2 a3 _ (Rd.of_own (own_below hown1 hbd)) (Rd.of_own hown2) (Nat.le_refl _) HX.out HY.out HP.out HV.out).mono ?_
      rintro e we ⟨A3, c3, rfl, hown3, hbe⟩
      have ge := below_ gc (below_ hbd hbe)
      have hoe := own_below (own_below (own_below hown hbc) hbd) hbe
      clear hown1 hown2 hown hba hbb hbc hbd hbe gb gc hc hc'
      obtain ⟨ad3, rfl, _, hc3⟩ := (Rd.of_own hoe).at_ hp
      rw [fl_getD _ _ _ _ _ hp] at hc3
      go_wp2_with fail
      refine (all_any A3 256 c3 _ (cst _) _ _ (Rd.of_own hown3)).mono ?_
      rw [allB_cst]
      rintro e wf ⟨rfl, rfl⟩
      clear hown3
      go_wp2_with fail
      refine (lines_full (some ad) none 256 cap0 0 0 _ l [] a2 a3 _ (hr.below ge) (Rd.nil _ _ _ _) ge.size HEN.out).mono ?_
      rintro e wg ⟨A4, c4, rfl, hown4, hbg⟩
      obtain ⟨ad4, rfl, _, hc4⟩ := (Rd.of_own hown4).at_ hp
      rw [fl_getD _ _ _ _ _ hp, HV2.out] at hc4
      obtain ⟨ad5, h5, _, hc5⟩ := (Rd.of_own (own_below hoe hbg)).at_ hp
      injection h5 with h5
      subst h5
      rw [fl_getD _ _ _ _ _ hp] at hc5
      clear hc3
      go_wp2_with fail
      go_quiet (fail)
      go_wp2_with fail
      go_ret
      exact ⟨rfl, below_drewN (below_ ge hbg) _⟩
    · by_cases h3 : a3 < 2
      · skip
        go_enter Try.func6, Try.ntmps6
        go_wp2_with fail
        refine (alive_any _).mono ?_
        rintro e wa ⟨rfl, hba⟩
        go_wp2_with fail
        refine (lines_full a0 a1 256 cap0 256 cap1 _ l l' a2 a3 _ (hr.below hba) (hr'.below hba) hba.size HE.out).mono ?_
        rintro e wb ⟨A, c, rfl, hown, hbb⟩
        have gb := below_ hba hbb
        obtain ⟨ad, rfl, _, hc⟩ := (hr.below gb).at_ hp
        rw [HXE.out] at hc
        go_wp2_with fail
        refine (filled_any x _).mono ?_
        rintro e wc ⟨A1, c1, rfl, hown1, hbc⟩
        have gc := below_ gb hbc
        obtain ⟨ad', rfl, _, hc'⟩ := (hr'.below gc).at_ hp
        rw [HYE.out] at hc'
        go_wp2_with fail
        refine (filled_any y _).mono ?_
        rintro e wd ⟨A2, c2, rfl, hown2, hbd⟩
        go_wp2_with fail
        refine (lines_cst A1 A2 c1 c2 _ x y _ a2 a3 _ (Rd.of_own (own_below hown1 hbd)) (Rd.of_own hown2) (Nat.le_refl _) HX.out HY.out HP.out HV.out).mono ?_
        rintro e we ⟨A3, c3, rfl, hown3, hbe⟩
        have ge := below_ gc (below_ hbd hbe)
        have hoe := own_below (own_below (own_below hown hbc) hbd) hbe
        clear hown1 hown2 hown hba hbb hbc hbd hbe gb gc hc hc'
        obtain ⟨ad3, rfl, _, hc3⟩ := (Rd.of_own hoe).at_ hp
        rw [fl_getD _ _ _ _ _ hp] at hc3
        go_wp2_with fail
        refine (all_any A3 256 c3 _ (cst _) _ _ (Rd.of_own hown3)).mono ?_
        rw [allB_cst]
        rintro e wf ⟨rfl, rfl⟩
        clear hown3
        go_wp2_with fail
        go_ret
        exact ⟨rfl, ge⟩
      · obtain rfl : a3 = 2 := by omega
        have HT := Lib.hid (each_two (l := l) (l' := l') p (by rw [HL'.out]; omega))
        rw [HXE.out, HYE.out] at HT
        obtain ⟨f, hfe⟩ : ∃ f, (x * 2 + y) / 3 = f := ⟨_, rfl⟩
        obtain ⟨s, hse⟩ : ∃ s, (x + y * 2) / 3 = s := ⟨_, rfl⟩
        have HF := Lib.hid (show 3 * f ≤ x * 2 + y ∧ x * 2 + y < 3 * f + 3 by omega)
        have HS := Lib.hid (show 3 * s ≤ x + y * 2 ∧ x + y * 2 < 3 * s + 3 by omega)
        rw [hfe, hse] at HT
        clear hfe hse
        have HEB := Lib.hid (fun b h => HERR.out b l' h (Or.inl HL'.out) HOK.out)
        rcases (show a2 = 1 ∨ a2 = 2 by omega) with rfl | rfl
        · skip
          go_enter Try.func6, Try.ntmps6
          go_wp2_with fail
          refine (alive_any _).mono ?_
          rintro e wa ⟨rfl, hba⟩
          go_wp2_with fail
          refine (lines_full a0 a1 256 cap0 256 cap1 _ l l' 1 2 _ (hr.below hba) (hr'.below hba) hba.size HE.out).mono ?_
          rintro e wb ⟨A, c, rfl, hown, hbb⟩
          have gb := below_ hba hbb
          obtain ⟨ad, rfl, _, hc⟩ := (hr.below gb).at_ hp
          rw [HXE.out] at hc
          go_wp2_with fail
          refine (filled_any x _).mono ?_
          rintro e wc ⟨A1, c1, rfl, hown1, hbc⟩
          have gc := below_ gb hbc
          obtain ⟨ad', rfl, _, hc'⟩ := (hr'.below gc).at_ hp
          rw [HYE.out] at hc'
          go_wp2_with fail
          refine (filled_any y _).mono ?_
          rintro e wd ⟨A2, c2, rfl, hown2, hbd⟩
          go_wp2_with fail
          refine (lines_cst A1 A2 c1 c2 _ x y _ 1 2 _ (Rd.of_own (own_below hown1 hbd)) (Rd.of_own hown2) (Nat.le_refl _) HX.out HY.out HP.out HV.out).mono ?_
          rintro e we ⟨A3, c3, rfl, hown3, hbe⟩
          have ge := below_ gc (below_ hbd hbe)
          have hoe := own_below (own_below (own_below hown hbc) hbd) hbe
          clear hown1 hown2 hown hba hbb hbc hbd hbe gb gc hc hc'
          obtain ⟨ad3, rfl, _, hc3⟩ := (Rd.of_own hoe).at_ hp
          rw [fl_getD _ _ _ _ _ hp] at hc3
          go_wp2_with fail
          refine (all_any A3 256 c3 _ (cst _) _ _ (Rd.of_own hown3)).mono ?_
          rw [allB_cst]
          rintro e wf ⟨rfl, rfl⟩
          clear hown3
          go_wp2_with fail
          refine (lines_full (some ad) (some ad') 256 cap0 256 cap1 _ l l' 2 2 _ (hr.below ge) (hr'.below ge) ge.size (HEB.out 2 (by omega))).mono ?_
          rintro e wg ⟨A4, c4, rfl, hown4, hbg⟩
          obtain ⟨ad4, rfl, _, hc4⟩ := (Rd.of_own hown4).at_ hp
          rw [fl_getD _ _ _ _ _ hp, HT.out.2] at hc4
          obtain ⟨ad5, h5, _, hc5⟩ := (Rd.of_own (own_below hoe hbg)).at_ hp
          injection h5 with h5
          subst h5
          rw [fl_getD _ _ _ _ _ hp, HT.out.1] at hc5
          have gg := below_ ge hbg
          obtain ⟨ad6, h6, _, hc6⟩ := (hr.below gg).at_ hp
          injection h6 with h6
          subst h6
          rw [HXE.out] at hc6
          obtain ⟨ad7, h7, _, hc7⟩ := (hr'.below gg).at_ hp
          injection h7 with h7
          subst h7
          rw [HYE.out] at hc7
          clear hc3
          obtain ⟨hf0, hf1⟩ := HF.out
          obtain ⟨hs0, hs1⟩ := HS.out
          obtain ⟨hx0, hx1⟩ := HX.out
          obtain ⟨hy0, hy1⟩ := HY.out
          go_wp2_with fail
          go_quiet (fail)
          go_wp2_with fail
          go_quiet (fail)
          go_wp2_with fail
          all_goals
            go_ret
            exact ⟨congrArg (fun z => Ending.returned (.bool z)) (decide_eq_true (by omega)), below_drewN gg _⟩
        · skip
          go_enter Try.func6, Try.ntmps6
          go_wp2_with fail
          refine (alive_any _).mono ?_
          rintro e wa ⟨rfl, hba⟩
          go_wp2_with fail
          refine (lines_full a0 a1 256 cap0 256 cap1 _ l l' 2 2 _ (hr.below hba) (hr'.below hba) hba.size HE.out).mono ?_
          rintro e wb ⟨A, c, rfl, hown, hbb⟩
          have gb := below_ hba hbb
          obtain ⟨ad, rfl, _, hc⟩ := (hr.below gb).at_ hp
          rw [HXE.out] at hc
          go_wp2_with fail
          refine (filled_any x _).mono ?_
          rintro e wc ⟨A1, c1, rfl, hown1, hbc⟩
          have gc := below_ gb hbc
          obtain ⟨ad', rfl, _, hc'⟩ := (hr'.below gc).at_ hp
          rw [HYE.out] at hc'
          go_wp2_with fail
          refine (filled_any y _).mono ?_
          rintro e wd ⟨A2, c2, rfl, hown2, hbd⟩
          go_wp2_with fail
          refine (lines_cst A1 A2 c1 c2 _ x y _ 2 2 _ (Rd.of_own (own_below hown1 hbd)) (Rd.of_own hown2) (Nat.le_refl _) HX.out HY.out HP.out HV.out).mono ?_
          rintro e we ⟨A3, c3, rfl, hown3, hbe⟩
          have ge := below_ gc (below_ hbd hbe)
          have hoe := own_below (own_below (own_below hown hbc) hbd) hbe
          clear hown1 hown2 hown hba hbb hbc hbd hbe gb gc hc hc'
          obtain ⟨ad3, rfl, _, hc3⟩ := (Rd.of_own hoe).at_ hp
          rw [fl_getD _ _ _ _ _ hp] at hc3
          go_wp2_with fail
          refine (all_any A3 256 c3 _ (cst _) _ _ (Rd.of_own hown3)).mono ?_
          rw [allB_cst]
          rintro e wf ⟨rfl, rfl⟩
          clear hown3
          go_wp2_with fail
          refine (lines_full (some ad) (some ad') 256 cap0 256 cap1 _ l l' 1 2 _ (hr.below ge) (hr'.below ge) ge.size (HEB.out 1 (by omega))).mono ?_
          rintro e wg ⟨A4, c4, rfl, hown4, hbg⟩
          obtain ⟨ad4, rfl, _, hc4⟩ := (Rd.of_own hown4).at_ hp
          rw [fl_getD _ _ _ _ _ hp, HT.out.1] at hc4
          obtain ⟨ad5, h5, _, hc5⟩ := (Rd.of_own (own_below hoe hbg)).at_ hp
          injection h5 with h5
          subst h5
          rw [fl_getD _ _ _ _ _ hp, HT.out.2] at hc5
          have gg := below_ ge hbg
          obtain ⟨ad6, h6, _, hc6⟩ := (hr.below gg).at_ hp
          injection h6 with h6
          subst h6
          rw [HXE.out] at hc6
          obtain ⟨ad7, h7, _, hc7⟩ := (hr'.below gg).at_ hp
          injection h7 with h7
          subst h7
          rw [HYE.out] at hc7
          clear hc3
          obtain ⟨hf0, hf1⟩ := HF.out
          obtain ⟨hs0, hs1⟩ := HS.out
          obtain ⟨hx0, hx1⟩ := HX.out
          obtain ⟨hy0, hy1⟩ := HY.out
          go_wp2_with fail
          go_quiet (fail)
          go_wp2_with fail
          go_quiet (fail)
          go_wp2_with fail
          all_goals
            go_ret
            exact ⟨congrArg (fun z => Ending.returned (.bool z)) (decide_eq_true (by omega)), below_drewN gg _⟩
  · have HV := Lib.hid (each_nil (a := a2) (m := a3) (l := l) (l' := l') p HL'.out)
    rw [HXE.out] at HV
    by_cases h2 : 2 < a3
    · have HV2 := Lib.hid (each_long (a := a2) (m := a3) (l := l) (l' := l') p h2)
      go_enter Try.func6, Try.ntmps6
      go_wp2_with fail
      refine (alive_any _).mono ?_
      rintro e wa ⟨rfl, hba⟩
      go_wp2_with fail
      refine (lines_full a0 a1 256 cap0 0 cap1 _ l l' a2 a3 _ (hr.below hba) (hr'.below hba) hba.size HE.out).mono ?_
      rintro e wb ⟨A, c, rfl, hown, hbb⟩
      have gb := below_ hba hbb
      obtain ⟨ad, rfl, _, hc⟩ := (hr.below gb).at_ hp
      rw [HXE.out] at hc
      go_wp2_with fail
      refine (filled_any x _).mono ?_
      rintro e wc ⟨A1, c1, rfl, hown1, hbc⟩
      have gc := below_ gb hbc
      go_wp2_with fail
      refine (lines_cst_nil A1 c1 _ x _ a2 a3 _ (Rd.of_own hown1) (Nat.le_refl _) HX.out HP.out HV.out).mono ?_
      rintro e we ⟨A3, c3, rfl, hown3, hbe⟩
      have ge := below_ gc hbe
      have hoe := own_below (own_below hown hbc) hbe
      clear hown1 hown hba hbb hbc hbe gb gc hc
      obtain ⟨ad3, rfl, _, hc3⟩ := (Rd.of_own hoe).at_ hp
      rw [fl_getD _ _ _ _ _ hp] at hc3
      go_wp2_with fail
      refine (all_any A3 256 c3 _ (cst _) _ _ (Rd.of_own hown3)).mono ?_
      rw [allB_cst]
      rintro e wf ⟨rfl, rfl⟩
      clear hown3
      go_wp2_with fail
      refine (lines_full (some ad) none 256 cap0 0 0 _ l [] a2 a3 _ (hr.below ge) (Rd.nil _ _ _ _) ge.size HEN.out).mono ?_
      rintro e wg ⟨A4, c4, rfl, hown4, hbg⟩
      obtain ⟨ad4, rfl, _, hc4⟩ := (Rd.of_own hown4).at_ hp
      rw [fl_getD _ _ _ _ _ hp, HV2.out] at hc4
      obtain ⟨ad5, h5, _, hc5⟩ := (Rd.of_own (own_below hoe hbg)).at_ hp
      injection h5 with h5
      subst h5
      rw [fl_getD _ _ _ _ _ hp] at hc5
      clear hc3
      go_wp2_with fail
      go_quiet (fail)
      go_wp2_with fail
      go_ret
      exact ⟨rfl, below_drewN (below_ ge hbg) _⟩
    · by_cases h3 : a3 < 2
      · skip
        go_enter Try.func6, Try.ntmps6
        go_wp2_with fail
        refine (alive_any _).mono ?_
        rintro e wa ⟨rfl, hba⟩
        go_wp2_with fail
        refine (lines_full a0 a1 256 cap0 0 cap1 _ l l' a2 a3 _ (hr.below hba) (hr'.below hba) hba.size HE.out).mono ?_
        rintro e wb ⟨A, c, rfl, hown, hbb⟩
        have gb := below_ hba hbb
        obtain ⟨ad, rfl, _, hc⟩ := (hr.below gb).at_ hp
        rw [HXE.out] at hc
        go_wp2_with fail
        refine (filled_any x _).mono ?_
        rintro e wc ⟨A1, c1, rfl, hown1, hbc⟩
        have gc := below_ gb hbc
        go_wp2_with fail
        refine (lines_cst_nil A1 c1 _ x _ a2 a3 _ (Rd.of_own hown1) (Nat.le_refl _) HX.out HP.out HV.out).mono ?_
        rintro e we ⟨A3, c3, rfl, hown3, hbe⟩
        have ge := below_ gc hbe
        have hoe := own_below (own_below hown hbc) hbe
        clear hown1 hown hba hbb hbc hbe gb gc hc
        obtain ⟨ad3, rfl, _, hc3⟩ := (Rd.of_own hoe).at_ hp
        rw [fl_getD _ _ _ _ _ hp] at hc3
        go_wp2_with fail
        refine (all_any A3 256 c3 _ (cst _) _ _ (Rd.of_own hown3)).mono ?_
        rw [allB_cst]
        rintro e wf ⟨rfl, rfl⟩
        clear hown3
        go_wp2_with fail
        go_ret
        exact ⟨rfl, ge⟩
      · obtain rfl : a3 = 2 := by omega
        go_enter Try.func6, Try.ntmps6
        go_wp2_with fail
        refine (alive_any _).mono ?_
        rintro e wa ⟨rfl, hba⟩
        go_wp2_with fail
        refine (lines_full a0 a1 256 cap0 0 cap1 _ l l' a2 2 _ (hr.below hba) (hr'.below hba) hba.size HE.out).mono ?_
        rintro e wb ⟨A, c, rfl, hown, hbb⟩
        have gb := below_ hba hbb
        obtain ⟨ad, rfl, _, hc⟩ := (hr.below gb).at_ hp
        rw [HXE.out] at hc
        go_wp2_with fail
        refine (filled_any x _).mono ?_
        rintro e wc ⟨A1, c1, rfl, hown1, hbc⟩
        have gc := below_ gb hbc
        go_wp2_with fail
        refine (lines_cst_nil A1 c1 _ x _ a2 2 _ (Rd.of_own hown1) (Nat.le_refl _) HX.out HP.out HV.out).mono ?_
        rintro e we ⟨A3, c3, rfl, hown3, hbe⟩
        have ge := below_ gc hbe
        have hoe := own_below (own_below hown hbc) hbe
        clear hown1 hown hba hbb hbc hbe gb gc hc
        obtain ⟨ad3, rfl, _, hc3⟩ := (Rd.of_own hoe).at_ hp
        rw [fl_getD _ _ _ _ _ hp] at hc3
        go_wp2_with fail
        refine (all_any A3 256 c3 _ (cst _) _ _ (Rd.of_own hown3)).mono ?_
        rw [allB_cst]
        rintro e wf ⟨rfl, rfl⟩
        clear hown3
        go_wp2_with fail
        go_ret
        exact ⟨rfl, ge⟩

/-! ### THE ROW's STEP: WRITTEN OUT: LEAVE IT -/
set_option maxRecDepth 100000 in
theorem lifted (os : Os) (started : os.Started) (H : Type) (enc : TypeId × Value → H) :
    ReturnsInHanded {} Try.checked os 6 .any (Rows.loseEachSpec.pre6 enc Try.prog Try.f6 Rows.loseEachRow.domain false) (Rows.loseEachSpec.post enc Try.prog Try.f6 false true false false) := by
  refine returnsInHanded_of_change (C := Try.checked) own started (by kernel_rfl) Try.func6
    (ChangeSpec.witness6 (enc := enc) (C := Try.checked) false ⟨#[], #[.slice none 0 0, .slice none 0 0, .int .i64 0, .int .i64 0, .int .i64 0], []⟩ 8 (by kernel_rfl) (by kernel_rfl) (by kernel_rfl) (by kernel_rfl)) ?_
  intro W base args ds gs before hval0 hW hcnd _
  have hval : ∀ (j : Nat) t v, Try.f6.params[j]? = some t → args[j]? = some v → Value.okWide Try.prog W .any base t v := hval0
  have hW' := hW
  obtain ⟨p, q, hA0, hV, rfl, hfz, hnd⟩ := hW
  have hA : DataW.TrodAll enc Try.prog W 0 (fun _ => true) true Try.f6.params.toList args.toList ds p := hA0
  rw [Try.params6] at hA hval
  obtain ⟨v0, vs0, d0, ds0, p0, q0, hargs, rfl, rfl, h0, r0⟩ := trodAll_cons hA
  obtain ⟨v1, vs1, d1, ds1, p1, q1, rfl, rfl, rfl, h1, r1⟩ := trodAll_cons r0
  obtain ⟨v2, vs2, d2, ds2, p2, q2, rfl, rfl, rfl, h2, r2⟩ := trodAll_cons r1
  obtain ⟨v3, vs3, d3, ds3, p3, q3, rfl, rfl, rfl, h3, r3⟩ := trodAll_cons r2
  obtain ⟨v4, vs4, d4, ds4, p4, q4, rfl, rfl, rfl, h4, r4⟩ := trodAll_cons r3
  obtain ⟨rfl, rfl, rfl⟩ := trodAll_nil r4
  obtain rfl : args = #[v0, v1, v2, v3, v4] := by cases args; simp_all
  obtain ⟨rfl, rfl⟩ := trodVars_none hV
  obtain ⟨a0, len0, cap0, rfl⟩ := okWide_slice Try.underlying22 (hval 0 22 v0 rfl rfl)
  have k0 := h0
  have lt0 : ∀ x ∈ p0, x.block < W.heap.size := by obtain ⟨m, hm⟩ := k0; exact DataW.trod_lt m _ _ _ hm
  obtain ⟨z0, w0⟩ : ∃ zs, IsRow .i64 W a0 len0 cap0 zs := by
    obtain ⟨fuel, hf⟩ := h0
    rcases open_ints Try.underlying22 Try.underlying3 (by kernel_rfl) hf with ⟨hcs, _⟩ | ⟨x, l, c, zs, hcs, _, hl, hm, hz, _, hcell, hwz⟩
    · simp [Value.cells] at hcs
      obtain ⟨rfl, rfl, rfl⟩ := hcs
      exact ⟨[], .inl ⟨rfl, rfl, rfl, rfl⟩⟩
    · simp [Value.cells] at hcs
      obtain ⟨rfl, rfl, rfl⟩ := hcs
      exact ⟨zs, .inr ⟨_, rfl, hl, hm, by simpa using hz, hcell, hwz⟩⟩
  obtain ⟨a1, len1, cap1, rfl⟩ := okWide_slice Try.underlying22 (hval 1 22 v1 rfl rfl)
  have k1 := h1
  have lt1 : ∀ x ∈ p1, x.block < W.heap.size := by obtain ⟨m, hm⟩ := k1; exact DataW.trod_lt m _ _ _ hm
  obtain ⟨z1, w1⟩ : ∃ zs, IsRow .i64 W a1 len1 cap1 zs := by
    obtain ⟨fuel, hf⟩ := h1
    rcases open_ints Try.underlying22 Try.underlying3 (by kernel_rfl) hf with ⟨hcs, _⟩ | ⟨x, l, c, zs, hcs, _, hl, hm, hz, _, hcell, hwz⟩
    · simp [Value.cells] at hcs
      obtain ⟨rfl, rfl, rfl⟩ := hcs
      exact ⟨[], .inl ⟨rfl, rfl, rfl, rfl⟩⟩
    · simp [Value.cells] at hcs
      obtain ⟨rfl, rfl, rfl⟩ := hcs
      exact ⟨zs, .inr ⟨_, rfl, hl, hm, by simpa using hz, hcell, hwz⟩⟩
  obtain ⟨a2, rfl, rfl, rfl, w2⟩ := open_int Try.underlying3 (hval 2 3 v2 rfl rfl) h2
  obtain ⟨a3, rfl, rfl, rfl, w3⟩ := open_int Try.underlying3 (hval 3 3 v3 rfl rfl) h3
  obtain ⟨a4, rfl, rfl, rfl, w4⟩ := open_int Try.underlying3 (hval 4 3 v4 rfl rfl) h4
  clear hA0 hval0
  refine (walk a0 len0 cap0 z0 a1 len1 cap1 z1 a2 a3 a4 W w0 w1 w2 w3 w4).mono fun e W' ⟨he, bel⟩ => ?_
  subst he
  exact ⟨_, rfl, _, _, _, [], _, [], hW', trodAll_mk1 (shut_bool Try.underlying4 _), (trodAll_cons_mk (Below.trod laidOut (by kernel_rfl) (of_decide_eq_true (by kernel_rfl)) k0 bel lt0) (trodAll_cons_mk (Below.trod laidOut (by kernel_rfl) (of_decide_eq_true (by kernel_rfl)) k1 bel lt1) (trodAll_cons_mk (shut_int Try.underlying3 w2) (trodAll_cons_mk (shut_int Try.underlying3 w3) (trodAll_cons_mk (shut_int Try.underlying3 w4) trodAll_mk0))))), rfl, bel.frame _, fun h => by cases h⟩

theorem over : Rows.loseEachRow.holds Try.pinned (OpenSpec.ofChange Rows.loseEachSpec) :=
  OpenClaim.holds_of_wide 6 Try.f6 rfl rfl rfl rfl rfl rfl rfl ⟨rfl, rfl, rfl, rfl, rfl⟩ rfl rfl rfl rfl rfl (by kernel_rfl) Try.func6 (by kernel_rfl)
    (of_decide_eq_true (by kernel_rfl)) (by unfold Func.isWrapper; first | (rw [if_pos (by decide +kernel)]; kernel_rfl) | (rw [if_neg (by decide +kernel)]; exact ⟨rfl, rfl⟩))
    (fun os started H enc _ => lifted os started H enc)

/-- ████ THE STATEMENT ████ -/
theorem proved : Rows.LoseEachSaid := over
#print axioms proved
end Go.Proofs.Ytoifkgldnhnamaa.loseEach
