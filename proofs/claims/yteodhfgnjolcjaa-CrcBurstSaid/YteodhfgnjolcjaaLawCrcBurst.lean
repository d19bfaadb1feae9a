/- CrcBurst returns true: bits that are turned, at least one, all of them among 16 that stand one behind the other, give another sum, for any bytes, place and turned bits. No condition. -/
import Derived.Test.YteodhfgnjolcjaaRows
import Derived.Test.YteodhfgnjolcjaaXor
import Derived.Test.YteodhfgnjolcjaaText
import Derived.StillTailTactics
import Derived.WalkKit
import Derived.ProofKit
import Derived.OpenShut
import Derived.ShutString
import Derived.ChangeOld
import Derived.Below
namespace Go.Proofs.Yteodhfgnjolcjaa.crcBurst
open Go.ChangeShapes Go.WideShapes Go.ChangeAt Go.RowKit
open Go.ChangeMaps (open_string shut_string)
set_option linter.unusedVariables false

theorem own : ownKnob Try.prog.godebug = none := by kernel_rfl
theorem laidOut : laidOutB Try.prog = true := by kernel_rfl

/-- WHAT THE WALK IS TOLD OF A SLICE OF INTEGERS THAT CAME IN: it is nil; or it leads to a row of 'cap' cells, the numbers 'zs' (the first 'len' are its elements, the rest its spare room), each fitting its kind. -/
def IsRow (k : IntKind) (w : World) (a : Option Addr) (len cap : Nat) (zs : List Int) : Prop :=
  (a = none ∧ len = 0 ∧ cap = 0 ∧ zs = []) ∨
  ∃ x, a = some x ∧ len ≤ cap ∧ cap ≤ maxLen ∧ zs.length = cap ∧ (∀ i, i < zs.length → w.cell? (x.add i) = some (.int k (zs.getD i 0))) ∧ ∀ n ∈ zs, (Lit.int k n).wf = true

/-- y is p, but for k bits from place F on. -/
def Burst (p : List Int) (F k : Nat) (y : List Int) : Prop := ∃ m : List Int, m.length = k ∧ (∀ x ∈ m, 0 ≤ x ∧ x ≤ 1) ∧ y = p.take F ++ m ++ p.drop (F + k)
theorem Burst.start (p : List Int) (F : Nat) : Burst p F 0 p := ⟨[], rfl, by simp, by simp⟩
theorem Burst.step {p : List Int} {F k : Nat} {y : List Int} (h : Burst p F k y) (hlt : F + k < p.length) (v : Int) (hv : 0 ≤ v ∧ v ≤ 1) : Burst p F (k + 1) (y.set (F + k) v) := by
  obtain ⟨m, hm, hr, rfl⟩ := h
  refine ⟨m ++ [v], by simp [hm], fun x hx => ?_, ?_⟩
  · rcases List.mem_append.1 hx with h | h
    · exact hr x h
    · obtain rfl : x = v := by simpa using h
      exact hv
  · have hd : p.drop (F + k) = p[F + k] :: p.drop (F + (k + 1)) := List.drop_eq_getElem_cons hlt
    have hl : (p.take F ++ m).length = F + k := by simp [hm]; omega
    rw [hd, List.set_append_right _ _ (by omega), hl]
    simp
theorem Burst.range {p : List Int} {F k : Nat} {y : List Int} (h : Burst p F k y) (hp : ∀ x ∈ p, 0 ≤ x ∧ x ≤ 1) : ∀ x ∈ y, 0 ≤ x ∧ x ≤ 1 := by
  obtain ⟨m, hm, hr, rfl⟩ := h
  intro x hx
  simp only [List.mem_append] at hx
  rcases hx with (h | h) | h
  · exact hp x (List.mem_of_mem_take h)
  · exact hr x h
  · exact hp x (List.mem_of_mem_drop h)
theorem Burst.len {p : List Int} {F k : Nat} {y : List Int} (h : Burst p F k y) (hlt : F + k ≤ p.length) : y.length = p.length := by
  obtain ⟨m, hm, hr, rfl⟩ := h
  simp [hm]
  omega
theorem Burst.sums {p : List Int} {F k : Nat} {y : List Int} (h : Burst p F k y) (hlt : F + k ≤ p.length) (h16 : k ≤ 16) (hp : ∀ x ∈ p, 0 ≤ x ∧ x ≤ 1) :
    (tI (sumB 65535#16 p) == tI (sumB 65535#16 y)) = ((strOfNums p).toList == (strOfNums y).toList) := by
  have hy := h.range hp
  have hs : tI (sumB 65535#16 p) = tI (sumB 65535#16 y) → p = y := by
    intro e
    have e1 := tI_inj e
    obtain ⟨m, hm, hr, rfl⟩ := h
    have hsplit : p = p.take F ++ (p.drop F).take k ++ p.drop (F + k) := by
      rw [List.append_assoc]
      have : (p.drop F).take k ++ p.drop (F + k) = p.drop F := by rw [← List.drop_drop, List.take_append_drop]
      rw [this, List.take_append_drop]
    unfold sumB at e1
    have e2 : Plain.run 65535#16 (bl (p.take F) ++ bl ((p.drop F).take k) ++ bl (p.drop (F + k))) = Plain.run 65535#16 (bl (p.take F) ++ bl m ++ bl (p.drop (F + k))) := by
      rw [← bl_append, ← bl_append, ← bl_append, ← bl_append, ← hsplit]
      exact e1
    have e3 := Plain.run_burst _ _ _ _ _ (by simp [bl, hm]; omega) (by simp [bl]; omega) e2
    have e4 := bl_inj (fun x hx => hp x (List.mem_of_mem_drop (List.mem_of_mem_take hx))) hr e3
    rw [← e4]
    exact hsplit
  rw [Bool.eq_iff_iff, beq_iff_eq, beq_iff_eq]
  refine ⟨fun e => by rw [← hs e], fun e => ?_⟩
  rw [ByteArray.toList_eq, ByteArray.toList_eq, strOfNums_data, strOfNums_data] at e
  have e5 : strOfNums p = strOfNums y := by unfold strOfNums; rw [e]
  rw [← strOfNums_inj (fun x hx => by have := hp x hx; omega) (fun x hx => by have := hy x hx; omega) e5]
theorem nums_set (y : List Int) (j : Nat) (v : Int) : (nums .u8 y).set j (.int .u8 v) = nums .u8 (y.set j v) := by simp [nums, List.map_set]
theorem and_one (x : Int) (h0 : 0 ≤ x) (h1 : x ≤ 65535) : bits .and .u16 x 1 % 256 = x % 2 := by
  have h := bits_mask .u16 16 (by decide) (fun n h0 h1 => by rw [wrap_u16]; omega) 1 (by decide) x h0 (by omega)
  have e : (bits .and .u16 x 1) = x % 2 := h
  rw [e]
  omega
theorem turn_range (x T : Int) (k : Nat) (hx : 0 ≤ x ∧ x ≤ 1) (h0 : 0 ≤ T) (h1 : T ≤ 65535) : 0 ≤ bits .xor .u8 x (bits .and .u16 (T / 2 ^ k) 1 % 256) ∧ bits .xor .u8 x (bits .and .u16 (T / 2 ^ k) 1 % 256) ≤ 1 := by
  have hp : (0 : Int) < 2 ^ k := Int.pow_pos (by omega)
  rw [and_one _ (Int.ediv_nonneg h0 (by omega)) (Int.le_trans (Int.ediv_le_self _ h0) h1)]
  generalize T / 2 ^ k = y
  rw [(xor_u8 x (y % 2) (by omega) (by omega)).1]
  have h : x.toNat ^^^ (y % 2).toNat < 2 ^ 1 := Nat.xor_lt_two_pow (by omega) (by omega)
  omega

/-! ### The walk -/
theorem walk (a0 : Option Addr) (len0 cap0 : Nat) (z0 : List Int) (a1 : Int) (a2 : Int) (w : World) (w0 : IsRow .u8 w a0 len0 cap0 z0) (w1 : (Lit.int .u16 a1).wf = true) (w2 : (Lit.int .u16 a2).wf = true) :
    Calls Try.prog 5 #[.slice a0 len0 cap0, .int .u16 a1, .int .u16 a2] w fun e w' => e = .returned (.bool true) ∧ Below w.heap.size w w' := by
  obtain ⟨l, hr, _, hwf⟩ := rd_of_row w0
  have hl : ∀ x ∈ l, 0 ≤ x ∧ x ≤ 255 := fun x hx => bounds_u8 (hwf x hx)
  have hn := hr.le
  obtain ⟨h10, h11⟩ := bounds_u16 w1
  obtain ⟨h20, h21⟩ := bounds_u16 w2
  by_cases hz : len0 = 0
  · subst hz
    go_enter Try.func5, Try.ntmps5
    go_wp2_with fail
    refine (alive_any _).mono ?_
    rintro e wa ⟨rfl, hba⟩
    go_wp2_with fail
    go_ret
    exact ⟨rfl, hba⟩
  have hz' : ((len0 : Int) == 0) = false := by simp; omega
  by_cases hbig : 20000 < len0
  · go_enter Try.func5, Try.ntmps5
    go_wp2_with fail
    refine (alive_any _).mono ?_
    rintro e wa ⟨rfl, hba⟩
    go_wp2_with fail
    go_ret
    exact ⟨rfl, hba⟩
  have hp := par_range l
  have Hpl := Lib.hid (show (par l).length = len0 by rw [par_length, hr.len])
  obtain ⟨F, hF⟩ : ∃ F : Nat, a1 % (len0 : Int) = (F : Int) := ⟨(a1 % (len0 : Int)).toNat, by have := Int.emod_nonneg a1 (show (len0 : Int) ≠ 0 by omega); omega⟩
  have hFn : F < len0 := by have := Int.emod_lt_of_pos a1 (show (0 : Int) < len0 by omega); omega
  have hpos : (1 : Int) ≤ (len0 : Int) := by omega
  go_enter Try.func5, Try.ntmps5
  go_wp2_with fail
  refine (alive_any _).mono ?_
  rintro e wa ⟨rfl, hba⟩
  go_wp2_with fail
  refine (bits_any a0 len0 cap0 _ l _ (hr.below hba) hba.size hl (by omega)).mono ?_
  rintro e wb ⟨A, c, rfl, hown, hbb⟩
  have gb := below_ hba hbb
  have hrb := Rd.of_own hown
  clear hown hba hbb
  go_wp2_with fail
  refine (bits_any a0 len0 cap0 _ l _ (hr.below gb) gb.size hl (by omega)).mono ?_
  rintro e wc ⟨A', c', rfl, hown, hbc⟩
  obtain ⟨g, cap', hA, hgb, hgl⟩ := hown.form (by omega)
  obtain rfl : A' = some ⟨g, 0, none⟩ := by injection hA
  clear hA
  go_wp2_with fail
  rw [hF]
  have HF := Lib.hid hF
  clear hF
  have hBu := Burst.start (par l) F
  go_loopw [11] (fun i wr => ∃ (k : Nat) (y : List Int), k ≤ 16 ∧ F + k ≤ len0 ∧ i = .int .i64 k ∧ wr.ownsRow wb.heap.size 5 1 (.slice (some ⟨g, 0, none⟩) len0 c') len0 (nums .u8 y) ∧ Hid (Burst (par l) F k y) ∧ Below wb.heap.size wb wr) (fun i _ => 16 - (intOf i).toNat)
  case atStart => exact ⟨0, par l, by omega, by omega, rfl, hown, hBu, hbc⟩
  case round =>
    clear hown hbc hBu
    obtain ⟨k, y, hk, hFk, rfl, hor, HB, hbr⟩ := hrel
    have hgr : wb.heap.size ≤ g := hgb
    have HY := Lib.hid (show y.length = len0 by rw [HB.out.len (by rw [Hpl.out]; omega), Hpl.out])
    by_cases hlt : k < 16 ∧ F + k < len0
    · obtain ⟨hlt1, hlt2⟩ := hlt
      have hfz : wr.frozen? ⟨g, F + k, none⟩ = false := hor.frozenAt (F + k)
      have hcT : wr.cell? ⟨g, F + k, none⟩ = some (.int .u8 (y.getD (F + k) 0)) := by
        rw [hor.cellAt (F + k) (by omega), nums_get _ _ _ (by rw [HY.out]; omega)]
      have hin : 0 ≤ y.getD (F + k) 0 ∧ y.getD (F + k) 0 ≤ 1 := by
        rw [List.getD_eq_getElem?_getD, List.getElem?_eq_getElem (by rw [HY.out]; omega), Option.getD_some]
        exact HB.out.range hp _ (List.getElem_mem _)
      have HS := Lib.hid (fun v hv => HB.out.step (by rw [Hpl.out]; exact hlt2) v hv)
      have HV := Lib.hid (turn_range (y.getD (F + k) 0) a2 k hin h20 h21)
      obtain ⟨hin0, hin1⟩ := hin
      have h0k : (0 : Int) ≤ (F : Int) + (k : Int) := by omega
      have hki : (F : Int) + (k : Int) < (len0 : Int) := by omega
      have hwrap : IntKind.i64.wrap ((F : Int) + (k : Int)) = (F : Int) + (k : Int) := IntWalk.i64_in _ (by omega)
      have htn : ((F : Int) + (k : Int)).toNat = F + k := by omega
      go_wp2_with fail
      go_still_tail 17, (by kernel_rfl)
      go_wp2_with fail
      go_roundw
      case rel =>
        have hst := (hor.stored (F + k) (.int .u8 (bits .xor .u8 (y.getD (F + k) 0) (bits .and .u16 (a2 / 2 ^ k) 1 % 256)))).1
        rw [nums_set] at hst
        have hbs := HS.out _ HV.out
        simp only [List.getD_eq_getElem?_getD] at hst hbs
        exact ⟨k + 1, _, by omega, by omega, by go_num, hst, hbs, (hbr.setCell (p := ⟨g, F + k, none⟩) hgr _).drew⟩
      case measure => simp [intOf]; omega
    · have hrk := hrb.below hbr
      have hry := Rd.of_own hor
      have gr := below_then gb gb.size hbr
      have HSUM := Lib.hid (HB.out.sums (by rw [Hpl.out]; exact hFk) hk hp)
      have hyr := HB.out.range hp
      have hpp := hp
      have hsz := hbr.size
      clear hor HB hbr
      rcases (show (k < 16 ∧ ¬ ((F : Int) + (k : Int) < (len0 : Int))) ∨ ¬ k < 16 by omega) with ⟨h1, h2⟩ | h1
      all_goals
        go_wp2_with fail
        refine (of_bits A len0 c _ (par l) _ hrk hsz hpp).mono ?_
        rintro e wd ⟨rfl, hbd⟩
        go_wp2_with fail
        refine (of_bits (some ⟨g, 0, none⟩) len0 c' _ y _ (hry.below hbd) hbd.size hyr).mono ?_
        rintro e we ⟨rfl, hbe⟩
        have q1 := run_conv (c := c) ((hrk.more hsz).below (below_ hbd hbe))
        have q2 := run_conv (c := c') (hry.below (below_ hbd hbe))
        have e1 := HSUM.out
        cases hc : ((strOfNums (par l)).toList == (strOfNums y).toList)
        all_goals
          rw [hc] at e1
          go_wp2_with fail
          go_ret
          exact ⟨rfl, below_ gr (below_ hbd hbe)⟩

/-! ### THE ROW's STEP: WRITTEN OUT: LEAVE IT -/
set_option maxRecDepth 100000 in
theorem lifted (os : Os) (started : os.Started) (H : Type) (enc : TypeId × Value → H) :
    ReturnsInHanded {} Try.checked os 5 .any (Rows.crcBurstSpec.pre6 enc Try.prog Try.f5 Rows.crcBurstRow.domain false) (Rows.crcBurstSpec.post enc Try.prog Try.f5 false true false false) := by
  refine returnsInHanded_of_change (C := Try.checked) own started (by kernel_rfl) Try.func5
    (ChangeSpec.witness6 (enc := enc) (C := Try.checked) false ⟨#[], #[.slice none 0 0, .int .u16 0, .int .u16 0], []⟩ 8 (by kernel_rfl) (by kernel_rfl) (by kernel_rfl) (by kernel_rfl)) ?_
  intro W base args ds gs before hval0 hW hcnd _
  have hval : ∀ (j : Nat) t v, Try.f5.params[j]? = some t → args[j]? = some v → Value.okWide Try.prog W .any base t v := hval0
  have hW' := hW
  obtain ⟨p, q, hA0, hV, rfl, hfz, hnd⟩ := hW
  have hA : DataW.TrodAll enc Try.prog W 0 (fun _ => true) true Try.f5.params.toList args.toList ds p := hA0
  rw [Try.params5] at hA hval
  obtain ⟨v0, vs0, d0, ds0, p0, q0, hargs, rfl, rfl, h0, r0⟩ := trodAll_cons hA
  obtain ⟨v1, vs1, d1, ds1, p1, q1, rfl, rfl, rfl, h1, r1⟩ := trodAll_cons r0
  obtain ⟨v2, vs2, d2, ds2, p2, q2, rfl, rfl, rfl, h2, r2⟩ := trodAll_cons r1
  obtain ⟨rfl, rfl, rfl⟩ := trodAll_nil r2
  obtain rfl : args = #[v0, v1, v2] := by cases args; simp_all
  obtain ⟨rfl, rfl⟩ := trodVars_none hV
  obtain ⟨a0, len0, cap0, rfl⟩ := okWide_slice Try.underlying25 (hval 0 25 v0 rfl rfl)
  have k0 := h0
  have lt0 : ∀ x ∈ p0, x.block < W.heap.size := by obtain ⟨m, hm⟩ := k0; exact DataW.trod_lt m _ _ _ hm
  obtain ⟨z0, w0⟩ : ∃ zs, IsRow .u8 W a0 len0 cap0 zs := by
    obtain ⟨fuel, hf⟩ := h0
    rcases open_ints Try.underlying25 Try.underlying5 (by kernel_rfl) hf with ⟨hcs, _⟩ | ⟨x, l, c, zs, hcs, _, hl, hm, hz, _, hcell, hwz⟩
    · simp [Value.cells] at hcs
      obtain ⟨rfl, rfl, rfl⟩ := hcs
      exact ⟨[], .inl ⟨rfl, rfl, rfl, rfl⟩⟩
    · simp [Value.cells] at hcs
      obtain ⟨rfl, rfl, rfl⟩ := hcs
      exact ⟨zs, .inr ⟨_, rfl, hl, hm, by simpa using hz, hcell, hwz⟩⟩
  obtain ⟨a1, rfl, rfl, rfl, w1⟩ := open_int Try.underlying32 (hval 1 32 v1 rfl rfl) h1
  obtain ⟨a2, rfl, rfl, rfl, w2⟩ := open_int Try.underlying32 (hval 2 32 v2 rfl rfl) h2
  clear hA0 hval0
  refine (walk a0 len0 cap0 z0 a1 a2 W w0 w1 w2).mono fun e W' ⟨he, bel⟩ => ?_
  subst he
  exact ⟨_, rfl, _, _, _, [], _, [], hW', trodAll_mk1 (shut_bool Try.underlying4 _), (trodAll_cons_mk (Below.trod laidOut (by kernel_rfl) (of_decide_eq_true (by kernel_rfl)) k0 bel lt0) (trodAll_cons_mk (shut_int Try.underlying32 w1) (trodAll_cons_mk (shut_int Try.underlying32 w2) trodAll_mk0))), rfl, bel.frame _, fun h => by cases h⟩

theorem over : Rows.crcBurstRow.holds Try.pinned (OpenSpec.ofChange Rows.crcBurstSpec) :=
  OpenClaim.holds_of_wide 5 Try.f5 rfl rfl rfl rfl rfl rfl rfl ⟨rfl, rfl, rfl, rfl, rfl⟩ rfl rfl rfl rfl rfl (by kernel_rfl) Try.func5 (by kernel_rfl)
    (of_decide_eq_true (by kernel_rfl)) (by unfold Func.isWrapper; first | (rw [if_pos (by decide +kernel)]; kernel_rfl) | (rw [if_neg (by decide +kernel)]; exact ⟨rfl, rfl⟩))
    (fun os started H enc _ => lifted os started H enc)

/-- ████ THE STATEMENT ████ -/
theorem proved : Rows.CrcBurstSaid := over
#print axioms proved
end Go.Proofs.Yteodhfgnjolcjaa.crcBurst
