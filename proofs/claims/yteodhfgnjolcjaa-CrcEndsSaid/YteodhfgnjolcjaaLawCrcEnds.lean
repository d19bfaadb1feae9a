/- CrcEnds returns true: bits with sixteen more behind have the sum 0 just where these are the sum of the bits ahead, for any bytes and any number. No condition. -/
import Derived.Test.YteodhfgnjolcjaaRows
import Derived.Test.YteodhfgnjolcjaaBridge
import Derived.Test.YteodhfgnjolcjaaAppend
import Derived.WalkKit
import Derived.ProofKit
import Derived.OpenShut
import Derived.ShutString
import Derived.ChangeOld
import Derived.Below
namespace Go.Proofs.Yteodhfgnjolcjaa.crcEnds
open Go.ChangeShapes Go.WideShapes Go.ChangeAt Go.RowKit
open Go.ChangeMaps (open_string shut_string)
set_option linter.unusedVariables false

theorem own : ownKnob Try.prog.godebug = none := by kernel_rfl
theorem laidOut : laidOutB Try.prog = true := by kernel_rfl

/-- WHAT THE WALK IS TOLD OF A SLICE OF INTEGERS THAT CAME IN: it is nil; or it leads to a row of 'cap' cells, the numbers 'zs' (the first 'len' are its elements, the rest its spare room), each fitting its kind. -/
def IsRow (k : IntKind) (w : World) (a : Option Addr) (len cap : Nat) (zs : List Int) : Prop :=
  (a = none ∧ len = 0 ∧ cap = 0 ∧ zs = []) ∨
  ∃ x, a = some x ∧ len ≤ cap ∧ cap ≤ maxLen ∧ zs.length = cap ∧ (∀ i, i < zs.length → w.cell? (x.add i) = some (.int k (zs.getD i 0))) ∧ ∀ n ∈ zs, (Lit.int k n).wf = true

/-- The first k of the sixteen bits of v, as the walk spells them. -/
def tl (v : Int) (k : Nat) : List Int := (List.range k).map fun j => bits .and .u16 (v / 2 ^ (15 - j)) 1 % 256
theorem tl_length (v : Int) (k : Nat) : (tl v k).length = k := by simp [tl]
theorem tl_snoc (v : Int) (k : Nat) : tl v (k + 1) = tl v k ++ [bits .and .u16 (v / 2 ^ (15 - k)) 1 % 256] := by simp [tl, List.range_succ]
theorem and_one (x : Int) (h0 : 0 ≤ x) (h1 : x ≤ 65535) : bits .and .u16 x 1 % 256 = x % 2 := by
  have h := bits_mask .u16 16 (by decide) (fun n h0 h1 => by rw [wrap_u16]; omega) 1 (by decide) x h0 (by omega)
  have e : (bits .and .u16 x 1) = x % 2 := h
  rw [e]
  omega
theorem part_range (v : Int) (j : Nat) (h0 : 0 ≤ v) (h1 : v ≤ 65535) : 0 ≤ v / 2 ^ j ∧ v / 2 ^ j ≤ 65535 := by
  have hp : (0 : Int) < 2 ^ j := Int.pow_pos (by omega)
  refine ⟨Int.ediv_nonneg h0 (by omega), ?_⟩
  exact Int.le_trans (Int.ediv_le_self _ h0) h1
theorem tl_range (v : Int) (k : Nat) (h0 : 0 ≤ v) (h1 : v ≤ 65535) : ∀ x ∈ tl v k, 0 ≤ x ∧ x ≤ 1 := by
  intro x hx
  simp only [tl, List.mem_map] at hx
  obtain ⟨j, _, rfl⟩ := hx
  obtain ⟨h2, h3⟩ := part_range v (15 - j) h0 h1
  rw [and_one _ h2 h3]
  omega
theorem tl_bits (v : Int) (h0 : 0 ≤ v) (h1 : v ≤ 65535) : bl (tl v 16) = Plain.bits16 (BitVec.ofNat 16 v.toNat) := by
  simp only [bl, tl, Plain.bits16, List.map_map]
  apply List.map_congr_left
  intro j hj
  obtain ⟨h2, h3⟩ := part_range v (15 - j) h0 h1
  simp only [Function.comp, and_one _ h2 h3]
  rw [BitVec.getLsbD_ofNat, Nat.testBit_eq_decide_div_mod_eq]
  obtain ⟨n, rfl⟩ := Int.eq_ofNat_of_zero_le h0
  have e : ((n : Int) / 2 ^ (15 - j) % 2) = ((n / 2 ^ (15 - j) % 2 : Nat) : Int) := by simp
  rw [e]
  have h4 : 15 - j < 16 := by omega
  simp only [h4, decide_true, Bool.true_and, Int.toNat_natCast, decide_eq_decide]
  omega
theorem ends (v : Int) (l : List Int) (h0 : 0 ≤ v) (h1 : v ≤ 65535) : (tI (sumB 65535#16 (l ++ tl v 16)) == 0) = (v == tI (sumB 65535#16 l)) := by
  have h := Plain.run_ends 65535#16 (bl l) (BitVec.ofNat 16 v.toNat)
  rw [← tl_bits v h0 h1, ← bl_append] at h
  have e1 : ∀ x : Plain.W, tI x = 0 ↔ x = 0#16 := fun x => ⟨fun h => tI_inj (h.trans rfl), fun h => by rw [h]; rfl⟩
  rw [Bool.eq_iff_iff, beq_iff_eq, beq_iff_eq, e1]
  refine h.trans ⟨fun h => ?_, fun h => ?_⟩
  · rw [show sumB 65535#16 l = _ from h]
    exact tI_of v h0 h1
  · exact tI_inj (h.symm.trans (tI_of v h0 h1))

/-! ### The walk -/
theorem walk (a0 : Option Addr) (len0 cap0 : Nat) (z0 : List Int) (a1 : Int) (w : World) (w0 : IsRow .u8 w a0 len0 cap0 z0) (w1 : (Lit.int .u16 a1).wf = true) :
    Calls Try.prog 8 #[.slice a0 len0 cap0, .int .u16 a1] w fun e w' => e = .returned (.bool true) ∧ Below w.heap.size w w' := by
  obtain ⟨l, hr, _, hwf⟩ := rd_of_row w0
  have hl : ∀ x ∈ l, 0 ≤ x ∧ x ≤ 255 := fun x hx => bounds_u8 (hwf x hx)
  have hn := hr.le
  obtain ⟨h10, h11⟩ := bounds_u16 w1
  by_cases hbig : 20000 < len0
  · go_enter Try.func8, Try.ntmps8
    go_wp2_with fail
    refine (alive_any _).mono ?_
    rintro e w2 ⟨rfl, hb1⟩
    go_wp2_with fail
    go_ret
    exact ⟨rfl, hb1⟩
  · have Hlen := Lib.hid hr.len
    go_enter Try.func8, Try.ntmps8
    go_wp2_with fail
    refine (alive_any _).mono ?_
    rintro e w2 ⟨rfl, hb1⟩
    go_wp2_with fail
    refine (bits_any a0 len0 cap0 _ l _ (hr.below hb1) hb1.size hl (by omega)).mono ?_
    rintro e w3 ⟨A, c, rfl, hown, hb2⟩
    have hpr := par_range l
    have Hpl := Lib.hid (show (par l).length = len0 by rw [par_length, Hlen.out])
    go_wp2_with fail
    refine (of_bits A len0 c _ (par l) _ (Rd.of_own hown) (Nat.le_refl _) hpr).mono ?_
    rintro e w4 ⟨rfl, hb3⟩
    go_wp2_with fail
    go_loopw [9, 10] (fun v i wr => ∃ k : Nat, k ≤ 16 ∧ i = .int .i64 (15 - k) ∧ wr.ownsRow w4.heap.size 5 1 v (tl a1 k).length (nums .u8 (tl a1 k)) ∧ Below w4.heap.size w4 wr) (fun _ i _ => (intOf i + 1).toNat)
    case atStart => exact ⟨0, by omega, rfl, World.ownsRow_nil _ _ _ _, Below.refl _ _⟩
    case round =>
      obtain ⟨k, hk, rfl, hot, hbt⟩ := hrel
      by_cases hlt : k < 16
      · have HN := Lib.hid (tl_snoc a1 k)
        have HL := Lib.hid (tl_length a1 k)
        generalize tl a1 k = y at *
        go_wp2_with (at_builtin; refine append_num w4.heap.size rfl (.tmp 33) (.tmp 39) 25 5 .u8 1 rfl Try.underlying25 info5 (by omega) _ y _ rfl rfl hot hbt hbt.size (by rw [HL.out]; omega) ?_; intro v1 w5 hown1 hbl1 _ _)
        go_roundw
        case rel => exact ⟨k + 1, by omega, by go_num, by rw [HN.out]; exact hown1, hbl1⟩
        case measure => simp [intOf]; omega
      · obtain rfl : k = 16 := by omega
        obtain ⟨At, ct, rfl⟩ := own_slice hot
        have hrt := Rd.of_own hot
        have hbr : Below w2.heap.size w2 wr := below_ hb2 (below_ hb3 hbt)
        have hob : wr.ownsRow w2.heap.size 5 1 (.slice A len0 c) (par l).length (nums .u8 (par l)) := by rw [Hpl.out]; exact own_below hown (below_ hb3 hbt)
        have hE := ends a1 (par l) h10 h11
        have hrg : ∀ x ∈ par l ++ tl a1 16, 0 ≤ x ∧ x ≤ 1 := by
          intro x hx
          rcases List.mem_append.1 hx with h | h
          · exact hpr x h
          · exact tl_range a1 16 h10 h11 x h
        have HL := Lib.hid (tl_length a1 16)
        have hlen2 : ((par l).length + (tl a1 16).length) * 1 ≤ 140737488355328 := by rw [Hpl.out, HL.out]; omega
        have HE := Lib.hid hE
        have HRG := Lib.hid hrg
        clear hE hrg
        generalize par l = p at *
        generalize tl a1 16 = y at *
        go_wp2_with (at_builtin; refine append_rd w2.heap.size rfl (.tmp 42) (.tmp 43) 25 5 .u8 1 rfl Try.underlying25 info5 (by omega) _ p rfl wr.heap.size At _ ct y rfl hob hrt hbr hbr.size hlen2 ?_; intro v2 w5 hown2 hbl2 _ _; rw [List.length_append] at hown2; obtain ⟨A2, c2, rfl⟩ := own_slice hown2)
        refine (of_bits A2 _ c2 _ (p ++ y) _ (Rd.of_own hown2) (Nat.le_refl _) HRG.out).mono ?_
        rintro e w6 ⟨rfl, hb6⟩
        have hy : (tI (sumB 65535#16 (p ++ y)) == 0) = (a1 == tI (sumB 65535#16 p)) := HE.out
        cases hc : (a1 == tI (sumB 65535#16 p))
        all_goals
          rw [hc] at hy
          go_wp2_with fail
          go_ret
          exact ⟨rfl, below_ hb1 (below_ hbl2 hb6)⟩

/-! ### THE ROW's STEP: WRITTEN OUT: LEAVE IT -/
set_option maxRecDepth 100000 in
theorem lifted (os : Os) (started : os.Started) (H : Type) (enc : TypeId × Value → H) :
    ReturnsInHanded {} Try.checked os 8 .any (Rows.crcEndsSpec.pre6 enc Try.prog Try.f8 Rows.crcEndsRow.domain false) (Rows.crcEndsSpec.post enc Try.prog Try.f8 false true false false) := by
  refine returnsInHanded_of_change (C := Try.checked) own started (by kernel_rfl) Try.func8
    (ChangeSpec.witness6 (enc := enc) (C := Try.checked) false ⟨#[], #[.slice none 0 0, .int .u16 0], []⟩ 8 (by kernel_rfl) (by kernel_rfl) (by kernel_rfl) (by kernel_rfl)) ?_
  intro W base args ds gs before hval0 hW hcnd _
  have hval : ∀ (j : Nat) t v, Try.f8.params[j]? = some t → args[j]? = some v → Value.okWide Try.prog W .any base t v := hval0
  have hW' := hW
  obtain ⟨p, q, hA0, hV, rfl, hfz, hnd⟩ := hW
  have hA : DataW.TrodAll enc Try.prog W 0 (fun _ => true) true Try.f8.params.toList args.toList ds p := hA0
  rw [Try.params8] at hA hval
  obtain ⟨v0, vs0, d0, ds0, p0, q0, hargs, rfl, rfl, h0, r0⟩ := trodAll_cons hA
  obtain ⟨v1, vs1, d1, ds1, p1, q1, rfl, rfl, rfl, h1, r1⟩ := trodAll_cons r0
  obtain ⟨rfl, rfl, rfl⟩ := trodAll_nil r1
  obtain rfl : args = #[v0, v1] := by cases args; simp_all
  obtain ⟨rfl, rfl⟩ := trodVars_none hV
  obtain ⟨a0, len0, cap0, rfl⟩ := okWide_slice Try.underlying25 (hval 0 25 v0 rfl rfl)
  have k0 := h0
  have lt0 : ∀ x ∈ p0, x.block < W.heap.size := by obtain ⟨m, hm⟩ := k0; exact DataW.trod_lt m _ _ _ hm
  obtain ⟨z0, w0⟩ : ∃ zs, IsRow .u8 W a0 len0 cap0 zs := by
    obtain ⟨fuel, hf⟩ := h0
    rcases open_ints Try.underlying25 Try.underlying5 (by kernel_rfl) hf with ⟨hcs, _⟩ | ⟨x, l, c, zs, hcs, _, hl, hm, hz, _, hcell, hwz⟩
    · simp [Value.cells] at hcs
      obtain ⟨rfl, rfl, rfl⟩ := hcs
      exact ⟨[], .inl ⟨rfl, rfl, rfl, rfl⟩⟩
    · simp [Value.cells] at hcs
      obtain ⟨rfl, rfl, rfl⟩ := hcs
      exact ⟨zs, .inr ⟨_, rfl, hl, hm, by simpa using hz, hcell, hwz⟩⟩
  obtain ⟨a1, rfl, rfl, rfl, w1⟩ := open_int Try.underlying32 (hval 1 32 v1 rfl rfl) h1
  clear hA0 hval0
  refine (walk a0 len0 cap0 z0 a1 W w0 w1).mono fun e W' ⟨he, bel⟩ => ?_
  subst he
  exact ⟨_, rfl, _, _, _, [], _, [], hW', trodAll_mk1 (shut_bool Try.underlying4 _), (trodAll_cons_mk (Below.trod laidOut (by kernel_rfl) (of_decide_eq_true (by kernel_rfl)) k0 bel lt0) (trodAll_cons_mk (shut_int Try.underlying32 w1) trodAll_mk0)), rfl, bel.frame _, fun h => by cases h⟩

theorem over : Rows.crcEndsRow.holds Try.pinned (OpenSpec.ofChange Rows.crcEndsSpec) :=
  OpenClaim.holds_of_wide 8 Try.f8 rfl rfl rfl rfl rfl rfl rfl ⟨rfl, rfl, rfl, rfl, rfl⟩ rfl rfl rfl rfl rfl (by kernel_rfl) Try.func8 (by kernel_rfl)
    (of_decide_eq_true (by kernel_rfl)) (by unfold Func.isWrapper; first | (rw [if_pos (by decide +kernel)]; kernel_rfl) | (rw [if_neg (by decide +kernel)]; exact ⟨rfl, rfl⟩))
    (fun os started H enc _ => lifted os started H enc)

/-- ████ THE STATEMENT ████ -/
theorem proved : Rows.CrcEndsSaid := over
#print axioms proved
end Go.Proofs.Yteodhfgnjolcjaa.crcEnds
