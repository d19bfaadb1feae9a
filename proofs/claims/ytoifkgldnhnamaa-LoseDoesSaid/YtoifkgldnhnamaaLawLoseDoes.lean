/- LoseDoes returns true: lose.Seq and lose.Lines answer what the reference answers, for any sequence, lines and numbers, and what was handed in stays. No condition. -/
import Derived.Test.YtoifkgldnhnamaaRows
import Derived.Test.YtoifkgldnhnamaaRef
import Derived.WalkKit
import Derived.ProofKit
import Derived.OpenShut
import Derived.ShutString
import Derived.ChangeOld
import Derived.Below
namespace Go.Proofs.Ytoifkgldnhnamaa.loseDoes
open Go.ChangeShapes Go.WideShapes Go.ChangeAt Go.RowKit
open Go.ChangeMaps (open_string shut_string)
set_option linter.unusedVariables false

theorem own : ownKnob Try.prog.godebug = none := by kernel_rfl
theorem laidOut : laidOutB Try.prog = true := by kernel_rfl

/-- WHAT THE WALK IS TOLD OF A SLICE OF INTEGERS THAT CAME IN: it is nil; or it leads to a row of 'cap' cells, the numbers 'zs' (the first 'len' are its elements, the rest its spare room), each fitting its kind. -/
def IsRow (k : IntKind) (w : World) (a : Option Addr) (len cap : Nat) (zs : List Int) : Prop :=
  (a = none ∧ len = 0 ∧ cap = 0 ∧ zs = []) ∨
  ∃ x, a = some x ∧ len ≤ cap ∧ cap ≤ maxLen ∧ zs.length = cap ∧ (∀ i, i < zs.length → w.cell? (x.add i) = some (.int k (zs.getD i 0))) ∧ ∀ n ∈ zs, (Lit.int k n).wf = true

theorem sameB_refl (l : List Int) : sameB l l = true := by
  unfold sameB
  exact decide_eq_true rfl
/-- A row of the call's own that is written stays one of as many cells. -/
theorem own_stored {w : World} {base n g cap : Nat} {t : TypeId} {xs : List Value} (h : w.ownsRow base t 1 (.slice (some ⟨g, 0, none⟩) n cap) n xs) (j : Nat) (u : Value) : ∃ ys, (w.setCell ⟨g, j, none⟩ u).ownsRow base t 1 (.slice (some ⟨g, 0, none⟩) n cap) n ys :=
  ⟨_, (h.stored j u).1⟩
theorem own_lie {w : World} {base n g cap : Nat} {t : TypeId} {xs : List Value} (h : w.ownsRow base t 1 (.slice (some ⟨g, 0, none⟩) n cap) n xs) (j : Nat) (hj : j < n) : ∃ u, w.cell? ⟨g, j, none⟩ = some u := by
  rw [h.cellAt j (by omega)]
  have hl : xs.length = n := by have := h.1; omega
  exact ⟨_, List.getElem?_eq_getElem (by omega)⟩

/-! ### The walk -/
set_option maxHeartbeats 4000000 in
set_option maxRecDepth 100000 in
theorem walk (a0 : Int) (a1 : Option Addr) (len1 cap1 : Nat) (z1 : List Int) (a2 : Option Addr) (len2 cap2 : Nat) (z2 : List Int) (a3 : Int) (a4 : Int) (w : World) (w0 : (Lit.int .u8 a0).wf = true) (w1 : IsRow .i64 w a1 len1 cap1 z1) (w2 : IsRow .i64 w a2 len2 cap2 z2) (w3 : (Lit.int .i64 a3).wf = true) (w4 : (Lit.int .i64 a4).wf = true) :
    Calls Try.prog 3 #[.int .u8 a0, .slice a1 len1 cap1, .slice a2 len2 cap2, .int .i64 a3, .int .i64 a4] w fun e w' => e = .returned (.bool true) ∧ Below w.heap.size w w' := by
  obtain ⟨h00, h01⟩ := bounds_u8 w0
  obtain ⟨l, hr, _, _⟩ := rd_of_row w1
  obtain ⟨l', hr', _, _⟩ := rd_of_row w2
  have hn := hr.le
  have hn' := hr'.le
  by_cases hbig : 1000 < len1
  · go_enter Try.func3, Try.ntmps3
    go_wp2_with fail
    go_ret
    exact ⟨rfl, Below.refl _ _⟩
  by_cases hbig' : 1000 < len2
  · go_enter Try.func3, Try.ntmps3
    go_wp2_with fail
    go_ret
    exact ⟨rfl, Below.refl _ _⟩
  have Hl := Lib.hid hr.len
  have Hl' := Lib.hid hr'.len
  have e0 : ([] : List Int).length = 0 := rfl
  have hnil : w.ownsRow w.heap.size 3 1 (.slice none 0 0) ([] : List Int).length (nums .i64 ([] : List Int)) := World.ownsRow_nil _ _ _ _
  have HNIL := Lib.hid (fun W : World => show W.ownsRow W.heap.size 3 1 (.slice none 0 0) ([] : List Int).length (nums .i64 ([] : List Int)) from World.ownsRow_nil _ _ _ _)
  clear e0 hnil
  go_enter Try.func3, Try.ntmps3
  go_wp2_with (first
    | (at_builtin; refine append_rd w.heap.size rfl (.const (.slice none 0 0)) (.tmp 30) 22 3 .i64 8 rfl Try.underlying22 info3 (by omega) _ [] rfl w.heap.size a1 _ cap1 l rfl (HNIL.out w) hr (Below.refl _ _) (Nat.le_refl _) (by simp; omega) ?_; intro v1 wx hown1 hb1 _ _; rw [List.nil_append, Hl.out] at hown1; obtain ⟨A1, c1, rfl⟩ := own_slice hown1)
    | (at_builtin; refine append_rd wx.heap.size rfl (.const (.slice none 0 0)) (.tmp 32) 22 3 .i64 8 rfl Try.underlying22 info3 (by omega) _ [] rfl w.heap.size a2 _ cap2 l' rfl (HNIL.out wx) (hr'.below hb1) (Below.refl _ _) (Nat.le_refl _) (by simp; omega) ?_; intro v2 wy hown2 hb2 _ _; rw [List.nil_append, Hl'.out] at hown2; obtain ⟨A2, c2, rfl⟩ := own_slice hown2))
  refine (seq_any a0 _ h00 h01).mono ?_
  rintro e wq ⟨rfl, rfl⟩
  go_wp2_with fail
  refine (rseq_any a0 _ h00 h01).mono ?_
  rintro e wq ⟨rfl, rfl⟩
  have ho1 := own_below hown1 hb2
  have hy := below_ hb1 hb2
  go_wp2_with fail
  refine (lines_any A1 A2 len1 c1 len2 c2 _ l l' a3 a4 _ (Rd.of_own ho1) (Rd.of_own hown2) (Nat.le_refl _)).mono ?_
  rintro e wz ⟨A3, c3, rfl, hown3, hb3⟩
  have hz := below_ hy hb3
  go_wp2_with fail
  refine (rlines_any a1 a2 len1 cap1 len2 cap2 _ l l' a3 a4 _ (hr.below hz) (hr'.below hz) hz.size).mono ?_
  rintro e wu ⟨A4, c4, rfl, hown4, hb4⟩
  have ho3 := own_below hown3 hb4
  have hb34 := below_ hb3 hb4
  clear hown1 hb1 hb2 hown3 hz hb3 hb4
  generalize ansL l l' a3 a4 = q at *
  generalize errL l l' a3 a4 = z at *
  go_wp2_with fail
  refine (same_any A3 A4 _ c3 _ c4 _ q q _ (Rd.of_own ho3) (Rd.of_own hown4)).mono ?_
  rw [sameB_refl]
  rintro e wv ⟨rfl, nq, rfl⟩
  clear hown4
  have hb5 := below_drewN hb34 nq
  have hql := (Rd.of_own ho3).le
  have hex : ∃ ys, (wu.drewN nq).ownsRow wy.heap.size 3 1 (.slice A3 q.length c3) q.length ys := ⟨_, ho3⟩
  have HEX := Lib.hid hex
  clear hex ho3 hb34
  go_wp2_with fail
  go_loopw [21] (fun i wr => ∃ k : Nat, k ≤ q.length ∧ i = .int .i64 k ∧ Hid (∃ ys, wr.ownsRow wy.heap.size 3 1 (.slice A3 q.length c3) q.length ys) ∧ Below wy.heap.size wy wr) (fun i _ => q.length - (intOf i).toNat)
  case atStart => exact ⟨0, by omega, rfl, HEX, hb5⟩
  case round =>
    clear HEX hb5
    obtain ⟨k, hk, rfl, HO, hbr⟩ := hrel
    by_cases hlt : k < q.length
    · obtain ⟨ys, hor⟩ := HO.out
      obtain ⟨g, cap, hv, hgb, _⟩ := hor.form (by omega)
      obtain rfl : A3 = some ⟨g, 0, none⟩ := by injection hv
      clear hv
      have hfz : wr.frozen? ⟨g, k, none⟩ = false := hor.frozenAt k
      obtain ⟨u, hcT⟩ := own_lie hor k hlt
      go_wp2_with fail
      go_roundw
      case rel =>
        exact ⟨k + 1, by omega, by go_num, own_stored hor k (.int .i64 7), hbr.setCell (p := ⟨g, k, none⟩) hgb _⟩
      case measure => simp [intOf]; omega
    · have hw := below_then hy hy.size hbr
      go_wp2_with fail
      refine (same_any A1 a1 len1 c1 len1 cap1 _ l l _ (Rd.of_own (own_below ho1 hbr)) ((hr.below hw).more hw.size)).mono ?_
      rw [sameB_refl]
      rintro e w5 ⟨rfl, n5, rfl⟩
      have hw5 := below_drewN hw n5
      have hbr5 := below_drewN hbr n5
      go_wp2_with fail
      refine (same_any A2 a2 len2 c2 len2 cap2 _ l' l' _ (Rd.of_own (own_below hown2 hbr5)) ((hr'.below hw5).more hw5.size)).mono ?_
      rw [sameB_refl]
      rintro e w6 ⟨rfl, n6, rfl⟩
      go_wp2_with fail
      go_ret
      exact ⟨rfl, below_drewN hw (n5 + n6)⟩

/-! ### THE ROW's STEP: WRITTEN OUT: LEAVE IT -/
set_option maxRecDepth 100000 in
theorem lifted (os : Os) (started : os.Started) (H : Type) (enc : TypeId × Value → H) :
    ReturnsInHanded {} Try.checked os 3 .any (Rows.loseDoesSpec.pre6 enc Try.prog Try.f3 Rows.loseDoesRow.domain false) (Rows.loseDoesSpec.post enc Try.prog Try.f3 false true false false) := by
  refine returnsInHanded_of_change (C := Try.checked) own started (by kernel_rfl) Try.func3
    (ChangeSpec.witness6 (enc := enc) (C := Try.checked) false ⟨#[], #[.int .u8 0, .slice none 0 0, .slice none 0 0, .int .i64 0, .int .i64 0], []⟩ 8 (by kernel_rfl) (by kernel_rfl) (by kernel_rfl) (by kernel_rfl)) ?_
  intro W base args ds gs before hval0 hW hcnd _
  have hval : ∀ (j : Nat) t v, Try.f3.params[j]? = some t → args[j]? = some v → Value.okWide Try.prog W .any base t v := hval0
  have hW' := hW
  obtain ⟨p, q, hA0, hV, rfl, hfz, hnd⟩ := hW
  have hA : DataW.TrodAll enc Try.prog W 0 (fun _ => true) true Try.f3.params.toList args.toList ds p := hA0
  rw [Try.params3] at hA hval
  obtain ⟨v0, vs0, d0, ds0, p0, q0, hargs, rfl, rfl, h0, r0⟩ := trodAll_cons hA
  obtain ⟨v1, vs1, d1, ds1, p1, q1, rfl, rfl, rfl, h1, r1⟩ := trodAll_cons r0
  obtain ⟨v2, vs2, d2, ds2, p2, q2, rfl, rfl, rfl, h2, r2⟩ := trodAll_cons r1
  obtain ⟨v3, vs3, d3, ds3, p3, q3, rfl, rfl, rfl, h3, r3⟩ := trodAll_cons r2
  obtain ⟨v4, vs4, d4, ds4, p4, q4, rfl, rfl, rfl, h4, r4⟩ := trodAll_cons r3
  obtain ⟨rfl, rfl, rfl⟩ := trodAll_nil r4
  obtain rfl : args = #[v0, v1, v2, v3, v4] := by cases args; simp_all
  obtain ⟨rfl, rfl⟩ := trodVars_none hV
  obtain ⟨a0, rfl, rfl, rfl, w0⟩ := open_int Try.underlying5 (hval 0 5 v0 rfl rfl) h0
  obtain ⟨a1, len1, cap1, rfl⟩ := okWide_slice Try.underlying22 (hval 1 22 v1 rfl rfl)
  have k1 := h1
  have lt1 : ∀ x ∈ p1, x.block < W.heap.size := by obtain ⟨m, hm⟩ := k1; exact DataW.trod_lt m _ _ _ hm
  obtain ⟨z1, w1⟩ : ∃ zs, IsRow .i64 W a1 len1 cap1 zs := by
    obtain ⟨fuel, hf⟩ := h1
    rcases open_ints Try.underlying22 Try.underlying3 (by kernel_rfl) hf with ⟨hcs, _⟩ | ⟨x, l, c, zs, hcs, _, hl, hm, hz, _, hcell, hwz⟩
    · simp [Value.cells] at hcs
      obtain ⟨rfl, rfl, rfl⟩ := hcs
      exact ⟨[], .inl ⟨rfl, rfl, rfl, rfl⟩⟩
    · simp [Value.cells] at hcs
      obtain ⟨rfl, rfl, rfl⟩ := hcs
      exact ⟨zs, .inr ⟨_, rfl, hl, hm, by simpa using hz, hcell, hwz⟩⟩
  obtain ⟨a2, len2, cap2, rfl⟩ := okWide_slice Try.underlying22 (hval 2 22 v2 rfl rfl)
  have k2 := h2
  have lt2 : ∀ x ∈ p2, x.block < W.heap.size := by obtain ⟨m, hm⟩ := k2; exact DataW.trod_lt m _ _ _ hm
  obtain ⟨z2, w2⟩ : ∃ zs, IsRow .i64 W a2 len2 cap2 zs := by
    obtain ⟨fuel, hf⟩ := h2
    rcases open_ints Try.underlying22 Try.underlying3 (by kernel_rfl) hf with ⟨hcs, _⟩ | ⟨x, l, c, zs, hcs, _, hl, hm, hz, _, hcell, hwz⟩
    · simp [Value.cells] at hcs
      obtain ⟨rfl, rfl, rfl⟩ := hcs
      exact ⟨[], .inl ⟨rfl, rfl, rfl, rfl⟩⟩
    · simp [Value.cells] at hcs
      obtain ⟨rfl, rfl, rfl⟩ := hcs
      exact ⟨zs, .inr ⟨_, rfl, hl, hm, by simpa using hz, hcell, hwz⟩⟩
  obtain ⟨a3, rfl, rfl, rfl, w3⟩ := open_int Try.underlying3 (hval 3 3 v3 rfl rfl) h3
  obtain ⟨a4, rfl, rfl, rfl, w4⟩ := open_int Try.underlying3 (hval 4 3 v4 rfl rfl) h4
  clear hA0 hval0
  refine (walk a0 a1 len1 cap1 z1 a2 len2 cap2 z2 a3 a4 W w0 w1 w2 w3 w4).mono fun e W' ⟨he, bel⟩ => ?_
  subst he
  exact ⟨_, rfl, _, _, _, [], _, [], hW', trodAll_mk1 (shut_bool Try.underlying4 _), (trodAll_cons_mk (shut_int Try.underlying5 w0) (trodAll_cons_mk (Below.trod laidOut (by kernel_rfl) (of_decide_eq_true (by kernel_rfl)) k1 bel lt1) (trodAll_cons_mk (Below.trod laidOut (by kernel_rfl) (of_decide_eq_true (by kernel_rfl)) k2 bel lt2) (trodAll_cons_mk (shut_int Try.underlying3 w3) (trodAll_cons_mk (shut_int Try.underlying3 w4) trodAll_mk0))))), rfl, bel.frame _, fun h => by cases h⟩

theorem over : Rows.loseDoesRow.holds Try.pinned (OpenSpec.ofChange Rows.loseDoesSpec) :=
  OpenClaim.holds_of_wide 3 Try.f3 rfl rfl rfl rfl rfl rfl rfl ⟨rfl, rfl, rfl, rfl, rfl⟩ rfl rfl rfl rfl rfl (by kernel_rfl) Try.func3 (by kernel_rfl)
    (of_decide_eq_true (by kernel_rfl)) (by unfold Func.isWrapper; first | (rw [if_pos (by decide +kernel)]; kernel_rfl) | (rw [if_neg (by decide +kernel)]; exact ⟨rfl, rfl⟩))
    (fun os started H enc _ => lifted os started H enc)

/-- ████ THE STATEMENT ████ -/
theorem proved : Rows.LoseDoesSaid := over
#print axioms proved
end Go.Proofs.Ytoifkgldnhnamaa.loseDoes
