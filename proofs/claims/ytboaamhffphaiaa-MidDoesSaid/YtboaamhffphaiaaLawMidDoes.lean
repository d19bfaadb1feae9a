/- MidDoes returns true: mid.Split and mid.Join answer what the reference answers, for any two lists, and what was handed in stays. No condition. -/
import Derived.Test.YtboaamhffphaiaaRows
import Derived.Test.YtboaamhffphaiaaRef
import Derived.WalkKit
import Derived.ProofKit
import Derived.OpenShut
import Derived.ShutString
import Derived.ChangeOld
import Derived.Below
namespace Go.Proofs.Ytboaamhffphaiaa.midDoes
open Go.ChangeShapes Go.WideShapes Go.ChangeAt Go.RowKit
open Go.ChangeMaps (open_string shut_string)
set_option linter.unusedVariables false

theorem own : ownKnob Try.prog.godebug = none := by kernel_rfl
theorem laidOut : laidOutB Try.prog = true := by kernel_rfl

/-- WHAT THE WALK IS TOLD OF A SLICE OF INTEGERS THAT CAME IN: it is nil; or it leads to a row of 'cap' cells, the numbers 'zs' (the first 'len' are its elements, the rest its spare room), each fitting its kind. -/
def IsRow (k : IntKind) (w : World) (a : Option Addr) (len cap : Nat) (zs : List Int) : Prop :=
  (a = none ∧ len = 0 ∧ cap = 0 ∧ zs = []) ∨
  ∃ x, a = some x ∧ len ≤ cap ∧ cap ≤ maxLen ∧ zs.length = cap ∧ (∀ i, i < zs.length → w.cell? (x.add i) = some (.int k (zs.getD i 0))) ∧ ∀ n ∈ zs, (Lit.int k n).wf = true

theorem sameB_refl (l : List Int) : sameB l l = true := by
  unfold sameB
  exact decide_eq_true rfl
/-- A row of n numbers' cells that is the call's own, whatever it holds. -/
def Live (w : World) (B n : Nat) (A : Option Addr) (c : Nat) : Prop := ∃ ys, w.ownsRow B 3 1 (.slice A n c) n ys
theorem Live.set_ {w : World} {B n : Nat} {A : Option Addr} {c : Nat} (h : Live w B n A c) (g j : Nat) (u : Value) : Live (w.setCell ⟨g, j, none⟩ u) B n A c := by
  obtain ⟨ys, h⟩ := h
  rcases Nat.eq_zero_or_pos n with h0 | h0
  · refine ⟨ys, h.1, ?_⟩
    rcases h.2 with h2 | ⟨g', cap, cur, h2, h3, h4, h5, h6, h7, h8⟩
    · exact .inl h2
    · by_cases e : g' = g
      · subst e
        exact .inr ⟨g', cap, cur.setIfInBounds j u, h2, h3, heap_setCell_same w g' j cur 3 u h4, h5, h6, by simpa using h7, by subst h0; simpa using h8⟩
      · exact .inr ⟨g', cap, cur, h2, h3, (Below.heap_setCell w ⟨g, j, none⟩ u g' e).trans h4, h5, h6, h7, h8⟩
  · obtain ⟨g', cap, hv, hb, hl⟩ := h.form h0
    obtain rfl : A = some ⟨g', 0, none⟩ := by injection hv
    by_cases e : g' = g
    · subst e
      exact ⟨_, (h.stored j u).1⟩
    · refine ⟨ys, h.1, ?_⟩
      rcases h.2 with ⟨h2, _⟩ | ⟨g2, cap2, cur, h2, h3, h4, h5⟩
      · simp at h2
      · obtain rfl : g' = g2 := by simp at h2; exact h2.1
        exact .inr ⟨g', cap2, cur, h2, h3, (Below.heap_setCell w ⟨g, j, none⟩ u g' e).trans h4, h5⟩
theorem Live.cell {w : World} {B n : Nat} {A : Option Addr} {c : Nat} (h : Live w B n A c) {j : Nat} (hj : j < n) : ∃ g, A = some ⟨g, 0, none⟩ ∧ B ≤ g ∧ w.frozen? ⟨g, j, none⟩ = false ∧ ∃ u, w.cell? ⟨g, j, none⟩ = some u := by
  obtain ⟨ys, h⟩ := h
  obtain ⟨g', cap, hv, hb, hl⟩ := h.form (by omega)
  obtain rfl : A = some ⟨g', 0, none⟩ := by injection hv
  refine ⟨g', rfl, hb, h.frozenAt j, ?_⟩
  rw [h.cellAt j (by omega)]
  have hy : ys.length = n := by have := h.1; omega
  exact ⟨_, List.getElem?_eq_getElem (by omega)⟩
theorem Live.drewN {w : World} {B n : Nat} {A : Option Addr} {c : Nat} (h : Live w B n A c) (q : Nat) : Live (w.drewN q) B n A c := h
theorem Live.below {w w' : World} {B n : Nat} {A : Option Addr} {c : Nat} (h : Live w B n A c) (hb : Below w.heap.size w w') : Live w' B n A c := by
  obtain ⟨ys, h⟩ := h
  exact ⟨ys, own_below h hb⟩
theorem Live.of {w : World} {B B' n : Nat} {A : Option Addr} {c : Nat} {ys : List Value} (h : w.ownsRow B' 3 1 (.slice A n c) n ys) (hb : B ≤ B') : Live w B n A c := ⟨ys, own_base_le h hb⟩

/-! ### The walk -/
set_option maxHeartbeats 4000000 in
set_option maxRecDepth 100000 in
theorem walk (a0 : Option Addr) (len0 cap0 : Nat) (z0 : List Int) (a1 : Option Addr) (len1 cap1 : Nat) (z1 : List Int) (w : World) (w0 : IsRow .i64 w a0 len0 cap0 z0) (w1 : IsRow .i64 w a1 len1 cap1 z1) :
    Calls Try.prog 4 #[.slice a0 len0 cap0, .slice a1 len1 cap1] w fun e w' => e = .returned (.bool true) ∧ Below w.heap.size w w' := by
  obtain ⟨l, hr, _, _⟩ := rd_of_row w0
  obtain ⟨r, hr', _, _⟩ := rd_of_row w1
  have hn := hr.le
  have hn' := hr'.le
  by_cases hbig : 1000 < len0
  · go_enter Try.func4, Try.ntmps4
    go_wp2_with fail
    go_ret
    exact ⟨rfl, Below.refl _ _⟩
  by_cases hbig' : 1000 < len1
  · go_enter Try.func4, Try.ntmps4
    go_wp2_with fail
    go_ret
    exact ⟨rfl, Below.refl _ _⟩
  have Hl := Lib.hid hr.len
  have Hl' := Lib.hid hr'.len
  have HNIL := Lib.hid (fun W : World => show W.ownsRow W.heap.size 3 1 (.slice none 0 0) ([] : List Int).length (nums .i64 ([] : List Int)) from World.ownsRow_nil _ _ _ _)
  go_enter Try.func4, Try.ntmps4
  go_wp2_with (first
    | (at_builtin; refine append_rd w.heap.size rfl (.const (.slice none 0 0)) (.tmp 29) 22 3 .i64 8 rfl Try.underlying22 info3 (by omega) _ [] rfl w.heap.size a0 _ cap0 l rfl (HNIL.out w) hr (Below.refl _ _) (Nat.le_refl _) (by simp; omega) ?_; intro v1 wx hown1 hb1 _ _; rw [List.nil_append, Hl.out] at hown1; obtain ⟨A1, c1, rfl⟩ := own_slice hown1)
    | (at_builtin; refine append_rd wx.heap.size rfl (.const (.slice none 0 0)) (.tmp 31) 22 3 .i64 8 rfl Try.underlying22 info3 (by omega) _ [] rfl w.heap.size a1 _ cap1 r rfl (HNIL.out wx) (hr'.below hb1) (Below.refl _ _) (Nat.le_refl _) (by simp; omega) ?_; intro v2 wy hown2 hb2 _ _; rw [List.nil_append, Hl'.out] at hown2; obtain ⟨A2, c2, rfl⟩ := own_slice hown2))
  have ho1 := own_below hown1 hb2
  have hy := below_ hb1 hb2
  have rx := Rd.of_own ho1
  have ry := Rd.of_own hown2
  clear hown1 hb1 hb2 ho1 hown2
  refine (split_any A1 A2 len0 c1 len1 c2 _ l r _ rx ry (Nat.le_refl _)).mono ?_
  rintro e wa ⟨AM, cM, AS, cS, rfl, hM, hS, _, k1⟩
  have ga := below_ hy k1
  go_wp2_with fail
  refine (rsplit_any a0 a1 len0 cap0 len1 cap1 _ l r _ (hr.below ga) (hr'.below ga) ga.size).mono ?_
  rintro e wb ⟨AN, cN, AT, cT, rfl, hN, hT, _, k2⟩
  have ka2 := below_ k1 k2
  replace hM := own_below hM k2
  replace hS := own_below hS k2
  clear ga k1 k2
  go_wp2_with fail
  refine (join_any A1 A2 len0 c1 len1 c2 _ l r _ (rx.below ka2) (ry.below ka2) ka2.size).mono ?_
  rintro e wc ⟨AL, cL, AR, cR, rfl, hL, hR, _, k3⟩
  have ka3 := below_ ka2 k3
  have gc := below_ hy ka3
  replace hM := own_below hM k3
  replace hS := own_below hS k3
  replace hN := own_below hN k3
  replace hT := own_below hT k3
  have hLb : wy.heap.size ≤ wb.heap.size := ka2.size
  clear ka2 k3
  go_wp2_with fail
  refine (rjoin_any a0 a1 len0 cap0 len1 cap1 _ l r _ (hr.below gc) (hr'.below gc) gc.size).mono ?_
  rintro e wd ⟨AU, cU, AV, cV, rfl, hU, hV, _, k4⟩
  have ka4 := below_ ka3 k4
  replace hM := own_below hM k4
  replace hS := own_below hS k4
  replace hN := own_below hN k4
  replace hT := own_below hT k4
  replace hL := own_below hL k4
  replace hR := own_below hR k4
  clear ka3 gc k4
  have rM := Rd.of_own hM
  have rS := Rd.of_own hS
  have rN := Rd.of_own hN
  have rT := Rd.of_own hT
  have rL := Rd.of_own hL
  have rR := Rd.of_own hR
  have rU := Rd.of_own hU
  have rV := Rd.of_own hV
  have LM := Live.of hM (Nat.le_refl wy.heap.size)
  have LS := Live.of hS (Nat.le_refl wy.heap.size)
  have LL := Live.of hL hLb
  have LR := Live.of hR hLb
  clear hM hS hN hT hL hR hU hV hLb
  have nM := rM.le
  have nL := rL.le
  generalize (ans (splitM l r) l r).length = N1 at *
  generalize (ans (joinL l r) l r).length = N2 at *
  generalize ans (splitM l r) l r = p1 at *
  generalize ans (splitS l r) l r = p2 at *
  generalize ans (joinL l r) l r = p3 at *
  generalize ans (joinR l r) l r = p4 at *
  generalize errM l r = z at *
  have hq : ∀ q, Below wd.heap.size wd (wd.drewN q) := fun q => below_drewN (Below.refl _ _) q
  have HQ := Lib.hid hq
  clear hq
  go_wp2_with fail
  refine (same_any AM AN N1 cM N1 cN _ p1 p1 _ rM rN).mono ?_
  rw [sameB_refl]
  rintro e we ⟨rfl, q1, rfl⟩
  go_wp2_with fail
  refine (same_any AS AT N1 cS N1 cT _ p2 p2 _ (rS.below (HQ.out q1)) (rT.below (HQ.out q1))).mono ?_
  rw [sameB_refl]
  rintro e we ⟨rfl, q2, rfl⟩
  go_wp2_with fail
  refine (same_any AL AU N2 cL N2 cU _ p3 p3 _ (rL.below (HQ.out (q1 + q2))) (rU.below (HQ.out (q1 + q2)))).mono ?_
  rw [sameB_refl]
  rintro e we ⟨rfl, q3, rfl⟩
  go_wp2_with fail
  refine (same_any AR AV N2 cR N2 cV _ p4 p4 _ (rR.below (HQ.out (q1 + q2 + q3))) (rV.below (HQ.out (q1 + q2 + q3)))).mono ?_
  rw [sameB_refl]
  rintro e we ⟨rfl, q4, rfl⟩
  clear rM rS rN rT rL rR rU rV
  have hstart : ∀ q, Live (wd.drewN q) wy.heap.size N1 AM cM ∧ Live (wd.drewN q) wy.heap.size N1 AS cS ∧ Live (wd.drewN q) wy.heap.size N2 AL cL ∧ Live (wd.drewN q) wy.heap.size N2 AR cR ∧ Below wy.heap.size wy (wd.drewN q) := fun q => ⟨LM, LS, LL, LR, below_drewN ka4 q⟩
  have HST := Lib.hid hstart
  clear hstart LM LS LL LR ka4
  go_wp2_with fail
  go_loopw [19] (fun i wr => ∃ k : Nat, k ≤ N1 ∧ i = .int .i64 k ∧ Live wr wy.heap.size N1 AM cM ∧ Live wr wy.heap.size N1 AS cS ∧ Live wr wy.heap.size N2 AL cL ∧ Live wr wy.heap.size N2 AR cR ∧ Below wy.heap.size wy wr) (fun i _ => N1 - (intOf i).toNat)
  case atStart => exact ⟨0, by omega, rfl, HST.out _⟩
  case round =>
    obtain ⟨k, hk, rfl, LM, LS, LL, LR, hbr⟩ := hrel
    by_cases hlt : k < N1
    · obtain ⟨g, rfl, hg, fz, u, hc⟩ := LM.cell hlt
      obtain ⟨g', rfl, hg', fz', u', hc'⟩ := (LS.set_ g k (.int .i64 7)).cell hlt
      go_wp2_with fail
      go_roundw
      case rel => exact ⟨k + 1, by omega, by go_num, (LM.set_ _ _ _).set_ _ _ _, (LS.set_ _ _ _).set_ _ _ _, (LL.set_ _ _ _).set_ _ _ _, (LR.set_ _ _ _).set_ _ _ _, (hbr.setCell (p := ⟨g, k, none⟩) hg _).setCell (p := ⟨g', k, none⟩) hg' _⟩
      case measure => simp [intOf]; omega
    · obtain ⟨wo, hwo⟩ : ∃ wo : World, wo = wr := ⟨_, rfl⟩
      subst hwo
      go_wp2_with fail
      go_loopw [20] (fun i wr => ∃ k : Nat, k ≤ N2 ∧ i = .int .i64 k ∧ Live wr wy.heap.size N1 AM cM ∧ Live wr wy.heap.size N1 AS cS ∧ Live wr wy.heap.size N2 AL cL ∧ Live wr wy.heap.size N2 AR cR ∧ Below wy.heap.size wy wr) (fun i _ => N2 - (intOf i).toNat)
      case atStart => exact ⟨0, by omega, rfl, LM, LS, LL, LR, hbr⟩
      case round =>
        clear LM LS LL LR hbr
        obtain ⟨j, hj, rfl, LM, LS, LL, LR, hbr⟩ := hrel
        by_cases hlt' : j < N2
        · obtain ⟨g, rfl, hg, fz, u, hc⟩ := LL.cell hlt'
          obtain ⟨g', rfl, hg', fz', u', hc'⟩ := (LR.set_ g j (.int .i64 7)).cell hlt'
          go_wp2_with fail
          go_roundw
          case rel => exact ⟨j + 1, by omega, by go_num, (LM.set_ _ _ _).set_ _ _ _, (LS.set_ _ _ _).set_ _ _ _, (LL.set_ _ _ _).set_ _ _ _, (LR.set_ _ _ _).set_ _ _ _, (hbr.setCell (p := ⟨g, j, none⟩) hg _).setCell (p := ⟨g', j, none⟩) hg' _⟩
          case measure => simp [intOf]; omega
        · have hw := below_then hy hy.size hbr
          go_wp2_with fail
          refine (same_any A1 a0 len0 c1 len0 cap0 _ l l _ (rx.below hbr) ((hr.below hw).more hy.size)).mono ?_
          rw [sameB_refl]
          rintro e w5 ⟨rfl, n5, rfl⟩
          have hw5 := below_drewN hw n5
          have hbr5 := below_drewN hbr n5
          go_wp2_with fail
          refine (same_any A2 a1 len1 c2 len1 cap1 _ r r _ (ry.below hbr5) ((hr'.below hw5).more hy.size)).mono ?_
          rw [sameB_refl]
          rintro e w6 ⟨rfl, n6, rfl⟩
          go_wp2_with fail
          go_ret
          exact ⟨rfl, below_drewN hw (n5 + n6)⟩

/-! ### THE ROW's STEP: WRITTEN OUT: LEAVE IT -/
set_option maxRecDepth 100000 in
theorem lifted (os : Os) (started : os.Started) (H : Type) (enc : TypeId × Value → H) :
    ReturnsInHanded {} Try.checked os 4 .any (Rows.midDoesSpec.pre6 enc Try.prog Try.f4 Rows.midDoesRow.domain false) (Rows.midDoesSpec.post enc Try.prog Try.f4 false true false false) := by
  refine returnsInHanded_of_change (C := Try.checked) own started (by kernel_rfl) Try.func4
    (ChangeSpec.witness6 (enc := enc) (C := Try.checked) false ⟨#[], #[.slice none 0 0, .slice none 0 0], []⟩ 8 (by kernel_rfl) (by kernel_rfl) (by kernel_rfl) (by kernel_rfl)) ?_
  intro W base args ds gs before hval0 hW hcnd _
  have hval : ∀ (j : Nat) t v, Try.f4.params[j]? = some t → args[j]? = some v → Value.okWide Try.prog W .any base t v := hval0
  have hW' := hW
  obtain ⟨p, q, hA0, hV, rfl, hfz, hnd⟩ := hW
  have hA : DataW.TrodAll enc Try.prog W 0 (fun _ => true) true Try.f4.params.toList args.toList ds p := hA0
  rw [Try.params4] at hA hval
  obtain ⟨v0, vs0, d0, ds0, p0, q0, hargs, rfl, rfl, h0, r0⟩ := trodAll_cons hA
  obtain ⟨v1, vs1, d1, ds1, p1, q1, rfl, rfl, rfl, h1, r1⟩ := trodAll_cons r0
  obtain ⟨rfl, rfl, rfl⟩ := trodAll_nil r1
  obtain rfl : args = #[v0, v1] := by cases args; simp_all
  obtain ⟨rfl, rfl⟩ := trodVars_none hV
  obtain ⟨a0, len0, cap0, rfl⟩ := okWide_slice Try.underlying22 (hval 0 22 v0 rfl rfl)
  have k0 := h0
  have lt0 : ∀ x ∈ p0, x.block < W.heap.size := by obtain ⟨m, hm⟩ := k0; exact DataW.trod_lt m _ _ _ hm
  obtain ⟨z0, w0⟩ : ∃ zs, IsRow .i64 W a0 len0 cap0 zs := by
    obtain ⟨fuel, hf⟩ := h0
    rcases open_ints Try.underlying22 Try.underlying3 (by kernel_rfl) hf with ⟨hcs, _⟩ | ⟨x, l, c, zs, hcs, _, hl, hm, hz, _, hcell, hwz⟩
    · simp [Value.cells] at hcs
      obtain ⟨rfl, rfl, rfl⟩ := hcs
      exact ⟨[], .inl ⟨rfl, rfl, rfl, rfl⟩⟩
    · simp [Value.cells] at hcs
      obtain ⟨rfl, rfl, rfl⟩ := hcs
      exact ⟨zs, .inr ⟨_, rfl, hl, hm, by simpa using hz, hcell, hwz⟩⟩
  obtain ⟨a1, len1, cap1, rfl⟩ := okWide_slice Try.underlying22 (hval 1 22 v1 rfl rfl)
  have k1 := h1
  have lt1 : ∀ x ∈ p1, x.block < W.heap.size := by obtain ⟨m, hm⟩ := k1; exact DataW.trod_lt m _ _ _ hm
  obtain ⟨z1, w1⟩ : ∃ zs, IsRow .i64 W a1 len1 cap1 zs := by
    obtain ⟨fuel, hf⟩ := h1
    rcases open_ints Try.underlying22 Try.underlying3 (by kernel_rfl) hf with ⟨hcs, _⟩ | ⟨x, l, c, zs, hcs, _, hl, hm, hz, _, hcell, hwz⟩
    · simp [Value.cells] at hcs
      obtain ⟨rfl, rfl, rfl⟩ := hcs
      exact ⟨[], .inl ⟨rfl, rfl, rfl, rfl⟩⟩
    · simp [Value.cells] at hcs
      obtain ⟨rfl, rfl, rfl⟩ := hcs
      exact ⟨zs, .inr ⟨_, rfl, hl, hm, by simpa using hz, hcell, hwz⟩⟩
  clear hA0 hval0
  refine (walk a0 len0 cap0 z0 a1 len1 cap1 z1 W w0 w1).mono fun e W' ⟨he, bel⟩ => ?_
  subst he
  exact ⟨_, rfl, _, _, _, [], _, [], hW', trodAll_mk1 (shut_bool Try.underlying4 _), (trodAll_cons_mk (Below.trod laidOut (by kernel_rfl) (of_decide_eq_true (by kernel_rfl)) k0 bel lt0) (trodAll_cons_mk (Below.trod laidOut (by kernel_rfl) (of_decide_eq_true (by kernel_rfl)) k1 bel lt1) trodAll_mk0)), rfl, bel.frame _, fun h => by cases h⟩

theorem over : Rows.midDoesRow.holds Try.pinned (OpenSpec.ofChange Rows.midDoesSpec) :=
  OpenClaim.holds_of_wide 4 Try.f4 rfl rfl rfl rfl rfl rfl rfl ⟨rfl, rfl, rfl, rfl, rfl⟩ rfl rfl rfl rfl rfl (by kernel_rfl) Try.func4 (by kernel_rfl)
    (of_decide_eq_true (by kernel_rfl)) (by unfold Func.isWrapper; first | (rw [if_pos (by decide +kernel)]; kernel_rfl) | (rw [if_neg (by decide +kernel)]; exact ⟨rfl, rfl⟩))
    (fun os started H enc _ => lifted os started H enc)

/-- ████ THE STATEMENT ████ -/
theorem proved : Rows.MidDoesSaid := over
#print axioms proved
end Go.Proofs.Ytboaamhffphaiaa.midDoes
