/- mid.each, and with it Split and Join: what they answer, with which error, for whatever lists. -/
import Derived.Test.YtboaamhffphaiaaCalls
namespace Go.Proofs.Ytboaamhffphaiaa
open Go.RowKit

/-- The first k values. -/
def pl (V : Nat → Int) (k : Nat) : List Int := (List.range k).map V
theorem pl_length (V : Nat → Int) (k : Nat) : (pl V k).length = k := by simp [pl]
theorem pl_snoc (V : Nat → Int) (k : Nat) : pl V (k + 1) = pl V k ++ [V k] := by simp [pl, List.range_succ]
theorem pl_getD (V : Nat → Int) (k j : Nat) (h : j < k) : (pl V k).getD j 0 = V j := by simp [pl, List.getD_eq_getElem?_getD, h]

def plusV (l r : List Int) (j : Nat) : Int := kp (l.getD j 0 + r.getD j 0)
def minusV (l r : List Int) (j : Nat) : Int := kp (l.getD j 0 - r.getD j 0)
def midV (l r : List Int) (j : Nat) : Int := kp (rnd (l.getD j 0 + r.getD j 0))
def sideV (l r : List Int) (j : Nat) : Int := kp (rnd (l.getD j 0 - r.getD j 0))
def errM (l r : List Int) : Int := if l.length ≠ r.length ∨ 256 < l.length then 4 else if okL l = true ∧ okL r = true then 0 else 2

/-- Two rows that do not lie in one block. -/
def Apart (p q : Value) : Prop := p.ownBlock = q.ownBlock → p.ownBlock = none
theorem Apart.symm {p q : Value} (h : Apart p q) : Apart q p := fun e => by rw [e]; exact h e.symm
theorem Apart.kept {p q : Value} (h : Apart p q) : p.ownBlock = none ∨ p.ownBlock ≠ q.ownBlock := by
  by_cases e : p.ownBlock = q.ownBlock
  · exact .inl (h e)
  · exact .inr e
/-- What an append has made of p lies apart from q, too. -/
theorem Apart.grown {p q p' : Value} {w : World} {base n : Nat} {t : TypeId} {size : Nat} {xs : List Value} (h : Apart p q) (hq : w.ownsRow base t size q n xs) (hat : p'.ownBlock = p.ownBlock ∨ ∃ b, p'.ownBlock = some b ∧ w.heap.size ≤ b) : Apart p' q := by
  intro e
  rcases hat with h1 | ⟨b, h1, h2⟩
  · rw [h1] at e ⊢
    exact h e
  · rw [h1] at e
    have := hq.lt b e.symm
    omega

/-- What each hands back: two lists of the call's own, apart, and an error. -/
def Pair (n : Nat) (p q : List Int) (x : Int) (w : World) (e : Ending) (w' : World) : Prop :=
  ∃ A c A' c', e = .returned (.tuple #[.slice A n c, .slice A' n c', .int .i64 x]) ∧ w'.ownsRow w.heap.size 3 1 (.slice A n c) n (nums .i64 p) ∧ w'.ownsRow w.heap.size 3 1 (.slice A' n c') n (nums .i64 q) ∧ Apart (.slice A n c) (.slice A' n c') ∧ Below w.heap.size w w'
theorem pair_none (x : Int) (w : World) : Pair 0 [] [] x w (.returned (.tuple #[.slice none 0 0, .slice none 0 0, .int .i64 x])) w :=
  ⟨none, 0, none, 0, rfl, World.ownsRow_nil _ _ _ _, World.ownsRow_nil _ _ _ _, fun _ => rfl, Below.refl _ _⟩
/-- An owned row is that of an earlier base, too. -/
theorem own_base_le {w : World} {b b' : Nat} {e : TypeId} {size n : Nat} {v : Value} {xs : List Value} (h : w.ownsRow b e size v n xs) (hb : b' ≤ b) : w.ownsRow b' e size v n xs := by
  refine ⟨h.1, ?_⟩
  rcases h.2 with h | ⟨g, cap, cur, h1, h2, h3⟩
  · exact .inl h
  · exact .inr ⟨g, cap, cur, h1, by omega, h3⟩
theorem err_zero {l r : List Int} (he : errM l r = 0) : l.length = r.length ∧ l.length ≤ 256 ∧ okL l = true ∧ okL r = true := by
  unfold errM at he
  split at he
  · omega
  · split at he
    · rename_i h1 h2
      exact ⟨by omega, by omega, h2.1, h2.2⟩
    · omega

set_option maxHeartbeats 1000000 in
theorem each_err (f g : Value) (A A' : Option Addr) (n c n' c' B : Nat) (l r : List Int) (w : World) (hr : Rd w B .i64 A n l) (hr' : Rd w B .i64 A' n' r) (x : Int) (he : errM l r = x) (hx : x ≠ 0) :
    Calls Try.prog 13 #[.slice A n c, .slice A' n' c', f, g] w (Pair 0 [] [] x w) := by
  have hl := hr.len
  have hl' := hr'.len
  have hn := hr.le
  have hn' := hr'.le
  by_cases h1 : n = n'
  case neg =>
    have HX := Lib.hid (show x = 4 by rw [← he]; unfold errM; rw [if_pos (by omega)])
    have hd : ((n : Int) != (n' : Int)) = true := by simp; omega
    clear hl hl' he h1
    go_enter Try.func13, Try.ntmps13
    go_wp2_with fail
    go_ret3
    rw [HX.out]
    exact pair_none _ _
  subst h1
  by_cases h2 : 256 < n
  · have HX := Lib.hid (show x = 4 by rw [← he]; unfold errM; rw [if_pos (by omega)])
    clear hl hl' he
    go_enter Try.func13, Try.ntmps13
    go_wp2_with fail
    go_ret3
    rw [HX.out]
    exact pair_none _ _
  have hE : errM l r = if okL l = true ∧ okL r = true then 0 else 2 := by unfold errM; rw [if_neg (by omega)]
  have hno : ¬ (okL l = true ∧ okL r = true) := by
    intro h
    rw [if_pos h] at hE
    exact hx (he.symm.trans hE)
  have HX := Lib.hid (show x = 2 by rw [← he, hE, if_neg hno])
  have HNO := Lib.hid hno
  clear hl hl' he hE hno hx
  cases hk : okL l
  · have HK := Lib.hid (show true = !okL l by rw [hk]; rfl)
    clear hk
    go_enter Try.func13, Try.ntmps13
    go_wp2_with fail
    refine (contains_any A n c B l _ hr true HK.out).mono ?_
    rintro e w1 ⟨rfl, rfl⟩
    go_wp2_with fail
    go_ret3
    rw [HX.out]
    exact pair_none _ _
  · have HK := Lib.hid (show false = !okL l by rw [hk]; rfl)
    have HK2 := Lib.hid (show true = !okL r by
      cases h : okL r
      · rfl
      · exact absurd ⟨hk, h⟩ HNO.out)
    clear hk
    go_enter Try.func13, Try.ntmps13
    go_wp2_with fail
    refine (contains_any A n c B l _ hr false HK.out).mono ?_
    rintro e w1 ⟨rfl, rfl⟩
    go_wp2_with fail
    refine (contains_any A' n c' B r _ hr' true HK2.out).mono ?_
    rintro e w1 ⟨rfl, rfl⟩
    go_wp2_with fail
    go_ret3
    rw [HX.out]
    exact pair_none _ _

set_option maxHeartbeats 4000000 in
set_option maxRecDepth 100000 in
theorem each_join (A A' : Option Addr) (n c c' B : Nat) (l r : List Int) (w : World) (hr : Rd w B .i64 A n l) (hr' : Rd w B .i64 A' n r) (hB : B ≤ w.heap.size) (he : errM l r = 0) :
    Calls Try.prog 13 #[.slice A n c, .slice A' n c', .func (.func 14) #[] #[], .func (.func 15) #[] #[]] w (Pair n (pl (plusV l r) n) (pl (minusV l r) n) 0 w) := by
  obtain ⟨e1, e2, hk, hk'⟩ := err_zero he
  have hn : n ≤ 256 := by rw [← hr.len]; exact e2
  have HL := Lib.hid hr.len
  have HL' := Lib.hid hr'.len
  have HK := Lib.hid (show false = !okL l by rw [hk]; rfl)
  have HK' := Lib.hid (show false = !okL r by rw [hk']; rfl)
  have HO := Lib.hid hk
  have HO' := Lib.hid hk'
  clear e1 e2 hk hk' he
  go_enter Try.func13, Try.ntmps13
  go_wp2_with fail
  refine (contains_any A n c B l _ hr false HK.out).mono ?_
  rintro e w1 ⟨rfl, rfl⟩
  go_wp2_with fail
  refine (contains_any A' n c' B r _ hr' false HK'.out).mono ?_
  rintro e w1 ⟨rfl, rfl⟩
  go_wp2_with fail
  go_loopw [8, 9, 34] (fun p q i wr => ∃ k : Nat, k ≤ n ∧ i = .int .i64 k ∧ wr.ownsRow w.heap.size 3 1 p (pl (plusV l r) k).length (nums .i64 (pl (plusV l r) k)) ∧ wr.ownsRow w.heap.size 3 1 q (pl (minusV l r) k).length (nums .i64 (pl (minusV l r) k)) ∧ Hid (Apart p q) ∧ Below w.heap.size w wr) (fun _ _ i _ => n - (intOf i).toNat)
  case atStart => exact ⟨0, by omega, rfl, World.ownsRow_nil _ _ _ _, World.ownsRow_nil _ _ _ _, fun _ => rfl, Below.refl _ _⟩
  case round =>
    obtain ⟨k, hk, rfl, hp, hq, HAp, hb⟩ := hrel
    by_cases hlt : k < n
    · have hbB := hb.mono hB
      obtain ⟨ad, rfl, _, hc⟩ := (hr.below hbB).at_ hlt
      obtain ⟨ad', rfl, _, hc'⟩ := (hr'.below hbB).at_ hlt
      have HX := Lib.hid (okL_at HO.out (getD_mem (l := l) (j := k) (by rw [HL.out]; exact hlt)))
      have HY := Lib.hid (okL_at HO'.out (getD_mem (l := r) (j := k) (by rw [HL'.out]; exact hlt)))
      have HV := Lib.hid (show pl (plusV l r) (k + 1) = pl (plusV l r) k ++ [plusV l r k] from pl_snoc _ _)
      have HW := Lib.hid (show pl (minusV l r) (k + 1) = pl (minusV l r) k ++ [minusV l r k] from pl_snoc _ _)
      have HVk := Lib.hid (show plusV l r k = kp (l.getD k 0 + r.getD k 0) from rfl)
      have HWk := Lib.hid (show minusV l r k = kp (l.getD k 0 - r.getD k 0) from rfl)
      have HLp := Lib.hid (pl_length (plusV l r) k)
      have HLq := Lib.hid (pl_length (minusV l r) k)
      generalize hx : l.getD k 0 = x at *
      generalize hy : r.getD k 0 = y at *
      have HYE := Lib.hid hy
      clear hx hy
      generalize pl (plusV l r) k = P at *
      generalize pl (minusV l r) k = Q at *
      go_wp2_with fail
      refine (plus_any x y _ HX.out HY.out).mono ?_
      rintro e wq ⟨rfl, rfl⟩
      go_wp2_with fail
      refine (keep_any _ _).mono ?_
      rintro e wq ⟨rfl, rfl⟩
      go_wp2_with (at_builtin; refine append_num (W := wr) w.heap.size rfl (.tmp 39) (.tmp 49) 22 3 .i64 8 rfl Try.underlying22 info3 (by omega) _ P _ rfl rfl hp hb hb.size (by rw [HLp.out]; omega) ?_; intro p1 w1 hp1 hb1 hg1 hat1; have hq1 := (show (wr).ownsRow w.heap.size 3 1 _ Q.length (nums .i64 Q) from hq).kept hg1 HAp.out.symm.kept; obtain ⟨ad2, e2, _, hc2⟩ := (hr'.below (hb1.mono hB)).at_ hlt; injection e2 with e2; subst e2; rw [HYE.out] at hc2)
      have HAp1 := Lib.hid (HAp.out.grown hq hat1)
      refine (minus_any x y _ HX.out HY.out).mono ?_
      rintro e wq ⟨rfl, rfl⟩
      go_wp2_with fail
      refine (keep_any _ _).mono ?_
      rintro e wq ⟨rfl, rfl⟩
      go_wp2_with (at_builtin; refine append_num (W := w1) w.heap.size rfl (.tmp 51) (.tmp 61) 22 3 .i64 8 rfl Try.underlying22 info3 (by omega) _ Q _ rfl rfl hq1 hb1 hb1.size (by rw [HLq.out]; omega) ?_; intro q1 w2 hq2 hb2 hg2 hat2; have hp2 := (show (w1).ownsRow w.heap.size 3 1 _ (P ++ _).length (nums .i64 (P ++ _)) from hp1).kept hg2 HAp1.out.kept)
      have HAp2 := Lib.hid (HAp1.out.symm.grown hp1 hat2).symm
      go_roundw
      case rel => exact ⟨k + 1, by omega, by go_num, by rw [HV.out, HVk.out]; exact hp2, by rw [HW.out, HWk.out]; exact hq2, HAp2, hb2⟩
      case measure => simp [intOf]; omega
    · obtain rfl : k = n := by omega
      rw [pl_length] at hp hq
      obtain ⟨A1, c1, rfl⟩ := own_slice hp
      obtain ⟨A2, c2, rfl⟩ := own_slice hq
      go_wp2_with fail
      go_ret3
      exact ⟨A1, c1, A2, c2, rfl, hp, hq, HAp.out, hb⟩
set_option maxHeartbeats 4000000 in
set_option maxRecDepth 100000 in
theorem each_split (A A' : Option Addr) (n c c' B b1 b2 : Nat) (l r : List Int) (w : World) (hr : Rd w B .i64 A n l) (hr' : Rd w B .i64 A' n r) (hB : B ≤ w.heap.size) (hl1 : b1 < w.heap.size) (hl2 : b2 < w.heap.size) (hf1 : w.cell? ⟨b1, 0, none⟩ = some (.func (.func 14) #[] #[])) (hf2 : w.cell? ⟨b2, 0, none⟩ = some (.func (.func 15) #[] #[])) (he : errM l r = 0) :
    Calls Try.prog 13 #[.slice A n c, .slice A' n c', .func (.func 23) #[] #[.pointer (some ⟨b1, 0, none⟩)], .func (.func 23) #[] #[.pointer (some ⟨b2, 0, none⟩)]] w (Pair n (pl (midV l r) n) (pl (sideV l r) n) 0 w) := by
  obtain ⟨e1, e2, hk, hk'⟩ := err_zero he
  have hn : n ≤ 256 := by rw [← hr.len]; exact e2
  have HL := Lib.hid hr.len
  have HL' := Lib.hid hr'.len
  have HK := Lib.hid (show false = !okL l by rw [hk]; rfl)
  have HK' := Lib.hid (show false = !okL r by rw [hk']; rfl)
  have HO := Lib.hid hk
  have HO' := Lib.hid hk'
  clear e1 e2 hk hk' he
  go_enter Try.func13, Try.ntmps13
  go_wp2_with fail
  refine (contains_any A n c B l _ hr false HK.out).mono ?_
  rintro e w1 ⟨rfl, rfl⟩
  go_wp2_with fail
  refine (contains_any A' n c' B r _ hr' false HK'.out).mono ?_
  rintro e w1 ⟨rfl, rfl⟩
  go_wp2_with fail
  go_loopw [8, 9, 34] (fun p q i wr => ∃ k : Nat, k ≤ n ∧ i = .int .i64 k ∧ wr.ownsRow w.heap.size 3 1 p (pl (midV l r) k).length (nums .i64 (pl (midV l r) k)) ∧ wr.ownsRow w.heap.size 3 1 q (pl (sideV l r) k).length (nums .i64 (pl (sideV l r) k)) ∧ Hid (Apart p q) ∧ Below w.heap.size w wr) (fun _ _ i _ => n - (intOf i).toNat)
  case atStart => exact ⟨0, by omega, rfl, World.ownsRow_nil _ _ _ _, World.ownsRow_nil _ _ _ _, fun _ => rfl, Below.refl _ _⟩
  case round =>
    obtain ⟨k, hk, rfl, hp, hq, HAp, hb⟩ := hrel
    by_cases hlt : k < n
    · have hbB := hb.mono hB
      obtain ⟨ad, rfl, _, hc⟩ := (hr.below hbB).at_ hlt
      obtain ⟨ad', rfl, _, hc'⟩ := (hr'.below hbB).at_ hlt
      have HX := Lib.hid (okL_at HO.out (getD_mem (l := l) (j := k) (by rw [HL.out]; exact hlt)))
      have HY := Lib.hid (okL_at HO'.out (getD_mem (l := r) (j := k) (by rw [HL'.out]; exact hlt)))
      have HV := Lib.hid (show pl (midV l r) (k + 1) = pl (midV l r) k ++ [midV l r k] from pl_snoc _ _)
      have HW := Lib.hid (show pl (sideV l r) (k + 1) = pl (sideV l r) k ++ [sideV l r k] from pl_snoc _ _)
      have HVk := Lib.hid (show midV l r k = kp (rnd (l.getD k 0 + r.getD k 0)) from rfl)
      have HWk := Lib.hid (show sideV l r k = kp (rnd (l.getD k 0 - r.getD k 0)) from rfl)
      have HLp := Lib.hid (pl_length (midV l r) k)
      have HLq := Lib.hid (pl_length (sideV l r) k)
      generalize hx : l.getD k 0 = x at *
      generalize hy : r.getD k 0 = y at *
      have HYE := Lib.hid hy
      clear hx hy
      generalize pl (midV l r) k = P at *
      generalize pl (sideV l r) k = Q at *
      go_wp2_with fail
      refine (half_plus x y b1 _ HX.out HY.out ((hb.cell (p := ⟨b1, 0, none⟩) hl1).trans hf1)).mono ?_
      rintro e wq ⟨rfl, qa, rfl⟩
      go_wp2_with fail
      refine (keep_any _ _).mono ?_
      rintro e wq ⟨rfl, rfl⟩
      go_wp2_with (at_builtin; refine append_num (W := wr.drewN qa) w.heap.size rfl (.tmp 39) (.tmp 49) 22 3 .i64 8 rfl Try.underlying22 info3 (by omega) _ P _ rfl rfl hp (below_drewN hb qa) (below_drewN hb qa).size (by rw [HLp.out]; omega) ?_; intro p1 w1 hp1 hb1 hg1 hat1; have hq1 := (show (wr.drewN qa).ownsRow w.heap.size 3 1 _ Q.length (nums .i64 Q) from hq).kept hg1 HAp.out.symm.kept; obtain ⟨ad2, e2, _, hc2⟩ := (hr'.below (hb1.mono hB)).at_ hlt; injection e2 with e2; subst e2; rw [HYE.out] at hc2)
      have HAp1 := Lib.hid (HAp.out.grown hq hat1)
      refine (half_minus x y b2 _ HX.out HY.out ((hb1.cell (p := ⟨b2, 0, none⟩) hl2).trans hf2)).mono ?_
      rintro e wq ⟨rfl, qb, rfl⟩
      go_wp2_with fail
      refine (keep_any _ _).mono ?_
      rintro e wq ⟨rfl, rfl⟩
      go_wp2_with (at_builtin; refine append_num (W := w1.drewN qb) w.heap.size rfl (.tmp 51) (.tmp 61) 22 3 .i64 8 rfl Try.underlying22 info3 (by omega) _ Q _ rfl rfl hq1 (below_drewN hb1 qb) (below_drewN hb1 qb).size (by rw [HLq.out]; omega) ?_; intro q1 w2 hq2 hb2 hg2 hat2; have hp2 := (show (w1.drewN qb).ownsRow w.heap.size 3 1 _ (P ++ _).length (nums .i64 (P ++ _)) from hp1).kept hg2 HAp1.out.kept)
      have HAp2 := Lib.hid (HAp1.out.symm.grown hp1 hat2).symm
      go_roundw
      case rel => exact ⟨k + 1, by omega, by go_num, by rw [HV.out, HVk.out]; exact hp2, by rw [HW.out, HWk.out]; exact hq2, HAp2, hb2⟩
      case measure => simp [intOf]; omega
    · obtain rfl : k = n := by omega
      rw [pl_length] at hp hq
      obtain ⟨A1, c1, rfl⟩ := own_slice hp
      obtain ⟨A2, c2, rfl⟩ := own_slice hq
      go_wp2_with fail
      go_ret3
      exact ⟨A1, c1, A2, c2, rfl, hp, hq, HAp.out, hb⟩

def joinL (l r : List Int) : List Int := pl (plusV l r) l.length
def joinR (l r : List Int) : List Int := pl (minusV l r) l.length
def splitM (l r : List Int) : List Int := pl (midV l r) l.length
def splitS (l r : List Int) : List Int := pl (sideV l r) l.length
theorem join_ok (A A' : Option Addr) (n c c' B : Nat) (l r : List Int) (w : World) (hr : Rd w B .i64 A n l) (hr' : Rd w B .i64 A' n r) (hB : B ≤ w.heap.size) (he : errM l r = 0) :
    Calls Try.prog 7 #[.slice A n c, .slice A' n c'] w (Pair n (joinL l r) (joinR l r) 0 w) := by
  have HL := Lib.hid hr.len
  have HE := Lib.hid he
  clear he
  go_enter Try.func7, Try.ntmps7
  go_wp2_with fail
  refine (each_join A A' n c c' B l r _ hr hr' hB HE.out).mono ?_
  rintro e w1 ⟨A1, c1, A2, c2, rfl, h1, h2, h3, h4⟩
  go_wp2_with fail
  go_ret3
  unfold joinL joinR
  rw [HL.out]
  exact ⟨A1, c1, A2, c2, rfl, h1, h2, h3, h4⟩
theorem join_err (A A' : Option Addr) (n c n' c' B : Nat) (l r : List Int) (w : World) (hr : Rd w B .i64 A n l) (hr' : Rd w B .i64 A' n' r) (x : Int) (he : errM l r = x) (hx : x ≠ 0) :
    Calls Try.prog 7 #[.slice A n c, .slice A' n' c'] w (Pair 0 [] [] x w) := by
  have HE := Lib.hid he
  clear he
  go_enter Try.func7, Try.ntmps7
  go_wp2_with fail
  refine (each_err _ _ A A' n c n' c' B l r _ hr hr' x HE.out hx).mono ?_
  rintro e w1 ⟨A1, c1, A2, c2, rfl, h1, h2, h3, h4⟩
  go_wp2_with fail
  go_ret3
  exact ⟨A1, c1, A2, c2, rfl, h1, h2, h3, h4⟩
theorem pair_later {n : Nat} {p q : List Int} {x : Int} {w w1 w' : World} {e : Ending} (hb : Below w.heap.size w w1) (h : Pair n p q x w1 e w') : Pair n p q x w e w' := by
  obtain ⟨A1, c1, A2, c2, rfl, h1, h2, h3, h4⟩ := h
  exact ⟨A1, c1, A2, c2, rfl, own_base_le h1 hb.size, own_base_le h2 hb.size, h3, below_ hb h4⟩
theorem two_below (w : World) (o o' : Obj) : Below w.heap.size w ((w.alloc o).alloc o') := ((Below.refl _ _).alloc (Nat.le_refl _) _).alloc (by simp) _
set_option maxHeartbeats 1000000 in
theorem split_ok (A A' : Option Addr) (n c c' B : Nat) (l r : List Int) (w : World) (hr : Rd w B .i64 A n l) (hr' : Rd w B .i64 A' n r) (hB : B ≤ w.heap.size) (he : errM l r = 0) :
    Calls Try.prog 8 #[.slice A n c, .slice A' n c'] w (Pair n (splitM l r) (splitS l r) 0 w) := by
  have HL := Lib.hid hr.len
  have HE := Lib.hid he
  clear he
  go_enter Try.func8, Try.ntmps8
  go_wp2_with fail
  refine (halved_any 14 _).mono ?_
  rintro e wa ⟨rfl, rfl⟩
  go_wp2_with fail
  refine (halved_any 15 _).mono ?_
  rintro e wa ⟨rfl, rfl⟩
  go_wp2_with fail
  have hb := two_below w (.cells #[.func (.func 14) #[] #[]] 32) (.cells #[.func (.func 15) #[] #[]] 32)
  refine (each_split A A' n c c' B w.heap.size (w.heap.size + 1) l r _ (hr.below (hb.mono hB)) (hr'.below (hb.mono hB)) (Nat.le_trans hB hb.size) (by simp; omega) (by simp) (by go_simp) (by go_simp) HE.out).mono ?_
  rintro e w1 hpair
  obtain ⟨A1, c1, A2, c2, rfl, h1, h2, h3, h4⟩ := pair_later hb hpair
  go_wp2_with fail
  go_ret3
  unfold splitM splitS
  rw [HL.out]
  exact ⟨A1, c1, A2, c2, rfl, h1, h2, h3, h4⟩
set_option maxHeartbeats 1000000 in
theorem split_err (A A' : Option Addr) (n c n' c' B : Nat) (l r : List Int) (w : World) (hr : Rd w B .i64 A n l) (hr' : Rd w B .i64 A' n' r) (hB : B ≤ w.heap.size) (x : Int) (he : errM l r = x) (hx : x ≠ 0) :
    Calls Try.prog 8 #[.slice A n c, .slice A' n' c'] w (Pair 0 [] [] x w) := by
  have HE := Lib.hid he
  clear he
  go_enter Try.func8, Try.ntmps8
  go_wp2_with fail
  refine (halved_any 14 _).mono ?_
  rintro e wa ⟨rfl, rfl⟩
  go_wp2_with fail
  refine (halved_any 15 _).mono ?_
  rintro e wa ⟨rfl, rfl⟩
  go_wp2_with fail
  have hb := two_below w (.cells #[.func (.func 14) #[] #[]] 32) (.cells #[.func (.func 15) #[] #[]] 32)
  refine (each_err _ _ A A' n c n' c' B l r _ (hr.below (hb.mono hB)) (hr'.below (hb.mono hB)) x HE.out hx).mono ?_
  rintro e w1 hpair
  obtain ⟨A1, c1, A2, c2, rfl, h1, h2, h3, h4⟩ := pair_later hb hpair
  go_wp2_with fail
  go_ret3
  exact ⟨A1, c1, A2, c2, rfl, h1, h2, h3, h4⟩
end Go.Proofs.Ytboaamhffphaiaa
