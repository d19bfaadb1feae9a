/- string(b) of bytes that are read, and that unlike bytes have unlike texts. -/
import Derived.Test.YteodhfgnjolcjaaHelp
import Derived.Laws.BytesArg
namespace Go.Proofs.Yteodhfgnjolcjaa
open Go.RowKit

/-- string(b) of bytes that are read. -/
theorem run_conv {w : World} {A : Option Addr} {n c B : Nat} {l : List Int} (hr : Rd w B .u8 A n l) : (convert 25 9 (.slice A n c)).run Try.prog w = .ok (.string (strOfNums l)) w := by
  rcases A with _ | ad
  · have h0 : n = 0 := by
      rcases Nat.eq_zero_or_pos n with h | h
      · exact h
      · obtain ⟨_, h', _⟩ := hr.2.2 h
        cases h'
    subst h0
    obtain rfl : l = [] := List.eq_nil_of_length_eq_zero hr.len
    exact run_convert_bytes_nil w 25 5 Try.underlying25 Try.underlying5 0 c 9 Try.underlying9
  · have hl : (loadCells ad n).run Try.prog w = .ok (l.map (Value.int .u8)).toArray w := by
      have := run_loadCells_list (P := Try.prog) w ad (l.map (Value.int .u8)) (fun j v hj => by
        have hjl : j < l.length := by
          rcases Nat.lt_or_ge j l.length with h | h
          · exact h
          · simp [List.getElem?_eq_none (show (l.map (Value.int .u8)).length ≤ j by simpa using h)] at hj
        obtain ⟨ad', e, _, hc⟩ := hr.at_ (j := j) (by rw [← hr.len]; exact hjl)
        injection e with e
        subst e
        rw [hc]
        simp [List.getElem?_eq_getElem hjl] at hj
        subst hj
        simp [List.getD, List.getElem?_eq_getElem hjl])
      simpa [hr.len] using this
    rw [run_convert_bytes_string w 25 9 5 _ n c Try.underlying25 Try.underlying5 Try.underlying9, run_bytesToString w _ n c l hl, foldl_push_bytes]
    simp [strOfNums, ByteArray.empty, ByteArray.emptyWithCapacity]
    rfl

/-- Two lists of bytes are one where their texts are. -/
theorem strOfNums_inj {l m : List Int} (hl : ∀ x ∈ l, 0 ≤ x ∧ x ≤ 255) (hm : ∀ x ∈ m, 0 ≤ x ∧ x ≤ 255) (h : strOfNums l = strOfNums m) : l = m := by
  have h1 : (strOfNums l).data.toList = (strOfNums m).data.toList := by rw [h]
  rw [strOfNums_data, strOfNums_data] at h1
  clear h
  induction l generalizing m with
  | nil => cases m with
    | nil => rfl
    | cons y m => simp at h1
  | cons x l ih =>
    cases m with
    | nil => simp at h1
    | cons y m =>
      simp only [List.map_cons, List.cons.injEq] at h1
      obtain ⟨h2, h3⟩ := h1
      have hx := hl x (by simp)
      have hy := hm y (by simp)
      have h4 : x = y := by
        have h5 := congrArg UInt8.toNat h2
        simp only [UInt8.toNat_ofNat'] at h5
        omega
      rw [h4, ih (fun z hz => hl z (by simp [hz])) (fun z hz => hm z (by simp [hz])) h3]

end Go.Proofs.Yteodhfgnjolcjaa
