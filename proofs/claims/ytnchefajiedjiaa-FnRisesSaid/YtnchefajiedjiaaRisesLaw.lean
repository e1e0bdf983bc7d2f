/-
  By how much samples rise, in two parts, and between. No program in sight.
-/
import Derived.Test.YtnchefajiedjiaaRises
namespace Go.Proofs.Ytnchefajiedjiaa.AL
open Go Go.RowKit Go.Proofs
open Ty (KF)

theorem samOk_take {xs : List Sample} (h : SamOk xs) (k : Nat) : SamOk (xs.take k) := by
  intro i hi
  have hi' : i < xs.length := by simp at hi; omega
  obtain ⟨_, h1, h2, h3, h4, h5⟩ := h i hi'
  refine ⟨hi, ?_, ?_, ?_, ?_, ?_⟩ <;> simp only [List.getElem_take] <;> assumption
theorem samOk_drop {xs : List Sample} (h : SamOk xs) (k : Nat) : SamOk (xs.drop k) := by
  intro i hi
  have hi' : k + i < xs.length := by simp at hi; omega
  obtain ⟨_, h1, h2, h3, h4, h5⟩ := h (k + i) hi'
  refine ⟨hi, ?_, ?_, ?_, ?_, fun h0 => ?_⟩ <;> simp only [List.getElem_drop]
  · exact h1
  · exact h2
  · exact h3
  · exact h4
  · obtain ⟨j, rfl⟩ : ∃ j, i = j + 1 := ⟨i - 1, by omega⟩
    exact h5 (by omega)
theorem risesTo_take (xs : List Sample) (k : Nat) : ∀ j, j ≤ k → risesTo (xs.take k) j = risesTo xs j
  | 0, _ => rfl
  | 1, _ => rfl
  | j + 2, hj => by
    have e1 : (xs.take k).getD j ⟨0, 0⟩ = xs.getD j ⟨0, 0⟩ := by simp only [List.getD, List.getElem?_take, if_pos (show j < k by omega)]
    have e2 : (xs.take k).getD (j + 1) ⟨0, 0⟩ = xs.getD (j + 1) ⟨0, 0⟩ := by simp only [List.getD, List.getElem?_take, if_pos (show j + 1 < k by omega)]
    simp only [risesTo, risesTo_take xs k (j + 1) (by omega), e1, e2]
theorem risesTo_drop (xs : List Sample) (m : Nat) : ∀ j, risesTo xs (m + 1) + risesTo (xs.drop m) (j + 1) = risesTo xs (m + j + 1)
  | 0 => by simp [risesTo]
  | j + 1 => by
    have ih := risesTo_drop xs m j
    have e1 : (xs.drop m).getD j ⟨0, 0⟩ = xs.getD (m + j) ⟨0, 0⟩ := by simp only [List.getD, List.getElem?_drop]
    have e2 : (xs.drop m).getD (j + 1) ⟨0, 0⟩ = xs.getD (m + j + 1) ⟨0, 0⟩ := by simp only [List.getD, List.getElem?_drop]; rfl
    show _ + risesTo (xs.drop m) (j + 2) = risesTo xs (m + j + 2)
    rw [risesTo, risesTo, e1, e2]
    omega
theorem risesTo_ge {xs : List Sample} (h : SamOk xs) : ∀ k (hk : k < xs.length), xs[k].V - (xs[0]'(by omega)).V ≤ risesTo xs (k + 1)
  | 0, _ => by simp [risesTo]
  | k + 1, hk => by
    have ih := risesTo_ge h k (by omega)
    rw [risesTo_succ xs hk]
    obtain ⟨_, _, _, h1, _⟩ := h k (by omega)
    obtain ⟨_, _, _, h2, _⟩ := h (k + 1) hk
    unfold rise
    split <;> omega

theorem risesOf_ok {xs : List Sample} (h : SamOk xs) (h0 : 0 < xs.length) : risesOf xs = risesTo xs xs.length := by
  have et : samOk xs = true := samOk_true h
  simp only [risesOf, et, if_true, if_neg (Nat.ne_of_gt h0)]
theorem risesOf_parts {xs : List Sample} (h : SamOk xs) {k : Nat} (h1 : 1 ≤ k) (h2 : k < xs.length) : risesOf xs = risesOf (xs.take k) + risesOf (xs.drop (k - 1)) := by
  obtain ⟨m, rfl⟩ : ∃ m, k = m + 1 := ⟨k - 1, by omega⟩
  simp only [Nat.add_sub_cancel]
  rw [risesOf_ok h (by omega), risesOf_ok (samOk_take h _) (by simp; omega), risesOf_ok (samOk_drop h _) (by simp; omega)]
  have e1 : (xs.take (m + 1)).length = m + 1 := by simp; omega
  have e2 : (xs.drop m).length = (xs.length - m - 1) + 1 := by simp; omega
  rw [e1, e2, risesTo_take xs _ _ (Nat.le_refl _), risesTo_drop]
  congr 1; omega
theorem risesOf_ge {xs : List Sample} (h : SamOk xs) (h1 : 1 < xs.length) : 0 ≤ risesOf xs ∧ xs[xs.length - 1].V - xs[0].V ≤ risesOf xs := by
  rw [risesOf_ok h (by omega)]
  refine ⟨(risesTo_bd h _ (Nat.le_refl _)).1, ?_⟩
  have := risesTo_ge h (xs.length - 1) (by omega)
  rwa [show xs.length - 1 + 1 = xs.length by omega] at this
theorem risesOf_bd {xs : List Sample} (h : SamOk xs) : 0 ≤ risesOf xs ∧ risesOf xs ≤ 21474836470000 := by
  have hl := samOk_len h
  have et : samOk xs = true := samOk_true h
  by_cases h0 : xs.length = 0
  · simp [risesOf, et, h0, risesTo]
  · rw [risesOf_ok h (by omega)]
    have := risesTo_bd h _ (Nat.le_refl xs.length)
    omega
end Go.Proofs.Ytnchefajiedjiaa.AL
