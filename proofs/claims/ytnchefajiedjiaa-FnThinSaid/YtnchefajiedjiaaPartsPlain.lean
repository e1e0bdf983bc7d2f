/-
  Whiles put together in parts. No program in sight.
-/
import Derived.Test.YtnchefajiedjiaaWJoin
namespace Go.Proofs.Ytnchefajiedjiaa.AL
open Go Go.RowKit Go.Proofs

/-- A while, but for how many samples there may be. -/
def WS (w : Win) : Prop := 0 ≤ w.From ∧ w.From ≤ 9999 ∧ 1 ≤ w.Count ∧ 0 ≤ w.Low ∧ w.Low ≤ w.Last ∧ w.Last ≤ w.High ∧ w.High ≤ 2147483647 ∧ w.Low * w.Count ≤ w.Sum ∧ w.Sum ≤ w.High * w.Count
theorem WinOk.ws {w : Win} (h : WinOk w) : WS w := by
  obtain ⟨h1, h2, h3, h4, h5, h6, h7, h8, h9, h10⟩ := h
  exact ⟨h1, h2, h3, h5, h6, h7, h8, h9, h10⟩
theorem WS.ok {w : Win} (h : WS w) (hc : w.Count ≤ 10000) : WinOk w := by
  obtain ⟨h1, h2, h3, h5, h6, h7, h8, h9, h10⟩ := h
  exact ⟨h1, h2, h3, hc, h5, h6, h7, h8, h9, h10⟩
theorem ws_wj {a b : Win} (ha : WS a) (hb : WS b) : WS (wj a b) := by
  obtain ⟨a1, a2, a3, a5, a6, a7, a8, a9, a10⟩ := ha
  obtain ⟨b1, b2, b3, b5, b6, b7, b8, b9, b10⟩ := hb
  have m1 : min a.Low b.Low * a.Count ≤ a.Low * a.Count := Int.mul_le_mul_of_nonneg_right (by omega) (by omega)
  have m2 : min a.Low b.Low * b.Count ≤ b.Low * b.Count := Int.mul_le_mul_of_nonneg_right (by omega) (by omega)
  have m3 : a.High * a.Count ≤ max a.High b.High * a.Count := Int.mul_le_mul_of_nonneg_right (by omega) (by omega)
  have m4 : b.High * b.Count ≤ max a.High b.High * b.Count := Int.mul_le_mul_of_nonneg_right (by omega) (by omega)
  refine ⟨a1, a2, ?_, ?_, ?_, ?_, ?_, ?_, ?_⟩ <;> simp only [wj]
  · omega
  · omega
  · omega
  · omega
  · omega
  · rw [Int.mul_add]; omega
  · rw [Int.mul_add]; omega
theorem wj_assoc (a b c : Win) : wj (wj a b) c = wj a (wj b c) := by
  simp only [wj, Win.eq_iff]
  refine ⟨trivial, by omega, by omega, by omega, by omega, trivial⟩
theorem ws_wfold {xs : List Win} (h : WJOk xs) : ∀ k, k < xs.length → WS (wfold xs k)
  | 0, hk => by rw [wfold_zero hk]; obtain ⟨_, h1, _⟩ := h 0 hk; exact h1.ws
  | k + 1, hk => by rw [wfold_succ hk]; obtain ⟨_, h1, _⟩ := h (k + 1) hk; exact ws_wj (ws_wfold h k (by omega)) h1.ws
theorem wfold_take (xs : List Win) (k : Nat) : ∀ j, j < k → wfold (xs.take k) j = wfold xs j
  | 0, hj => by simp only [wfold, List.getD, List.getElem?_take, if_pos hj]
  | j + 1, hj => by
    simp only [wfold, wfold_take xs k j (by omega), List.getD, List.getElem?_take, if_pos hj]
theorem wfold_drop (xs : List Win) (m : Nat) : ∀ j, wfold xs (m + 1 + j) = wj (wfold xs m) (wfold (xs.drop (m + 1)) j)
  | 0 => by simp only [wfold, List.getD, List.getElem?_drop, Nat.add_zero]
  | j + 1 => by
    show wj (wfold xs (m + 1 + j)) (xs.getD (m + 1 + j + 1) winZ) = _
    rw [wfold_drop xs m j, wj_assoc]
    simp only [wfold, List.getD, List.getElem?_drop]
    rfl
theorem from_lt {xs : List Win} (h : WJOk xs) (i : Nat) : ∀ j, ∀ (hj : i + 1 + j < xs.length), (xs[i]'(by omega)).From < xs[i + 1 + j].From
  | 0, hj => by obtain ⟨_, _, h1⟩ := h (i + 1) hj; exact h1 (by omega)
  | j + 1, hj => by
    have ih := from_lt h i j (by omega)
    obtain ⟨_, _, h1⟩ := h (i + 1 + (j + 1)) hj
    have h2 := h1 (by omega)
    have e : (xs[i + 1 + (j + 1) - 1]'(by omega)) = xs[i + 1 + j]'(by omega) := rfl
    rw [e] at h2
    omega
theorem wjok_take {xs : List Win} (h : WJOk xs) (k : Nat) : WJOk (xs.take k) := by
  intro i hi
  have hi' : i < xs.length := by simp at hi; omega
  obtain ⟨_, h1, h2⟩ := h i hi'
  refine ⟨hi, ?_, ?_⟩ <;> simp only [List.getElem_take] <;> assumption
theorem wjok_drop {xs : List Win} (h : WJOk xs) (k : Nat) : WJOk (xs.drop k) := by
  intro i hi
  have hi' : k + i < xs.length := by simp at hi; omega
  obtain ⟨_, h1, h2⟩ := h (k + i) hi'
  refine ⟨hi, ?_, fun h0 => ?_⟩ <;> simp only [List.getElem_drop]
  · exact h1
  · obtain ⟨j, rfl⟩ : ∃ j, i = j + 1 := ⟨i - 1, by omega⟩
    exact h2 (by omega)
theorem winsJoin_true {xs : List Win} (h : (winsJoin xs).2 = true) : 0 < xs.length ∧ WJOk xs ∧ (wfold xs (xs.length - 1)).Count ≤ 10000 := by
  by_cases hh : 0 < xs.length ∧ WJOk xs ∧ (wfold xs (xs.length - 1)).Count ≤ 10000
  · exact hh
  · rw [winsJoin_no hh] at h; simp at h
theorem winsJoin_parts {xs : List Win} {k : Nat} (h1 : 1 ≤ k) (h2 : k < xs.length) (h : (winsJoin xs).2 = true) :
    (winsJoin (xs.take k)).2 = true ∧ (winsJoin (xs.drop k)).2 = true ∧ winsJoin [(winsJoin (xs.take k)).1, (winsJoin (xs.drop k)).1] = ((winsJoin xs).1, true) := by
  obtain ⟨h0, hok, hc⟩ := winsJoin_true h
  obtain ⟨m, rfl⟩ : ∃ m, k = m + 1 := ⟨k - 1, by omega⟩
  have l1 : (xs.take (m + 1)).length - 1 = m := by simp; omega
  have l2 : (xs.drop (m + 1)).length - 1 = xs.length - 1 - (m + 1) := by simp; omega
  have et : wfold (xs.take (m + 1)) m = wfold xs m := wfold_take xs (m + 1) m (by omega)
  have ed : wfold xs (xs.length - 1) = wj (wfold xs m) (wfold (xs.drop (m + 1)) (xs.length - 1 - (m + 1))) := by
    rw [← wfold_drop]; congr 1; omega
  have wa := ws_wfold hok m (by omega)
  have wb := ws_wfold (wjok_drop hok (m + 1)) (xs.length - 1 - (m + 1)) (by simp; omega)
  have c1 : (wfold xs m).Count ≤ 10000 := by rw [ed] at hc; simp only [wj] at hc; have := wb.2.2.1; omega
  have c2 : (wfold (xs.drop (m + 1)) (xs.length - 1 - (m + 1))).Count ≤ 10000 := by rw [ed] at hc; simp only [wj] at hc; have := wa.2.2.1; omega
  have j1 : winsJoin (xs.take (m + 1)) = (wfold xs m, true) := by
    rw [winsJoin_yes (by simp; omega) (wjok_take hok _) (by rw [l1, et]; exact c1), l1, et]
  have j2 : winsJoin (xs.drop (m + 1)) = (wfold (xs.drop (m + 1)) (xs.length - 1 - (m + 1)), true) := by
    rw [winsJoin_yes (by simp; omega) (wjok_drop hok _) (by rw [l2]; exact c2), l2]
  have j0 : winsJoin xs = (wfold xs (xs.length - 1), true) := winsJoin_yes h0 hok hc
  refine ⟨by rw [j1], by rw [j2], ?_⟩
  rw [j0, j1, j2]
  simp only
  have f1 : (wfold xs m).From = (xs[0]'h0).From := wfold_from h0 m (by omega)
  have f2 : (wfold (xs.drop (m + 1)) (xs.length - 1 - (m + 1))).From = xs[m + 1].From := by
    rw [wfold_from (by simp; omega) _ (by simp; omega)]; simp
  have f3 := from_lt hok 0 m (by omega)
  have f4 : (xs[0]'h0).From < xs[m + 1].From := by simpa [Nat.add_comm] using f3
  have hw : WJOk [wfold xs m, wfold (xs.drop (m + 1)) (xs.length - 1 - (m + 1))] := by
    intro i hi
    match i, hi with
    | 0, _ => exact ⟨by simp, wa.ok c1, fun h => absurd h (by omega)⟩
    | 1, _ => exact ⟨by simp, wb.ok c2, fun _ => by show (wfold xs m).From < _; rw [f1]; simp only [List.getElem_cons_succ, List.getElem_cons_zero]; rw [f2]; exact f4⟩
  have hwf : wfold [wfold xs m, wfold (xs.drop (m + 1)) (xs.length - 1 - (m + 1))] 1 = wfold xs (xs.length - 1) := by
    rw [ed]; rfl
  rw [winsJoin_yes (by simp) hw (by show (wfold _ 1).Count ≤ _; rw [hwf]; exact hc)]
  show (wfold _ 1, true) = _
  rw [hwf]
end Go.Proofs.Ytnchefajiedjiaa.AL
