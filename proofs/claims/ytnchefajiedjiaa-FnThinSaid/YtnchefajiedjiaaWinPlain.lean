/-
  What samples come to, while by while. No program in sight.
-/
import Derived.Test.YtnchefajiedjiaaSam
namespace Go.Proofs.Ytnchefajiedjiaa.AL
open Go Go.RowKit Go.Proofs

/-- Sample x is of the time 'from', and ahead of 'to'. -/
def cutB (a b : Int) (x : Sample) : Bool := decide (a ≤ x.T) && decide (x.T < b)
def cutS (xs : List Sample) (a b : Int) : List Sample := xs.filter (cutB a b)
theorem cutS_succ {xs : List Sample} {a b : Int} {k : Nat} (hk : k < xs.length) : cutS (xs.take (k + 1)) a b = cutS (xs.take k) a b ++ (if cutB a b xs[k] then [xs[k]] else []) := by
  unfold cutS
  rw [List.take_add_one, List.getElem?_eq_getElem hk, List.filter_append]
  simp [List.filter_cons]
theorem cutS_keep {xs : List Sample} {a b : Int} {k : Nat} (hk : k < xs.length) (h1 : a ≤ xs[k].T) (h2 : xs[k].T < b) : cutS (xs.take (k + 1)) a b = cutS (xs.take k) a b ++ [xs[k]] := by
  rw [cutS_succ hk, if_pos (by simp [cutB, h1, h2])]
theorem cutS_drop {xs : List Sample} {a b : Int} {k : Nat} (hk : k < xs.length) (h : ¬ (a ≤ xs[k].T ∧ xs[k].T < b)) : cutS (xs.take (k + 1)) a b = cutS (xs.take k) a b := by
  rw [cutS_succ hk, if_neg (by simp only [cutB, Bool.and_eq_true, decide_eq_true_eq]; exact h), List.append_nil]
theorem cutS_len (xs : List Sample) (a b : Int) : (cutS xs a b).length ≤ xs.length := List.length_filter_le _ _
theorem cutS_take_len (xs : List Sample) (a b : Int) (k : Nat) : (cutS (xs.take k) a b).length ≤ k := Nat.le_trans (cutS_len _ _ _) (by simp; omega)

/-- Values are ok. -/
def ValOk (xs : List Sample) : Prop := ∀ x ∈ xs, 0 ≤ x.V ∧ x.V ≤ 2147483647
theorem SamOk.val {xs : List Sample} (h : SamOk xs) : ValOk xs := by
  intro x hx
  obtain ⟨i, hi, rfl⟩ := List.getElem_of_mem hx
  obtain ⟨_, _, _, h1, h2, _⟩ := h i hi
  exact ⟨h1, h2⟩
theorem ValOk.cut {xs : List Sample} (h : ValOk xs) (a b : Int) : ValOk (cutS xs a b) := fun x hx => h x (List.mem_filter.1 hx).1
theorem ValOk.at {xs : List Sample} (h : ValOk xs) (k : Nat) (hk : k < xs.length) : 0 ≤ xs[k].V ∧ xs[k].V ≤ 2147483647 := h _ (List.getElem_mem hk)

/-- What a sample adds. -/
def winAdd (w : Win) (x : Sample) : Win := ⟨w.From, w.Count + 1, w.Sum + x.V, min w.Low x.V, max w.High x.V, x.V⟩
def winTo (a : Int) (xs : List Sample) (k : Nat) : Win := (xs.take k).foldl winAdd ⟨a, 0, 0, (xs.headD ⟨0, 0⟩).V, (xs.headD ⟨0, 0⟩).V, 0⟩
def winF (a : Int) (xs : List Sample) : Win := winTo a xs xs.length
theorem winTo_zero {a : Int} {xs : List Sample} (h : 0 < xs.length) : winTo a xs 0 = ⟨a, 0, 0, xs[0].V, xs[0].V, 0⟩ := by
  cases xs with
  | nil => simp at h
  | cons x xs => rfl
theorem winTo_succ {a : Int} {xs : List Sample} {k : Nat} (hk : k < xs.length) : winTo a xs (k + 1) = winAdd (winTo a xs k) xs[k] := by
  unfold winTo
  rw [List.take_add_one, List.getElem?_eq_getElem hk, List.foldl_append]
  rfl
/-- The bounds of a while as it comes about. -/
structure WinB (a : Int) (k : Nat) (w : Win) : Prop where
  fr : w.From = a
  ct : w.Count = k
  s0 : 0 ≤ w.Sum
  s1 : w.Sum ≤ k * 2147483647
  l0 : 0 ≤ w.Low
  l1 : w.Low ≤ 2147483647
  h0 : 0 ≤ w.High
  h1 : w.High ≤ 2147483647
theorem winTo_bd {a : Int} {xs : List Sample} (h : ValOk xs) (h0 : 0 < xs.length) : ∀ k, k ≤ xs.length → WinB a k (winTo a xs k)
  | 0, _ => by
    have hv := h.at 0 h0
    rw [winTo_zero h0]
    exact ⟨rfl, rfl, by simp, by simp, hv.1, hv.2, hv.1, hv.2⟩
  | k + 1, hk => by
    have ih := winTo_bd (a := a) h h0 k (by omega)
    have hv := h.at k (by omega)
    rw [winTo_succ (by omega)]
    obtain ⟨i1, i2, i3, i4, i5, i6, i7, i8⟩ := ih
    refine ⟨i1, by simp [winAdd, i2], ?_, ?_, ?_, ?_, ?_, ?_⟩ <;> simp only [winAdd] <;> omega

/-- One while behind the other. -/
def winsGo (xs : List Sample) (b step : Int) : Nat → Int → List Win
  | 0, _ => []
  | n + 1, a => if a < b then (if cutS xs a (min (a + step) b) = [] then [] else [winF a (cutS xs a (min (a + step) b))]) ++ winsGo xs b step n (a + step) else []
theorem winsGo_end (xs : List Sample) {b step a : Int} (n : Nat) (h : ¬ a < b) : winsGo xs b step n a = [] := by
  cases n with
  | zero => rfl
  | succ n => simp [winsGo, h]
theorem winsGo_none {xs : List Sample} {b step a : Int} (n : Nat) (h : a < b) {c : List Sample} (hc : cutS xs a (min (a + step) b) = c) (h0 : c.length = 0) : winsGo xs b step (n + 1) a = winsGo xs b step n (a + step) := by
  have : c = [] := List.eq_nil_of_length_eq_zero h0
  rw [winsGo, if_pos h, hc, if_pos this, List.nil_append]
theorem winsGo_some {xs : List Sample} {b step a : Int} (n : Nat) (h : a < b) {c : List Sample} (hc : cutS xs a (min (a + step) b) = c) (h0 : 0 < c.length) : winsGo xs b step (n + 1) a = winF a c :: winsGo xs b step n (a + step) := by
  have : c ≠ [] := by intro e; rw [e] at h0; simp at h0
  rw [winsGo, if_pos h, hc, if_neg this]; rfl
theorem winsGo_len (xs : List Sample) (b step : Int) : ∀ n a, (winsGo xs b step n a).length ≤ n
  | 0, _ => Nat.le_refl _
  | n + 1, a => by
    have ih := winsGo_len xs b step n (a + step)
    unfold winsGo
    split
    · split
      · simp; omega
      · simp; omega
    · simp
/-- Times and a step that may be. -/
def WinsOk (xs : List Sample) (a b step : Int) : Prop := SamOk xs ∧ (0 ≤ a ∧ a ≤ 9999 ∧ a ≤ b ∧ b ≤ 10000) ∧ 1 ≤ step ∧ step ≤ 9999
open Classical in
noncomputable def winsL (xs : List Sample) (a b step : Int) : List Win := if WinsOk xs a b step then winsGo xs b step 10000 a else []
theorem winsL_ok {xs : List Sample} {a b step : Int} (h : WinsOk xs a b step) : winsL xs a b step = winsGo xs b step 10000 a := by rw [winsL, if_pos h]
theorem winsL_no {xs : List Sample} {a b step : Int} (h : ¬ WinsOk xs a b step) : winsL xs a b step = [] := by rw [winsL, if_neg h]
theorem winsL_len (xs : List Sample) (a b step : Int) : (winsL xs a b step).length ≤ 10000 := by
  unfold winsL
  split
  · exact winsGo_len _ _ _ _ _
  · simp
end Go.Proofs.Ytnchefajiedjiaa.AL
