/-
  What whiles come to together. No program in sight.
-/
import Derived.Test.YtnchefajiedjiaaWinPlain
import Derived.Test.YtnchefajiedjiaaPartsPlain
namespace Go.Proofs.Ytnchefajiedjiaa.AL
open Go Go.RowKit Go.Proofs

theorem wj_add (u w : Win) (x : Sample) : wj u (winAdd w x) = winAdd (wj u w) x := by
  simp only [wj, winAdd, Win.eq_iff]
  refine ⟨trivial, by omega, by omega, by omega, by omega, trivial⟩
theorem fold_wj (u : Win) : ∀ (c : List Sample) (w : Win), c.foldl winAdd (wj u w) = wj u (c.foldl winAdd w)
  | [], _ => rfl
  | x :: c, w => by simp only [List.foldl_cons]; rw [← wj_add, fold_wj u c]
theorem winF_eq (a : Int) (xs : List Sample) : winF a xs = xs.foldl winAdd ⟨a, 0, 0, (xs.headD ⟨0, 0⟩).V, (xs.headD ⟨0, 0⟩).V, 0⟩ := by
  unfold winF winTo; rw [List.take_length]
theorem winF_append {a b : Int} {c d : List Sample} (hc : c ≠ []) (hd : d ≠ []) : wj (winF a c) (winF b d) = winF a (c ++ d) := by
  obtain ⟨x, c, rfl⟩ := List.exists_cons_of_ne_nil hc
  obtain ⟨y, d, rfl⟩ := List.exists_cons_of_ne_nil hd
  rw [winF_eq a (x :: c ++ y :: d), List.foldl_append, winF_eq b]
  have e : ((x :: c ++ y :: d).headD ⟨0, 0⟩) = ((x :: c).headD ⟨0, 0⟩) := rfl
  rw [e, ← winF_eq a]
  simp only [List.foldl_cons]
  rw [← fold_wj]
  congr 1
  simp only [wj, winAdd, List.headD_cons, Win.eq_iff]
  refine ⟨trivial, by omega, by omega, by omega, by omega, trivial⟩
/-- What a while of samples holds. -/
theorem winTo_in {a : Int} {xs : List Sample} (h0 : 0 < xs.length) : ∀ (k : Nat) (hk : k < xs.length), (winTo a xs (k + 1)).Last = xs[k].V ∧ (winTo a xs (k + 1)).Low ≤ xs[k].V ∧ xs[k].V ≤ (winTo a xs (k + 1)).High ∧
    (winTo a xs (k + 1)).Low * ((k : Int) + 1) ≤ (winTo a xs (k + 1)).Sum ∧ (winTo a xs (k + 1)).Sum ≤ (winTo a xs (k + 1)).High * ((k : Int) + 1)
  | 0, hk => by
    rw [winTo_succ hk, winTo_zero h0]
    simp [winAdd]
  | k + 1, hk => by
    have ih := winTo_in (a := a) h0 k (by omega)
    rw [winTo_succ hk]
    generalize winTo a xs (k + 1) = w at ih
    obtain ⟨_, _, _, h4, h5⟩ := ih
    refine ⟨rfl, by simp only [winAdd]; omega, by simp only [winAdd]; omega, ?_, ?_⟩
    · simp only [winAdd]
      have m1 : min w.Low xs[k + 1].V * ((k : Int) + 1) ≤ w.Low * ((k : Int) + 1) := Int.mul_le_mul_of_nonneg_right (by omega) (by omega)
      push_cast
      rw [Int.mul_add]
      omega
    · simp only [winAdd]
      have m1 : w.High * ((k : Int) + 1) ≤ max w.High xs[k + 1].V * ((k : Int) + 1) := Int.mul_le_mul_of_nonneg_right (by omega) (by omega)
      push_cast
      rw [Int.mul_add]
      omega
theorem winF_ws {a : Int} {xs : List Sample} (hv : ValOk xs) (h0 : xs ≠ []) (ha : 0 ≤ a ∧ a ≤ 9999) : WS (winF a xs) ∧ (winF a xs).Count = xs.length ∧ (winF a xs).From = a ∧ (winF a xs).Last = (xs.getLast h0).V := by
  have hp : 0 < xs.length := List.length_pos_iff.2 h0
  obtain ⟨q0, q1, q2, q3, q4, q5, q6, q7⟩ := winTo_bd (a := a) hv hp xs.length (Nat.le_refl _)
  obtain ⟨n, hn⟩ : ∃ n, xs.length = n + 1 := ⟨xs.length - 1, by omega⟩
  have hi := winTo_in (a := a) hp n (by omega)
  rw [← hn] at hi
  obtain ⟨i1, i2, i3, i4, i5⟩ := hi
  have hl : (xs.getLast h0) = xs[n]'(by omega) := by rw [List.getLast_eq_getElem]; congr 1; omega
  have hcast : ((n : Int) + 1) = (xs.length : Int) := by omega
  rw [hcast] at i4 i5
  refine ⟨⟨?_, ?_, ?_, ?_, ?_, ?_, ?_, ?_, ?_⟩, q1, q0, by rw [hl]; exact i1⟩ <;> show _ ≤ _ <;> unfold winF
  · omega
  · omega
  · omega
  · exact q4
  · rw [i1]; exact i2
  · rw [i1]; exact i3
  · exact q7
  · rw [q1]; exact i4
  · rw [q1]; exact i5

/-- Cut in two. -/
theorem filter_split {p q r : Sample → Bool} : ∀ {xs : List Sample}, xs.Pairwise (fun x y => x.T < y.T) → (∀ x, r x = (p x || q x)) → (∀ x, ¬ (p x = true ∧ q x = true)) → (∀ x y, q x = true → p y = true → ¬ x.T < y.T) →
    xs.filter r = xs.filter p ++ xs.filter q
  | [], _, _, _, _ => rfl
  | x :: xs, hs, h1, h2, h3 => by
    obtain ⟨hx, hs⟩ := List.pairwise_cons.1 hs
    have ih := filter_split hs h1 h2 h3
    simp only [List.filter_cons, h1 x]
    by_cases hp : p x = true
    · have hq : q x = false := by have := h2 x; simp [hp] at this; exact this
      simp [hp, hq, ih]
    · have hp' : p x = false := by simpa using hp
      by_cases hq : q x = true
      · have hn : xs.filter p = [] := by
          rw [List.filter_eq_nil_iff]
          intro y hy hpy
          exact h3 x y hq hpy (hx y hy)
        simp [hp', hq, ih, hn]
      · have hq' : q x = false := by simpa using hq
        simp [hp', hq', ih]
theorem samOk_sorted {xs : List Sample} (h : SamOk xs) : xs.Pairwise (fun x y => x.T < y.T) := by
  rw [List.pairwise_iff_getElem]
  intro i j hi hj hij
  obtain ⟨d, rfl⟩ : ∃ d, j = i + 1 + d := ⟨j - i - 1, by omega⟩
  clear hij
  induction d with
  | zero => obtain ⟨_, _, _, _, _, h1⟩ := h (i + 1) hj; exact h1 (by omega)
  | succ d ih =>
    have h2 := ih (by omega)
    obtain ⟨_, _, _, _, _, h1⟩ := h (i + 1 + (d + 1)) hj
    have h3 := h1 (by omega)
    have e : (xs[i + 1 + (d + 1) - 1]'(by omega)) = xs[i + 1 + d]'(by omega) := rfl
    rw [e] at h3
    omega
theorem cutS_split {xs : List Sample} (h : SamOk xs) {a m b : Int} (h1 : a ≤ m) (h2 : m ≤ b) : cutS xs a b = cutS xs a m ++ cutS xs m b := by
  refine filter_split (samOk_sorted h) (fun x => ?_) (fun x => ?_) (fun x y hx hy => ?_)
  · simp only [cutB]
    by_cases c1 : a ≤ x.T <;> by_cases c2 : x.T < b <;> by_cases c3 : x.T < m <;> by_cases c4 : m ≤ x.T <;> simp [c1, c2, c3, c4] <;> omega
  · simp only [cutB, Bool.and_eq_true, decide_eq_true_eq]; omega
  · simp only [cutB, Bool.and_eq_true, decide_eq_true_eq] at hx hy; omega
theorem cutS_none {xs : List Sample} {a b : Int} (h : b ≤ a) : cutS xs a b = [] := by
  unfold cutS
  rw [List.filter_eq_nil_iff]
  intro x _
  simp only [cutB, Bool.and_eq_true, decide_eq_true_eq]; omega

/-- A list of whiles that hold the samples c, from time a on. -/
inductive WinsAre (b : Int) : Int → List Win → List Sample → Prop
  | nil {a : Int} : WinsAre b a [] []
  | skip {a a' : Int} {ws : List Win} {c : List Sample} (h : a ≤ a') (t : WinsAre b a' ws c) : WinsAre b a ws c
  | cons {a a' : Int} {ws : List Win} {c d : List Sample} (h : a < a') (hb : a < b) (hc : c ≠ []) (hv : ValOk c) (t : WinsAre b a' ws d) : WinsAre b a (winF a c :: ws) (c ++ d)
theorem winsGo_are {xs : List Sample} (hx : SamOk xs) {b step : Int} (hs : 1 ≤ step) : ∀ (n : Nat) (a : Int), b ≤ a + n → WinsAre b a (winsGo xs b step n a) (cutS xs a b)
  | 0, a, h => by rw [cutS_none (xs := xs) (a := a) (b := b) (by simpa using h)]; exact .nil
  | n + 1, a, h => by
    unfold winsGo
    by_cases hab : a < b
    · rw [if_pos hab]
      have ih := winsGo_are hx (b := b) (step := step) hs n (a + step) (by push_cast at h; omega)
      have e : cutS xs a b = cutS xs a (min (a + step) b) ++ cutS xs (a + step) b := by
        by_cases hm : a + step ≤ b
        · rw [show min (a + step) b = a + step by omega]; exact cutS_split hx (by omega) hm
        · rw [show min (a + step) b = b by omega, cutS_none (xs := xs) (a := a + step) (b := b) (by omega), List.append_nil]
      rw [e]
      by_cases hc : cutS xs a (min (a + step) b) = []
      · rw [if_pos hc, hc, List.nil_append, List.nil_append]; exact .skip (a' := a + step) (by omega) ih
      · rw [if_neg hc]; exact .cons (a' := a + step) (by omega) hab hc (hx.val.cut _ _) ih
    · rw [if_neg hab, cutS_none (xs := xs) (a := a) (b := b) (by omega)]; exact .nil

/-- How many, and all together. -/
def countS (ws : List Win) : Int := (ws.map (·.Count)).sum
def sumS (ws : List Win) : Int := (ws.map (·.Sum)).sum
def sumV (xs : List Sample) : Int := (xs.map (·.V)).sum
theorem fold_sum (c : List Sample) : ∀ w : Win, (c.foldl winAdd w).Sum = w.Sum + sumV c := by
  induction c with
  | nil => intro w; simp [sumV]
  | cons x c ih => intro w; rw [List.foldl_cons, ih]; simp [winAdd, sumV]; omega
theorem winF_sum (a : Int) (c : List Sample) : (winF a c).Sum = sumV c := by rw [winF_eq, fold_sum]; simp
theorem are_sums {b a : Int} {ws : List Win} {c : List Sample} (h : WinsAre b a ws c) (h0 : 0 ≤ a) (hb : b ≤ 10000) : countS ws = c.length ∧ sumS ws = sumV c := by
  induction h with
  | nil => simp [countS, sumS, sumV]
  | skip h _ ih => exact ih (by omega)
  | cons h hb' hc hv t ih =>
    obtain ⟨i1, i2⟩ := ih (by omega)
    obtain ⟨_, q1, _, _⟩ := winF_ws hv hc ⟨h0, by omega⟩
    constructor
    · simp only [countS, List.map_cons, List.sum_cons, List.length_append] at i1 ⊢; rw [i1, q1]; push_cast; rfl
    · simp only [sumS, sumV, List.map_cons, List.sum_cons, List.map_append, List.sum_append] at i2 ⊢; rw [i2, winF_sum]; rfl
theorem are_ok {b a : Int} {ws : List Win} {c : List Sample} (h : WinsAre b a ws c) (h0 : 0 ≤ a) (hb : b ≤ 10000) (hl : c.length ≤ 10000) : (∀ w ∈ ws, WinOk w ∧ a ≤ w.From) ∧ ws.Pairwise (fun x y => x.From < y.From) := by
  induction h with
  | nil => simp
  | skip h _ ih =>
    obtain ⟨i1, i2⟩ := ih (by omega) hl
    exact ⟨fun w hw => ⟨(i1 w hw).1, by have := (i1 w hw).2; omega⟩, i2⟩
  | cons h hb' hc hv t ih =>
    simp only [List.length_append] at hl
    obtain ⟨i1, i2⟩ := ih (by omega) (by omega)
    obtain ⟨q0, q1, q2, _⟩ := winF_ws hv hc ⟨h0, by omega⟩
    refine ⟨fun w hw => ?_, List.pairwise_cons.2 ⟨fun w hw => ?_, i2⟩⟩
    · rcases List.mem_cons.1 hw with rfl | hw
      · exact ⟨q0.ok (by omega), by omega⟩
      · exact ⟨(i1 w hw).1, by have := (i1 w hw).2; omega⟩
    · have := (i1 w hw).2; omega
theorem wjok_of {ws : List Win} (h1 : ∀ w ∈ ws, WinOk w) (h2 : ws.Pairwise (fun x y => x.From < y.From)) : WJOk ws := by
  intro k hk
  refine ⟨hk, h1 _ (List.getElem_mem hk), fun h0 => ?_⟩
  exact List.pairwise_iff_getElem.1 h2 (k - 1) k (by omega) hk (by omega)
/-- All whiles together. -/
theorem wfold_cons (w : Win) (ws : List Win) : ∀ k, wfold (w :: ws) (k + 1) = wj w (wfold ws k)
  | 0 => by simp [wfold]
  | k + 1 => by
    show wj (wfold (w :: ws) (k + 1)) _ = wj w (wj (wfold ws k) _)
    rw [wfold_cons w ws k, wj_assoc]; rfl
theorem are_fold {b a : Int} {ws : List Win} {c : List Sample} (h : WinsAre b a ws c) (h0 : 0 < ws.length) : c ≠ [] ∧ wfold ws (ws.length - 1) = winF (ws[0]'h0).From c := by
  induction h with
  | nil => simp at h0
  | skip _ _ ih => exact ih h0
  | @cons a a' ws c d h hb' hc hv t ih =>
    refine ⟨by simp [hc], ?_⟩
    have hf : (winF a c).From = a := by
      have := winTo_bd (a := a) hv (List.length_pos_iff.2 hc) _ (Nat.le_refl _)
      exact this.fr
    simp only [List.length_cons, Nat.add_sub_cancel, List.getElem_cons_zero, hf]
    by_cases hw : 0 < ws.length
    · obtain ⟨i1, i2⟩ := ih hw
      obtain ⟨n, hn⟩ : ∃ n, ws.length = n + 1 := ⟨ws.length - 1, by omega⟩
      rw [hn] at i2 ⊢
      rw [wfold_cons, show n = n + 1 - 1 from rfl, i2, winF_append hc i1]
    · have hws : ws = [] := List.eq_nil_of_length_eq_zero (by omega)
      subst hws
      have hd : d = [] := by
        generalize hx : ([] : List Win) = x at t
        clear ih hw h0 h hf
        induction t with
        | nil => rfl
        | skip _ _ ih => exact ih hx
        | cons => simp at hx
      subst hd
      simp [wfold]
end Go.Proofs.Ytnchefajiedjiaa.AL
