/-
  Samples made less: one of each while, the last. No program in sight.
-/
import Derived.Test.YtnchefajiedjiaaSortPlain
import Derived.Test.YtnchefajiedjiaaThin
namespace Go.Proofs.Ytnchefajiedjiaa.AL
open Go Go.RowKit Go.Proofs
set_option linter.unusedVariables false

theorem getD_get {xs : List Sample} {k : Nat} (h : k < xs.length) : xs.getD k dS = xs[k] := by simp [List.getD, List.getElem?_eq_getElem h]
theorem samOk_of {xs : List Sample} (h1 : ∀ x ∈ xs, 0 ≤ x.T ∧ x.T ≤ 9999 ∧ 0 ≤ x.V ∧ x.V ≤ 2147483647) (h2 : xs.Pairwise (fun x y => x.T < y.T)) : SamOk xs := by
  intro k hk
  obtain ⟨a1, a2, a3, a4⟩ := h1 _ (List.getElem_mem hk)
  exact ⟨hk, a1, a2, a3, a4, fun h0 => List.pairwise_iff_getElem.1 h2 (k - 1) k (by omega) hk (by omega)⟩
theorem samOk_mem {xs : List Sample} (h : SamOk xs) : ∀ x ∈ xs, 0 ≤ x.T ∧ x.T ≤ 9999 ∧ 0 ≤ x.V ∧ x.V ≤ 2147483647 := by
  intro x hx
  obtain ⟨i, hi, rfl⟩ := List.getElem_of_mem hx
  obtain ⟨_, h1, h2, h3, h4, _⟩ := h i hi
  exact ⟨h1, h2, h3, h4⟩
theorem quo_mono {xs : List Sample} (h : SamOk xs) {step : Int} (hs : 1 ≤ step) {i j : Nat} (hij : i ≤ j) (hj : j < xs.length) : (xs[i]'(by omega)).T / step ≤ xs[j].T / step := by
  apply Int.ediv_le_ediv (by omega)
  rcases Nat.lt_or_ge i j with c | c
  · exact Int.le_of_lt (List.pairwise_iff_getElem.1 (samOk_sorted h) i j (by omega) hj c)
  · obtain rfl : i = j := by omega
    exact Int.le_refl _
theorem keepT_iff {xs : List Sample} {step : Int} {k : Nat} (h : k + 1 < xs.length) : keepT xs step k = true ↔ xs[k + 1].T / step ≠ (xs[k]'(by omega)).T / step := by
  unfold keepT
  rw [getD_get h, getD_get (show k < xs.length by omega)]
  simp only [Bool.or_eq_true, decide_eq_true_eq]
  exact ⟨fun h' => h'.resolve_left (by omega), .inr⟩
theorem keepT_last {xs : List Sample} {step : Int} {k : Nat} (h : k + 1 = xs.length) : keepT xs step k = true := by simp [keepT, h]
structure ThinIs (xs : List Sample) (step : Int) (k : Nat) : Prop where
  pair : (thinTo xs step k).Pairwise (fun x y => x.T / step < y.T / step)
  mem : ∀ y ∈ thinTo xs step k, ∃ p, ∃ h : p < xs.length, p < k ∧ keepT xs step p = true ∧ y = xs[p]
  next : ∀ y ∈ thinTo xs step k, ∀ h : k < xs.length, y.T / step < xs[k].T / step
theorem thin_is {xs : List Sample} (h : SamOk xs) {step : Int} (hs : 1 ≤ step) : ∀ k, k ≤ xs.length → ThinIs xs step k
  | 0, _ => ⟨by simp [thinTo], by simp [thinTo], by simp [thinTo]⟩
  | k + 1, hk => by
    obtain ⟨i1, i2, i3⟩ := thin_is h hs k (by omega)
    have hkl : k < xs.length := by omega
    by_cases hkp : keepT xs step k = true
    · have e := thinTo_keep hkl hkp
      refine ⟨?_, ?_, ?_⟩
      · rw [e, List.pairwise_append]
        exact ⟨i1, by simp, fun x hx y hy => by rw [List.mem_singleton.1 hy]; exact i3 x hx hkl⟩
      · intro y hy
        rw [e] at hy
        rcases List.mem_append.1 hy with hy | hy
        · obtain ⟨p, hp, h1, h2, h3⟩ := i2 y hy
          exact ⟨p, hp, by omega, h2, h3⟩
        · rw [List.mem_singleton.1 hy]; exact ⟨k, hkl, by omega, hkp, rfl⟩
      · intro y hy hn
        have hm := quo_mono h hs (show k ≤ k + 1 by omega) hn
        have hne := (keepT_iff hn).1 hkp
        rw [e] at hy
        rcases List.mem_append.1 hy with hy | hy
        · have := i3 y hy hkl; omega
        · rw [List.mem_singleton.1 hy]; omega
    · have hkf : keepT xs step k = false := by simpa using hkp
      have e := thinTo_drop hkf
      refine ⟨by rw [e]; exact i1, ?_, ?_⟩
      · intro y hy
        rw [e] at hy
        obtain ⟨p, hp, h1, h2, h3⟩ := i2 y hy
        exact ⟨p, hp, by omega, h2, h3⟩
      · intro y hy hn
        rw [e] at hy
        have hm := quo_mono h hs (show k ≤ k + 1 by omega) hn
        have := i3 y hy hkl
        omega
theorem thin_T {xs : List Sample} {step : Int} (hs : 1 ≤ step) (h : xs.Pairwise (fun x y => x.T / step < y.T / step)) : xs.Pairwise (fun x y => x.T < y.T) :=
  h.imp fun {x y} hxy => Classical.byContradiction fun hn => by
    have := Int.ediv_le_ediv (a := y.T) (b := x.T) (c := step) (by omega) (by omega)
    omega
theorem thinL_ok {xs : List Sample} {step : Int} (h : SamOk xs) (h1 : 1 ≤ step) (h2 : step ≤ 9999) : thinL xs step = thinTo xs step xs.length := by
  have et := samOk_true h
  simp [thinL, et, stepB, h1, h2]
/-- All of them stay. -/
theorem thinTo_all {xs : List Sample} {step : Int} (h : xs.Pairwise (fun x y => x.T / step < y.T / step)) : ∀ k, k ≤ xs.length → thinTo xs step k = xs.take k
  | 0, _ => by simp [thinTo]
  | k + 1, hk => by
    have hkl : k < xs.length := by omega
    have hkp : keepT xs step k = true := by
      by_cases hn : k + 1 < xs.length
      · rw [keepT_iff hn]
        have := List.pairwise_iff_getElem.1 h k (k + 1) hkl hn (by omega)
        omega
      · exact keepT_last (by omega)
    rw [thinTo_keep hkl hkp, thinTo_all h k (by omega), List.take_add_one, List.getElem?_eq_getElem hkl]; rfl
theorem thin_facts {xs ts : List Sample} (h : SamOk xs) {step : Int} (h1 : 1 ≤ step) (h2 : step ≤ 9999) (ht : ts = thinL xs step) :
    SamOk ts ∧ thinL ts step = ts ∧ (∀ y ∈ ts, y ∈ xs) ∧ ts.length ≤ xs.length ∧
    (∀ (h0 : 0 < xs.length), ∃ h3 : 0 < ts.length, ts[ts.length - 1]'(by omega) = xs[xs.length - 1]'(by omega)) := by
  rw [thinL_ok h h1 h2] at ht
  subst ht
  obtain ⟨i1, i2, i3⟩ := thin_is h h1 xs.length (Nat.le_refl _)
  have hm : ∀ y ∈ thinTo xs step xs.length, y ∈ xs := fun y hy => by obtain ⟨p, hp, _, _, rfl⟩ := i2 y hy; exact List.getElem_mem hp
  have hok : SamOk (thinTo xs step xs.length) := samOk_of (fun x hx => samOk_mem h x (hm x hx)) (thin_T h1 i1)
  refine ⟨hok, ?_, hm, thinTo_len _ _ _, fun h0 => ?_⟩
  · rw [thinL_ok hok h1 h2, thinTo_all i1 _ (Nat.le_refl _), List.take_length]
  · obtain ⟨n, hn⟩ : ∃ n, xs.length = n + 1 := ⟨xs.length - 1, by omega⟩
    have e1 : thinTo xs step (n + 1) = thinTo xs step n ++ [xs[n]'(by omega)] := thinTo_keep (by omega) (keepT_last (by omega))
    have e : thinTo xs step xs.length = thinTo xs step n ++ [xs[n]'(by omega)] := (congrArg (thinTo xs step) hn).trans e1
    refine ⟨by rw [e]; simp, ?_⟩
    simp only [e, List.length_append, List.length_singleton, Nat.add_sub_cancel]
    rw [List.getElem_append_right (Nat.le_refl _)]
    simp [hn]
/-- The last of each while. -/
theorem thin_cut {xs : List Sample} (h : SamOk xs) {step : Int} (h1 : 1 ≤ step) (h2 : step ≤ 9999) (y : Sample) (hmem : y ∈ thinL xs step) :
    ∃ h3 : 0 < (cutS xs (y.T / step * step) (y.T / step * step + step)).length,
      (cutS xs (y.T / step * step) (y.T / step * step + step))[(cutS xs (y.T / step * step) (y.T / step * step + step)).length - 1]'(by omega) = y := by
  rw [thinL_ok h h1 h2] at hmem
  obtain ⟨_, i2, _⟩ := thin_is h h1 xs.length (Nat.le_refl _)
  obtain ⟨p, hp, _, hk, rfl⟩ := i2 y hmem
  have hcb : ∀ x : Sample, cutB (xs[p].T / step * step) (xs[p].T / step * step + step) x = decide (x.T / step = xs[p].T / step) := by
    intro x
    have a1 : xs[p].T / step * step ≤ x.T ↔ xs[p].T / step ≤ x.T / step := (Int.le_ediv_iff_mul_le (by omega)).symm
    have a2 : x.T < xs[p].T / step * step + step ↔ x.T / step < xs[p].T / step + 1 := by
      rw [Int.ediv_lt_iff_lt_mul (by omega), Int.add_mul, Int.one_mul]
    simp only [cutB]
    rw [Bool.eq_iff_iff]
    simp only [Bool.and_eq_true, decide_eq_true_eq, a1, a2]
    omega
  have e : cutS xs (xs[p].T / step * step) (xs[p].T / step * step + step) = cutS (xs.take p) (xs[p].T / step * step) (xs[p].T / step * step + step) ++ [xs[p]] := by
    have hx : xs = xs.take p ++ xs[p] :: xs.drop (p + 1) := by rw [List.getElem_cons_drop, List.take_append_drop]
    have hd : (xs.drop (p + 1)).filter (cutB (xs[p].T / step * step) (xs[p].T / step * step + step)) = [] := by
      rw [List.filter_eq_nil_iff]
      intro z hz
      obtain ⟨j, hj, rfl⟩ := List.getElem_of_mem hz
      simp only [List.length_drop] at hj
      rw [List.getElem_drop, hcb]
      simp only [decide_eq_true_eq]
      have hn : p + 1 < xs.length := by omega
      have b1 := (keepT_iff hn).1 hk
      have b2 := quo_mono h h1 (show p ≤ p + 1 by omega) hn
      have b3 := quo_mono h h1 (show p + 1 ≤ p + 1 + j by omega) (by omega)
      omega
    have hc : cutB (xs[p].T / step * step) (xs[p].T / step * step + step) xs[p] = true := by rw [hcb]; simp
    show xs.filter _ = _
    generalize hg : cutB (xs[p].T / step * step) (xs[p].T / step * step + step) = f at *
    conv => lhs; rw [hx]
    rw [List.filter_append, List.filter_cons, if_pos hc, hd]
    show _ = cutS (xs.take p) _ _ ++ _
    unfold cutS
    rw [hg]
  refine ⟨by rw [e]; simp, ?_⟩
  simp only [e, List.length_append, List.length_singleton, Nat.add_sub_cancel]
  rw [List.getElem_append_right (Nat.le_refl _)]
  simp
end Go.Proofs.Ytnchefajiedjiaa.AL
