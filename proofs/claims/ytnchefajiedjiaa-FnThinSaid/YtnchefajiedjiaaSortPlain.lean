/-
  Samples sorted by time, equal ones once. No program in sight.
-/
import Derived.Test.YtnchefajiedjiaaWinsPlain
namespace Go.Proofs.Ytnchefajiedjiaa.AL
open Go Go.RowKit Go.Proofs
set_option linter.unusedVariables false

def zS : Sample := ⟨0, 0⟩
/-- The time at place p. -/
def tt (zs : List Sample) (p : Nat) : Int := (zs.getD p zS).T
theorem tt_get {zs : List Sample} {p : Nat} (h : p < zs.length) : tt zs p = zs[p].T := by simp [tt, List.getD, List.getElem?_eq_getElem h]
def SortTo (zs : List Sample) (k : Nat) : Prop := ∀ p q, p < q → q < k → tt zs p ≤ tt zs q
/-- Sorted up to k, but for what stands at j, which is no later than what stands behind it. -/
def SortEx (zs : List Sample) (j k : Nat) : Prop := (∀ p q, p < q → q ≤ k → p ≠ j → q ≠ j → tt zs p ≤ tt zs q) ∧ ∀ q, j < q → q ≤ k → tt zs j ≤ tt zs q
theorem SortTo.one (zs : List Sample) : SortTo zs 1 := fun p q h1 h2 => by omega
theorem SortTo.ex {zs : List Sample} {k : Nat} (h : SortTo zs k) : SortEx zs k k := ⟨fun p q h1 h2 h3 h4 => h p q h1 (by omega), fun q h1 h2 => by omega⟩
theorem SortEx.to {zs : List Sample} {j k : Nat} (h : SortEx zs j k) (hj : j ≤ k) (he : 0 < j → tt zs (j - 1) ≤ tt zs j) : SortTo zs (k + 1) := by
  intro p q h1 h2
  by_cases c1 : p = j
  · subst c1; exact h.2 q h1 (by omega)
  · by_cases c2 : q = j
    · subst c2
      have e := he (by omega)
      by_cases c3 : p = q - 1
      · subst c3; exact e
      · exact Int.le_trans (h.1 p (q - 1) (by omega) (by omega) c1 (by omega)) e
    · exact h.1 p q h1 (by omega) c1 c2
def swapS (zs : List Sample) (m : Nat) : List Sample := (zs.set (m + 1) (zs.getD m zS)).set m (zs.getD (m + 1) zS)
theorem swapS_eq {zs : List Sample} {m : Nat} (h : m + 1 < zs.length) : swapS zs m = (zs.set (m + 1) zs[m]).set m zs[m + 1] := by
  simp [swapS, List.getD, List.getElem?_eq_getElem h, List.getElem?_eq_getElem (show m < zs.length by omega)]
theorem swapS_len (zs : List Sample) (m : Nat) : (swapS zs m).length = zs.length := by simp [swapS]
theorem swapS_perm {zs : List Sample} {m : Nat} (h : m + 1 < zs.length) : (swapS zs m).Perm zs := by
  rw [swapS_eq h]
  exact List.set_set_perm (by omega) (by omega)
theorem swapS_tt {zs : List Sample} {m : Nat} (h : m + 1 < zs.length) (p : Nat) : tt (swapS zs m) p = if p = m then tt zs (m + 1) else if p = m + 1 then tt zs m else tt zs p := by
  simp only [tt, swapS, List.getD]
  by_cases c1 : p = m
  · subst c1; rw [List.getElem?_set_self (by simp; omega)]; simp
  · rw [List.getElem?_set_ne (by omega), if_neg c1]
    by_cases c2 : p = m + 1
    · subst c2; rw [List.getElem?_set_self (by omega)]; simp
    · rw [List.getElem?_set_ne (by omega), if_neg c2]
theorem SortEx.swap {zs : List Sample} {m k : Nat} (h : SortEx zs (m + 1) k) (hm : m + 1 < zs.length) (hk : m + 1 ≤ k) (hlt : tt zs (m + 1) < tt zs m) : SortEx (swapS zs m) m k := by
  obtain ⟨h1, h2⟩ := h
  constructor
  · intro p q hpq hq hp1 hq1
    rw [swapS_tt hm, swapS_tt hm, if_neg hp1, if_neg hq1]
    by_cases c1 : p = m + 1
    · rw [if_pos c1, if_neg (by omega)]; exact h1 m q (by omega) hq (by omega) (by omega)
    · rw [if_neg c1]
      by_cases c2 : q = m + 1
      · rw [if_pos c2]; exact h1 p m (by omega) (by omega) c1 (by omega)
      · rw [if_neg c2]; exact h1 p q hpq hq c1 c2
  · intro q h3 h4
    rw [swapS_tt hm, swapS_tt hm, if_pos rfl, if_neg (by omega)]
    by_cases c2 : q = m + 1
    · rw [if_pos c2]; omega
    · rw [if_neg c2]; exact h2 q (by omega) h4

/-- Equal ones that stand together, once. -/
def cptTo (zs : List Sample) : Nat → List Sample
  | 0 => []
  | m + 1 => cptTo zs m ++ if m = 0 ∨ zs.getD m zS ≠ zs.getD (m - 1) zS then [zs.getD m zS] else []
theorem cptTo_new {zs : List Sample} {m : Nat} (h : m + 1 < zs.length) (hn : zs[m + 1] ≠ zs[m]) : cptTo zs (m + 2) = cptTo zs (m + 1) ++ [zs[m + 1]] := by
  rw [cptTo, if_pos]
  · simp [List.getD, List.getElem?_eq_getElem h]
  · right; simp [List.getD, List.getElem?_eq_getElem h, List.getElem?_eq_getElem (show m < zs.length by omega), hn]
theorem cptTo_old {zs : List Sample} {m : Nat} (h : m + 1 < zs.length) (hn : zs[m + 1] = zs[m]) : cptTo zs (m + 2) = cptTo zs (m + 1) := by
  rw [cptTo, if_neg, List.append_nil]
  simp [List.getD, List.getElem?_eq_getElem h, List.getElem?_eq_getElem (show m < zs.length by omega), hn]
theorem cptTo_one {zs : List Sample} (h : 0 < zs.length) : cptTo zs 1 = zs.take 1 := by
  simp only [cptTo, true_or, if_true, List.nil_append]
  rw [List.take_add_one]; simp [List.getD, List.getElem?_eq_getElem h]
theorem cptTo_len (zs : List Sample) : ∀ m, (cptTo zs m).length ≤ m
  | 0 => Nat.le_refl _
  | m + 1 => by
    have := cptTo_len zs m
    simp only [cptTo, List.length_append]; split <;> simp <;> omega
structure CptIs (zs : List Sample) (m : Nat) : Prop where
  sorted : (cptTo zs m).Pairwise (fun x y => x.T < y.T)
  mem : ∀ y, y ∈ cptTo zs m ↔ ∃ p, p < m ∧ y = zs.getD p zS
  last : ∀ y ∈ cptTo zs m, 0 < m → y.T ≤ tt zs (m - 1)
theorem cpt_is {zs : List Sample} (hs : SortTo zs zs.length) (hi : ∀ x ∈ zs, ∀ y ∈ zs, x.T = y.T → x = y) : ∀ m, m ≤ zs.length → CptIs zs m
  | 0, _ => ⟨by simp [cptTo], by simp [cptTo], by simp [cptTo]⟩
  | m + 1, hm => by
    obtain ⟨i1, i2, i3⟩ := cpt_is hs hi m (by omega)
    have hin : ∀ p, p < zs.length → zs.getD p zS ∈ zs := fun p hp => by simp [List.getD, List.getElem?_eq_getElem hp]
    by_cases hk : m = 0 ∨ zs.getD m zS ≠ zs.getD (m - 1) zS
    · have e : cptTo zs (m + 1) = cptTo zs m ++ [zs.getD m zS] := by rw [cptTo, if_pos hk]
      have hlt : ∀ y ∈ cptTo zs m, y.T < (zs.getD m zS).T := by
        intro y hy
        by_cases h0 : m = 0
        · subst h0; simp [cptTo] at hy
        · have h1 := i3 y hy (by omega)
          have h2 := hs (m - 1) m (by omega) (by omega)
          have h3 : tt zs (m - 1) ≠ tt zs m := fun h => by
            rcases hk with hk | hk
            · exact h0 hk
            · exact hk (hi _ (hin m (by omega)) _ (hin (m - 1) (by omega)) h.symm)
          have h4 : tt zs m = (zs.getD m zS).T := rfl
          omega
      refine ⟨?_, ?_, ?_⟩
      · rw [e, List.pairwise_append]
        exact ⟨i1, by simp, fun x hx y hy => by rw [List.mem_singleton.1 hy]; exact hlt x hx⟩
      · intro y
        rw [e, List.mem_append, List.mem_singleton, i2]
        constructor
        · rintro (⟨p, hp, rfl⟩ | rfl)
          · exact ⟨p, by omega, rfl⟩
          · exact ⟨m, by omega, rfl⟩
        · rintro ⟨p, hp, rfl⟩
          by_cases c : p = m
          · subst c; exact .inr rfl
          · exact .inl ⟨p, by omega, rfl⟩
      · intro y hy _
        rw [e] at hy
        simp only [Nat.add_sub_cancel]
        rcases List.mem_append.1 hy with hy | hy
        · exact Int.le_of_lt (hlt y hy)
        · rw [List.mem_singleton.1 hy]; exact Int.le_refl _
    · have e : cptTo zs (m + 1) = cptTo zs m := by rw [cptTo, if_neg hk, List.append_nil]
      have h0 : m ≠ 0 := fun h => hk (.inl h)
      have heq : zs.getD m zS = zs.getD (m - 1) zS := Classical.byContradiction fun h => hk (.inr h)
      refine ⟨by rw [e]; exact i1, ?_, ?_⟩
      · intro y
        rw [e, i2]
        constructor
        · rintro ⟨p, hp, rfl⟩; exact ⟨p, by omega, rfl⟩
        · rintro ⟨p, hp, rfl⟩
          by_cases c : p = m
          · subst c; exact ⟨p - 1, by omega, heq⟩
          · exact ⟨p, by omega, rfl⟩
      · intro y hy _
        rw [e] at hy
        have := i3 y hy (by omega)
        simp only [Nat.add_sub_cancel]
        have h4 : tt zs m = tt zs (m - 1) := by simp only [tt, heq]
        omega
theorem sorted_ext : ∀ {xs ys : List Sample}, xs.Pairwise (fun x y => x.T < y.T) → ys.Pairwise (fun x y => x.T < y.T) → (∀ z, z ∈ xs ↔ z ∈ ys) → xs = ys
  | [], [], _, _, _ => rfl
  | [], y :: ys, _, _, h => by have := (h y).2 (by simp); simp at this
  | x :: xs, [], _, _, h => by have := (h x).1 (by simp); simp at this
  | x :: xs, y :: ys, hx, hy, h => by
    obtain ⟨h1, h2⟩ := List.pairwise_cons.1 hx
    obtain ⟨h3, h4⟩ := List.pairwise_cons.1 hy
    have e : x = y := by
      have a1 := (h x).1 (by simp)
      have a2 := (h y).2 (by simp)
      rcases List.mem_cons.1 a1 with a1 | a1
      · exact a1
      · rcases List.mem_cons.1 a2 with a2 | a2
        · exact a2.symm
        · have b1 := h3 x a1; have b2 := h1 y a2; omega
    subst e
    congr 1
    refine sorted_ext h2 h4 fun z => ?_
    constructor
    · intro hz
      rcases List.mem_cons.1 ((h z).1 (List.mem_cons_of_mem _ hz)) with r | r
      · subst r; have := h1 z hz; omega
      · exact r
    · intro hz
      rcases List.mem_cons.1 ((h z).2 (List.mem_cons_of_mem _ hz)) with r | r
      · subst r; have := h3 z hz; omega
      · exact r
/-- Samples joined with some of themselves are the same. -/
theorem cpt_join {xs ys zs : List Sample} (hx : SamOk xs) (hy : ∀ y ∈ ys, y ∈ xs) (hp : zs.Perm (xs ++ ys)) (hs : SortTo zs zs.length) : cptTo zs zs.length = xs := by
  have hmem : ∀ z, z ∈ zs ↔ z ∈ xs := fun z => by
    rw [hp.mem_iff, List.mem_append]
    exact ⟨fun h => h.elim id (hy z), .inl⟩
  have hsx := samOk_sorted hx
  have hinj : ∀ x ∈ xs, ∀ y ∈ xs, x.T = y.T → x = y := by
    intro x h1 y h2 e
    obtain ⟨i, hi, rfl⟩ := List.getElem_of_mem h1
    obtain ⟨j, hj, rfl⟩ := List.getElem_of_mem h2
    rcases Nat.lt_trichotomy i j with c | c | c
    · have := List.pairwise_iff_getElem.1 hsx i j hi hj c; omega
    · subst c; rfl
    · have := List.pairwise_iff_getElem.1 hsx j i hj hi c; omega
  have hc := cpt_is hs (fun x h1 y h2 => hinj x ((hmem x).1 h1) y ((hmem y).1 h2)) zs.length (Nat.le_refl _)
  refine sorted_ext hc.sorted hsx fun z => ?_
  rw [hc.mem, ← hmem]
  constructor
  · rintro ⟨p, hp, rfl⟩; simp [List.getD, List.getElem?_eq_getElem hp]
  · intro hz
    obtain ⟨p, hp, rfl⟩ := List.getElem_of_mem hz
    exact ⟨p, hp, by simp [List.getD, List.getElem?_eq_getElem hp]⟩
end Go.Proofs.Ytnchefajiedjiaa.AL
