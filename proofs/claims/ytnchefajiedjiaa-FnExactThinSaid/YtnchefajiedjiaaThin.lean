/-
  Samples made less: the last of each step, the program's way and the reference's.
-/
import Derived.Test.YtnchefajiedjiaaRises
namespace Go.Proofs.Ytnchefajiedjiaa.AL
open Go Go.RowKit Go.Proofs
open Ty (KF)

def dS : Sample := ⟨0, 0⟩
def keepT (xs : List Sample) (step : Int) (k : Nat) : Bool := decide (k + 1 = xs.length) || decide ((xs.getD (k + 1) dS).T / step ≠ (xs.getD k dS).T / step)
def thinTo (xs : List Sample) (step : Int) : Nat → List Sample
  | 0 => []
  | k + 1 => thinTo xs step k ++ if keepT xs step k then [xs.getD k dS] else []
def stepB (step : Int) : Bool := decide (1 ≤ step) && decide (step ≤ 9999)
noncomputable def thinL (xs : List Sample) (step : Int) : List Sample := if samOk xs && stepB step then thinTo xs step xs.length else []
theorem thinTo_len (xs : List Sample) (step : Int) (k : Nat) : (thinTo xs step k).length ≤ k := by
  induction k with
  | zero => simp [thinTo]
  | succ k ih => simp only [thinTo, List.length_append]; split <;> simp <;> omega
theorem thinTo_keep {xs : List Sample} {step : Int} {k : Nat} (hk : k < xs.length) (h : keepT xs step k = true) : thinTo xs step (k + 1) = thinTo xs step k ++ [xs[k]] := by
  simp only [thinTo, h, if_true, List.getD, List.getElem?_eq_getElem hk, Option.getD_some]
theorem thinTo_drop {xs : List Sample} {step : Int} {k : Nat} (h : keepT xs step k = false) : thinTo xs step (k + 1) = thinTo xs step k := by
  simp [thinTo, h]

theorem stepOk_calls (a : Int) (w : World) :
    Calls Try.prog 45 #[.int .i64 a] w fun e w' => e = .returned (.bool (stepB a)) ∧ w' = w := by
  have HS := Lib.hid (show stepB a = (decide (1 ≤ a) && decide (a ≤ 9999)) from rfl)
  go_enter Try.func45, Try.ntmps45
  go_wp2
  all_goals (go_ret; exact ⟨by rw [HS.out]; simp [*] <;> omega, rfl⟩)

theorem specThin_calls {A : Option Addr} {c : Nat} {xs : List Sample} {F : Foot} (step : Int) (w : World) (h : KS w A xs F) (hm : xs.length ≤ c) (hc : c ≤ maxLen) :
    Calls Try.prog 17 #[.slice A xs.length c, .int .i64 step] w fun e w' => ∃ v, e = .returned v ∧ Own w' w.heap.size 36 v (thinL xs step) [] ∧ Below w.heap.size w w' := by
  have hc' := hc
  unfold maxLen at hc'
  have H := Lib.hid h
  obtain ⟨ii, hi, hz0, hz1, hz2⟩ := info_parts info_Sample
  by_cases hok : SamOk xs ∧ 1 ≤ step ∧ step ≤ 9999
  · obtain ⟨hok, hs1, hs2⟩ := hok
    have et : samOk xs = true := samOk_true hok
    have es : (decide (1 ≤ step) && decide (step ≤ 9999)) = true := by simp [hs1, hs2]
    have HR := Lib.hid (show thinL xs step = thinTo xs step xs.length by simp [thinL, et, stepB, hs1, hs2])
    have hlen := samOk_len hok
    have HK := Lib.hid hok; clear hok
    have hE := Own.empty (α := Sample) w 36 (Nat.le_refl _)
    have HE := Lib.hid hE; clear hE
    go_enter Try.func17, Try.ntmps17
    go_wp2_with (first | (go_at_call 40; refine (l2Ok_calls _ (kf_ks_alloc H.out _) hm hc).mono ?_; rintro e w1 ⟨rfl, hq1⟩) | (go_at_call 44; refine (l1In_calls _ _ _ _).mono ?_; rintro e w2 ⟨rfl, rfl⟩))
    go_loopw [5, 6] (fun v i wr => ∃ k : Nat, k ≤ xs.length ∧ i = .int .i64 k ∧ Own wr w.heap.size 36 v (thinTo xs step k) [] ∧ Below w.heap.size w wr) (fun _ i _ => xs.length - (intOf i).toNat)
    case atStart => exact ⟨0, Nat.zero_le _, rfl, HE.out.below (hq1.below _), ((Below.refl _ _).alloc (Nat.le_refl _) _).trans (hq1.below _)⟩
    case round =>
      clear HE
      obtain ⟨k, hk, rfl, ho, hb⟩ := hrel
      have HO := Lib.hid ho; clear ho
      by_cases hlt : k < xs.length
      · obtain ⟨b, o, rfl, hb1, _, hT, hV⟩ := ks_Sample (H.out.below hb) k hlt
        obtain ⟨_, d1, d2, _⟩ := HK.out k hlt
        by_cases hlast : k + 1 = xs.length
        · have hkeep : keepT xs step k = true := by simp [keepT, hlast]
          have HKT := Lib.hid (thinTo_keep hlt hkeep); clear hkeep
          have el : (((k : Int) + 1) == (xs.length : Int)) = true := by simp; omega
          have HLast := Lib.hid hlast; clear hlast
          go_wp2_with fail
          go_quiet (fail)
          go_wp2_with (at_builtin; refine wpList_push rfl _ _ 25 rfl 36 ii (.agg #[.int .i64 0, .int .i64 0]) 16 Try.underlying25 hi hz0 hz1 hz2 rfl (W := wr.drewN nq) (HO.out.below ((Q.drewN wr nq).below _)) rfl (kf_Sample_mk _ xs[k]) rfl (by simp) (by simp) (by have := thinTo_len xs step k; omega) (by omega) hb.size ?_)
          intro v' w' ho' hg' hv'
          have hb' := (hb.trans ((Q.drewN wr nq).below _)).grown hg' hb.size (fun j hj => (HO.out.ownLt j hj).1)
          clear hg' hv' hb
          have HO' := Lib.hid ho'; clear ho'
          go_wp2
          go_roundw
          case rel => exact ⟨k + 1, hlt, by go_num, by rw [HKT.out]; simpa using HO'.out, hb'⟩
          case measure => simp [intOf]; omega
        · have el : (((k : Int) + 1) == (xs.length : Int)) = false := by simp; omega
          obtain ⟨_, _, hbo, _, _, hT', _⟩ := ks_Sample (H.out.below hb) (k + 1) (by omega)
          cases hbo
          obtain ⟨_, d3, d4, _⟩ := HK.out (k + 1) (by omega)
          have hkd : keepT xs step k = decide (xs[k + 1].T / step ≠ xs[k].T / step) := by
            simp [keepT, hlast, List.getD, List.getElem?_eq_getElem hlt, List.getElem?_eq_getElem (show k + 1 < xs.length by omega)]
          by_cases hq : xs[k + 1].T / step = xs[k].T / step
          · have en : (xs[k + 1].T / step != xs[k].T / step) = false := by simp [hq]
            have HKT := Lib.hid (thinTo_drop (show keepT xs step k = false by rw [hkd]; simp [hq]))
            clear hkd hq
            go_wp2_with fail
            go_quiet (fail)
            go_wp2
            go_roundw
            case rel => exact ⟨k + 1, hlt, by go_num, by rw [HKT.out]; exact HO.out.below ((Q.drewN wr nq).below _), hb.trans ((Q.drewN wr nq).below _)⟩
            case measure => simp [intOf]; omega
          · have en : (xs[k + 1].T / step != xs[k].T / step) = true := by simp [hq]
            have HKT := Lib.hid (thinTo_keep hlt (show keepT xs step k = true by rw [hkd]; simp [hq]))
            clear hkd hq
            go_wp2_with fail
            go_quiet (fail)
            go_wp2_with (at_builtin; refine wpList_push rfl _ _ 25 rfl 36 ii (.agg #[.int .i64 0, .int .i64 0]) 16 Try.underlying25 hi hz0 hz1 hz2 rfl (W := wr.drewN nq) (HO.out.below ((Q.drewN wr nq).below _)) rfl (kf_Sample_mk _ xs[k]) rfl (by simp) (by simp) (by have := thinTo_len xs step k; omega) (by omega) hb.size ?_)
            intro v' w' ho' hg' hv'
            have hb' := (hb.trans ((Q.drewN wr nq).below _)).grown hg' hb.size (fun j hj => (HO.out.ownLt j hj).1)
            clear hg' hv' hb
            have HO' := Lib.hid ho'; clear ho'
            go_wp2
            go_roundw
            case rel => exact ⟨k + 1, hlt, by go_num, by rw [HKT.out]; simpa using HO'.out, hb'⟩
            case measure => simp [intOf]; omega
      · obtain rfl : k = xs.length := by omega
        go_wp2
        go_ret
        exact ⟨_, rfl, by rw [HR.out]; exact HO.out, hb⟩
  · have HR := Lib.hid (show thinL xs step = [] by
      simp only [thinL]
      rw [if_neg]
      simp only [Bool.and_eq_true, decide_eq_true_eq, samOk, stepB]
      exact hok)
    by_cases hs : SamOk xs
    · have et : samOk xs = true := samOk_true hs
      have es : (decide (1 ≤ step) && decide (step ≤ 9999)) = false := by simp; intro h1; exact Int.not_le.1 fun h2 => hok ⟨hs, h1, h2⟩
      have hE := Own.empty (α := Sample) w 36 (Nat.le_refl _)
      have HE := Lib.hid hE; clear hE hs hok
      go_enter Try.func17, Try.ntmps17
      go_wp2_with (first | (go_at_call 40; refine (l2Ok_calls _ (kf_ks_alloc H.out _) hm hc).mono ?_; rintro e w1 ⟨rfl, hq1⟩) | (go_at_call 44; refine (l1In_calls _ _ _ _).mono ?_; rintro e w2 ⟨rfl, rfl⟩))
      go_ret
      exact ⟨_, rfl, by rw [HR.out]; exact HE.out.below (hq1.below _), ((Below.refl _ _).alloc (Nat.le_refl _) _).trans (hq1.below _)⟩
    · have et : samOk xs = false := by simp [samOk, hs]
      have hE := Own.empty (α := Sample) w 36 (Nat.le_refl _)
      have HE := Lib.hid hE; clear hE hs hok
      go_enter Try.func17, Try.ntmps17
      go_wp2_with (first | (go_at_call 40; refine (l2Ok_calls _ (kf_ks_alloc H.out _) hm hc).mono ?_; rintro e w1 ⟨rfl, hq1⟩))
      go_ret
      exact ⟨_, rfl, by rw [HR.out]; exact HE.out.below (hq1.below _), ((Below.refl _ _).alloc (Nat.le_refl _) _).trans (hq1.below _)⟩

set_option maxRecDepth 100000 in
set_option maxHeartbeats 2000000 in
theorem implThin_calls {A : Option Addr} {c : Nat} {xs : List Sample} {F : Foot} (step : Int) (w : World) (h : KS w A xs F) (hm : xs.length ≤ c) (hc : c ≤ maxLen) :
    Calls Try.prog 18 #[.slice A xs.length c, .int .i64 step] w fun e w' => ∃ v, e = .returned v ∧ Own w' w.heap.size 36 v (thinL xs step) [] ∧ Below w.heap.size w w' := by
  have hc' := hc
  unfold maxLen at hc'
  have H := Lib.hid h
  obtain ⟨ii, hi, hz0, hz1, hz2⟩ := info_parts info_Sample
  by_cases hok : SamOk xs ∧ 1 ≤ step ∧ step ≤ 9999
  · obtain ⟨hok, hs1, hs2⟩ := hok
    have et : samOk xs = true := samOk_true hok
    have es : stepB step = true := by simp [stepB, hs1, hs2]
    have HR := Lib.hid (show thinL xs step = thinTo xs step xs.length by simp [thinL, et, stepB, hs1, hs2])
    have hlen := samOk_len hok
    have HK := Lib.hid hok; clear hok
    go_enter Try.func18, Try.ntmps18
    go_wp2_with (first | (go_at_call 42; refine (samplesOk_calls _ H.out hm hc).mono ?_; rintro e w1 ⟨rfl, hb1⟩) | (go_at_call 45; refine (stepOk_calls _ _).mono ?_; rintro e w2 ⟨rfl, rfl⟩))
    go_loopw [5, 18] (fun v i wr => ∃ k : Nat, k ≤ xs.length ∧ i = .int .i64 k ∧ Own wr w.heap.size 36 v (thinTo xs step k) [] ∧ Below w.heap.size w wr) (fun _ i _ => xs.length - (intOf i).toNat)
    case atStart => exact ⟨0, Nat.zero_le _, rfl, Own.nil _ _ _, hb1⟩
    case round =>
      obtain ⟨k, hk, rfl, ho, hb⟩ := hrel
      have HO := Lib.hid ho; clear ho
      have HB : ∀ u n, Hid (Below w.heap.size w ((wr.alloc u).drewN n)) := fun u n => Lib.hid ((hb.alloc hb.size u).trans ((Q.drewN _ n).below _))
      have hbs := hb.size
      by_cases hlt : k < xs.length
      · obtain ⟨b, o, rfl, hb1, _, hT, hV⟩ := ks_Sample (H.out.below hb) k hlt
        obtain ⟨_, d1, d2, _⟩ := HK.out k hlt
        by_cases hlast : k + 1 = xs.length
        · have hkeep : keepT xs step k = true := by simp [keepT, hlast]
          have HKT := Lib.hid (thinTo_keep hlt hkeep); clear hkeep
          have el : ((k : Int) == (xs.length : Int) - 1) = true := by simp; omega
          have HLast := Lib.hid hlast; clear hlast
          go_wp2_with fail
          go_quiet (fail)
          go_wp2_with (at_builtin; refine wpList_push rfl _ _ 25 rfl 36 ii (.agg #[.int .i64 0, .int .i64 0]) 16 Try.underlying25 hi hz0 hz1 hz2 rfl (W := (wr.alloc (.cells #[.int .i64 xs[k].T, .int .i64 xs[k].V] 36)).drewN nq) ((HO.out.alloc _).below ((Q.drewN _ nq).below _)) rfl (kf_Sample_mk _ xs[k]) rfl (by simp) (by simp) (by have := thinTo_len xs step k; omega) (by omega) (Nat.le_trans hb.size (by simp)) ?_)
          intro v' w' ho' hg' hv'
          have hb' := ((HB _ nq).out).grown hg' (Nat.le_trans hb.size (by simp)) (fun j hj => (HO.out.ownLt j hj).1)
          clear hg' hv' hb
          have HO' := Lib.hid ho'; clear ho'
          go_wp2
          go_roundw
          case rel => exact ⟨k + 1, hlt, by go_num, by rw [HKT.out]; simpa using HO'.out, hb'⟩
          case measure => simp [intOf]; omega
        · have el : ((k : Int) == (xs.length : Int) - 1) = false := by simp; omega
          obtain ⟨_, _, hbo, _, _, hT', _⟩ := ks_Sample (H.out.below hb) (k + 1) (by omega)
          cases hbo
          obtain ⟨_, d3, d4, _⟩ := HK.out (k + 1) (by omega)
          have hkd : keepT xs step k = decide (xs[k + 1].T / step ≠ xs[k].T / step) := by
            simp [keepT, hlast, List.getD, List.getElem?_eq_getElem hlt, List.getElem?_eq_getElem (show k + 1 < xs.length by omega)]
          by_cases hq : xs[k + 1].T / step = xs[k].T / step
          · have en : (xs[k + 1].T / step != xs[k].T / step) = false := by simp [hq]
            have HKT := Lib.hid (thinTo_drop (show keepT xs step k = false by rw [hkd]; simp [hq]))
            clear hkd hq
            go_wp2_with fail
            go_quiet (fail)
            go_wp2
            go_roundw
            case rel => exact ⟨k + 1, hlt, by go_num, by rw [HKT.out]; exact (HO.out.alloc _).below ((Q.drewN _ _).below _), (HB _ _).out⟩
            case measure => simp [intOf]; omega
          · have en : (xs[k + 1].T / step != xs[k].T / step) = true := by simp [hq]
            have HKT := Lib.hid (thinTo_keep hlt (show keepT xs step k = true by rw [hkd]; simp [hq]))
            clear hkd hq
            go_wp2_with fail
            go_quiet (fail)
            go_wp2_with (at_builtin; refine wpList_push rfl _ _ 25 rfl 36 ii (.agg #[.int .i64 0, .int .i64 0]) 16 Try.underlying25 hi hz0 hz1 hz2 rfl (W := (wr.alloc (.cells #[.int .i64 xs[k].T, .int .i64 xs[k].V] 36)).drewN nq) ((HO.out.alloc _).below ((Q.drewN _ nq).below _)) rfl (kf_Sample_mk _ xs[k]) rfl (by simp) (by simp) (by have := thinTo_len xs step k; omega) (by omega) (Nat.le_trans hb.size (by simp)) ?_)
            intro v' w' ho' hg' hv'
            have hb' := ((HB _ nq).out).grown hg' (Nat.le_trans hb.size (by simp)) (fun j hj => (HO.out.ownLt j hj).1)
            clear hg' hv' hb
            have HO' := Lib.hid ho'; clear ho'
            go_wp2
            go_roundw
            case rel => exact ⟨k + 1, hlt, by go_num, by rw [HKT.out]; simpa using HO'.out, hb'⟩
            case measure => simp [intOf]; omega
      · obtain rfl : k = xs.length := by omega
        go_wp2
        go_ret
        exact ⟨_, rfl, by rw [HR.out]; exact HO.out, hb⟩
  · have HR := Lib.hid (show thinL xs step = [] by
      simp only [thinL]
      rw [if_neg]
      simp only [Bool.and_eq_true, decide_eq_true_eq, samOk, stepB]
      exact hok)
    by_cases hs : SamOk xs
    · have et : samOk xs = true := samOk_true hs
      have es : stepB step = false := by simp [stepB]; intro h1; exact Int.not_le.1 fun h2 => hok ⟨hs, h1, h2⟩
      clear hs hok
      go_enter Try.func18, Try.ntmps18
      go_wp2_with (first | (go_at_call 42; refine (samplesOk_calls _ H.out hm hc).mono ?_; rintro e w1 ⟨rfl, hb1⟩) | (go_at_call 45; refine (stepOk_calls _ _).mono ?_; rintro e w2 ⟨rfl, rfl⟩))
      go_ret
      exact ⟨_, rfl, by rw [HR.out]; exact Own.nil _ _ _, hb1⟩
    · have et : samOk xs = false := by simp [samOk, hs]
      clear hs hok
      go_enter Try.func18, Try.ntmps18
      go_wp2_with (first | (go_at_call 42; refine (samplesOk_calls _ H.out hm hc).mono ?_; rintro e w1 ⟨rfl, hb1⟩))
      go_ret
      exact ⟨_, rfl, by rw [HR.out]; exact Own.nil _ _ _, hb1⟩
end Go.Proofs.Ytnchefajiedjiaa.AL
