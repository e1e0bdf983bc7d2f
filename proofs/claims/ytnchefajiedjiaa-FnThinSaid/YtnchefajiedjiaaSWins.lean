/-
  The reference's whiles of samples.
-/
import Derived.Test.YtnchefajiedjiaaSCut
namespace Go.Proofs.Ytnchefajiedjiaa.AL
open Go Go.RowKit Go.Proofs
set_option linter.unusedVariables false

def timesB (a b : Int) : Bool := decide (0 ≤ a ∧ a ≤ 9999 ∧ a ≤ b ∧ b ≤ 10000)
theorem l8Times_calls (a b : Int) (w : World) :
    Calls Try.prog 60 #[.int .i64 a, .int .i64 b] w fun e w' => e = .returned (.bool (timesB a b)) ∧ w' = w := by
  by_cases h1 : 0 ≤ a ∧ a ≤ 9999
  · have e1 : (decide (0 ≤ a) && decide (a ≤ 9999)) = true := by simp [h1]
    go_enter Try.func60, Try.ntmps60
    go_wp2_with ((go_at_call 44; refine (l1In_calls _ _ _ _).mono ?_; rintro e w1 ⟨rfl, rfl⟩))
    go_ret
    refine ⟨ret_bool ?_, rfl⟩
    simp [timesB, h1]
  · have e1 : (decide (0 ≤ a) && decide (a ≤ 9999)) = false := by simp; omega
    go_enter Try.func60, Try.ntmps60
    go_wp2_with ((go_at_call 44; refine (l1In_calls _ _ _ _).mono ?_; rintro e w1 ⟨rfl, rfl⟩))
    go_ret
    refine ⟨ret_bool ?_, rfl⟩
    simp [timesB]
    omega

set_option maxRecDepth 100000 in
set_option maxHeartbeats 4000000 in
theorem specWins_calls {A : Option Addr} {c : Nat} {xs : List Sample} {F : Foot} (a b step : Int) (w : World) (h : KS w A xs F) (hm : xs.length ≤ c) (hc : c ≤ maxLen) :
    Calls Try.prog 32 #[.slice A xs.length c, .int .i64 a, .int .i64 b, .int .i64 step] w fun e w' => ∃ v, e = .returned v ∧ Own w' w.heap.size 41 v (winsL xs a b step) [] ∧ Below w.heap.size w w' := by
  obtain ⟨ii, hi, hz0, hz1, hz2⟩ := info_parts info_Win
  have hc' := hc
  unfold maxLen at hc
  have H := Lib.hid h; clear h
  have hE := Own.empty (α := Win) w 41 (Nat.le_refl _)
  have hb0 : Below w.heap.size w (w.alloc (.cells #[] 41)) := (Below.refl _ _).alloc (Nat.le_refl _) _
  have HE := Lib.hid hE; clear hE
  have P0 := Lib.hid (l2Ok_calls _ (kf_ks_alloc H.out (.cells #[] 41)) hm hc')
  by_cases hok : SamOk xs
  · have et : samOk xs = true := samOk_true hok
    have hlen := samOk_len hok
    have HK := Lib.hid hok; clear hok
    by_cases ht : 0 ≤ a ∧ a ≤ 9999 ∧ a ≤ b ∧ b ≤ 10000
    · have e2 : timesB a b = true := decide_eq_true ht
      by_cases hs : 1 ≤ step ∧ step ≤ 9999
      · have e3 : (decide (1 ≤ step) && decide (step ≤ 9999)) = true := by simp [hs]
        have HR := Lib.hid (winsL_ok (show WinsOk xs a b step from ⟨HK.out, ht, hs⟩))
        go_enter Try.func32, Try.ntmps32
        go_wp2_with (first | (go_at_call 40; refine P0.out.mono ?_; rintro e w1 ⟨rfl, hq1⟩) | (go_at_call 60; refine (l8Times_calls _ _ _).mono ?_; rintro e w2 ⟨rfl, rfl⟩) | (go_at_call 44; refine (l1In_calls _ _ _ _).mono ?_; rintro e w2 ⟨rfl, rfl⟩))
        clear et e2 e3 P0
        rename_i q1
        go_loopw [9, 10, 11, 12] (fun v at_ _ _ wr => ∃ (k : Nat) (ys : List Win) (t : Int), at_ = .int .i64 t ∧ Own wr w.heap.size 41 v ys [] ∧ ys ++ winsGo xs b step (10000 - k) t = winsL xs a b step ∧ k ≤ 10000 ∧ a + k ≤ t ∧ t ≤ 20000 ∧ ys.length ≤ k ∧ Below w.heap.size w wr) (fun _ at_ _ _ _ => (b - intOf at_).toNat)
        case atStart => exact ⟨0, [], a, rfl, HE.out.below (hq1.below _), by rw [HR.out]; rfl, by omega, by omega, by omega, Nat.le_refl _, hb0.trans ((hq1.below _).mono hb0.size)⟩
        case round =>
          obtain ⟨k, ys, at_, rfl, ho, hT, hk, hak, hat, hys, hb⟩ := hrel
          have HO := Lib.hid ho; have HT := Lib.hid hT; clear ho hT
          by_cases hlt : at_ < b
          · by_cases hmn : b < at_ + step
            · have hmin : min (at_ + step) b = b := by omega
              have P1 := Lib.hid (l2Cut_calls at_ (b) wr (H.out.below hb) hm hc' (by omega))
              go_wp2_with fail
              refine P1.out.mono ?_
              rintro e w1 ⟨v1, rfl, o1, b1⟩
              clear P1
              have hcl := cutS_len xs at_ (b)
              obtain ⟨A1, c1, hv1, m1, m1', _, k1⟩ := o1.kf
              have lo1 := hb.size
              cases hv1
              have hb1 := hb.trans (b1.mono hb.size)
              have HO1 := Lib.hid (HO.out.below b1)
              generalize hCS : cutS xs at_ (b) = CS at *
              have hval : ValOk CS := by rw [← hCS]; exact HK.out.val.cut _ _
              have hmc : cutS xs at_ (min (at_ + step) b) = CS := by rw [hmin]; exact hCS
              have hlen : CS.length ≤ 10000 := by omega
              have n1 := m1'
              unfold maxLen at n1
              by_cases hz : 0 < CS.length
              · have HG := Lib.hid (winsGo_some (step := step) (9999 - k) hlt hmc hz)
                have P2 := Lib.hid (l11Win_calls at_ w1 k1 m1 m1' (by omega) hz hval)
                clear o1 b1 hCS hmc hval k1
                go_wp2_with fail
                refine P2.out.mono ?_
                rintro e w2 ⟨rfl, b2⟩
                clear P2
                have hb2 := hb1.trans (b2.mono hb1.size)
                have HO2 := Lib.hid (HO1.out.below b2)
                have hb2s := hb2.size
                obtain ⟨W2, hW2⟩ : ∃ W2, W2 = w2 := ⟨_, rfl⟩
                subst hW2
                clear b2 HO1 hb1
                go_wp2_with (at_builtin; refine wpList_push rfl _ _ 44 rfl 41 ii (.agg #[.int .i64 0, .int .i64 0, .int .i64 0, .int .i64 0, .int .i64 0, .int .i64 0]) 48 Try.underlying44 hi hz0 hz1 hz2 rfl (W := W2) HO2.out rfl (kf_Win_mk _ (winF at_ CS)) rfl (by simp) (by simp) (by omega) (by omega) hb2s ?_)
                intro v' w' ho' hg' hv'
                have hb' := hb2.grown hg' hb2.size (fun j hj => (HO2.out.ownLt j hj).1)
                clear hg' hv' hb2
                have HO' := Lib.hid ho'; clear ho'
                go_wp2
                go_roundw
                case rel =>
                  refine ⟨k + 1, ys ++ [winF at_ CS], at_ + step, rfl, by simpa using HO'.out, ?_, by omega, by omega, by omega, by simp; omega, hb'⟩
                  rw [← HT.out, show 10000 - k = (9999 - k) + 1 by omega, HG.out, show 10000 - (k + 1) = 9999 - k by omega]
                  simp
                case measure => simp [intOf]; omega
              · have HG := Lib.hid (winsGo_none (step := step) (9999 - k) hlt hmc (by omega))
                clear o1 b1 hCS hmc hval k1
                go_wp2
                go_roundw
                case rel =>
                  refine ⟨k + 1, ys, at_ + step, rfl, HO1.out, ?_, by omega, by omega, by omega, by omega, hb1⟩
                  rw [← HT.out, show 10000 - k = (9999 - k) + 1 by omega, HG.out, show 10000 - (k + 1) = 9999 - k by omega]
                case measure => simp [intOf]; omega
            · have hmin : min (at_ + step) b = at_ + step := by omega
              have P1 := Lib.hid (l2Cut_calls at_ (at_ + step) wr (H.out.below hb) hm hc' (by omega))
              go_wp2_with fail
              refine P1.out.mono ?_
              rintro e w1 ⟨v1, rfl, o1, b1⟩
              clear P1
              have hcl := cutS_len xs at_ (at_ + step)
              obtain ⟨A1, c1, hv1, m1, m1', _, k1⟩ := o1.kf
              have lo1 := hb.size
              cases hv1
              have hb1 := hb.trans (b1.mono hb.size)
              have HO1 := Lib.hid (HO.out.below b1)
              generalize hCS : cutS xs at_ (at_ + step) = CS at *
              have hval : ValOk CS := by rw [← hCS]; exact HK.out.val.cut _ _
              have hmc : cutS xs at_ (min (at_ + step) b) = CS := by rw [hmin]; exact hCS
              have hlen : CS.length ≤ 10000 := by omega
              have n1 := m1'
              unfold maxLen at n1
              by_cases hz : 0 < CS.length
              · have HG := Lib.hid (winsGo_some (step := step) (9999 - k) hlt hmc hz)
                have P2 := Lib.hid (l11Win_calls at_ w1 k1 m1 m1' (by omega) hz hval)
                clear o1 b1 hCS hmc hval k1
                go_wp2_with fail
                refine P2.out.mono ?_
                rintro e w2 ⟨rfl, b2⟩
                clear P2
                have hb2 := hb1.trans (b2.mono hb1.size)
                have HO2 := Lib.hid (HO1.out.below b2)
                have hb2s := hb2.size
                obtain ⟨W2, hW2⟩ : ∃ W2, W2 = w2 := ⟨_, rfl⟩
                subst hW2
                clear b2 HO1 hb1
                go_wp2_with (at_builtin; refine wpList_push rfl _ _ 44 rfl 41 ii (.agg #[.int .i64 0, .int .i64 0, .int .i64 0, .int .i64 0, .int .i64 0, .int .i64 0]) 48 Try.underlying44 hi hz0 hz1 hz2 rfl (W := W2) HO2.out rfl (kf_Win_mk _ (winF at_ CS)) rfl (by simp) (by simp) (by omega) (by omega) hb2s ?_)
                intro v' w' ho' hg' hv'
                have hb' := hb2.grown hg' hb2.size (fun j hj => (HO2.out.ownLt j hj).1)
                clear hg' hv' hb2
                have HO' := Lib.hid ho'; clear ho'
                go_wp2
                go_roundw
                case rel =>
                  refine ⟨k + 1, ys ++ [winF at_ CS], at_ + step, rfl, by simpa using HO'.out, ?_, by omega, by omega, by omega, by simp; omega, hb'⟩
                  rw [← HT.out, show 10000 - k = (9999 - k) + 1 by omega, HG.out, show 10000 - (k + 1) = 9999 - k by omega]
                  simp
                case measure => simp [intOf]; omega
              · have HG := Lib.hid (winsGo_none (step := step) (9999 - k) hlt hmc (by omega))
                clear o1 b1 hCS hmc hval k1
                go_wp2
                go_roundw
                case rel =>
                  refine ⟨k + 1, ys, at_ + step, rfl, HO1.out, ?_, by omega, by omega, by omega, by omega, hb1⟩
                  rw [← HT.out, show 10000 - k = (9999 - k) + 1 by omega, HG.out, show 10000 - (k + 1) = 9999 - k by omega]
                case measure => simp [intOf]; omega
          · have HG := Lib.hid (winsGo_end xs (step := step) (10000 - k) hlt)
            go_wp2
            go_ret
            refine ⟨_, rfl, ?_, hb⟩
            have := HT.out
            rw [HG.out, List.append_nil] at this
            rw [← this]; exact HO.out
      · have e3 : (decide (1 ≤ step) && decide (step ≤ 9999)) = false := by simp; omega
        have HR := Lib.hid (winsL_no (show ¬ WinsOk xs a b step from fun hh => hs hh.2.2))
        go_enter Try.func32, Try.ntmps32
        go_wp2_with (first | (go_at_call 40; refine P0.out.mono ?_; rintro e w1 ⟨rfl, hq1⟩) | (go_at_call 60; refine (l8Times_calls _ _ _).mono ?_; rintro e w2 ⟨rfl, rfl⟩) | (go_at_call 44; refine (l1In_calls _ _ _ _).mono ?_; rintro e w2 ⟨rfl, rfl⟩))
        go_ret
        exact ⟨_, rfl, by rw [HR.out]; exact HE.out.below (hq1.below _), hb0.trans ((hq1.below _).mono hb0.size)⟩
    · have e2 : timesB a b = false := decide_eq_false ht
      have HR := Lib.hid (winsL_no (show ¬ WinsOk xs a b step from fun hh => ht hh.2.1))
      go_enter Try.func32, Try.ntmps32
      go_wp2_with (first | (go_at_call 40; refine P0.out.mono ?_; rintro e w1 ⟨rfl, hq1⟩) | (go_at_call 60; refine (l8Times_calls _ _ _).mono ?_; rintro e w2 ⟨rfl, rfl⟩) | (go_at_call 44; refine (l1In_calls _ _ _ _).mono ?_; rintro e w2 ⟨rfl, rfl⟩))
      go_ret
      exact ⟨_, rfl, by rw [HR.out]; exact HE.out.below (hq1.below _), hb0.trans ((hq1.below _).mono hb0.size)⟩
  · have et : samOk xs = false := by simp [samOk, hok]
    have HR := Lib.hid (winsL_no (show ¬ WinsOk xs a b step from fun hh => hok hh.1))
    go_enter Try.func32, Try.ntmps32
    go_wp2_with (first | (go_at_call 40; refine P0.out.mono ?_; rintro e w1 ⟨rfl, hq1⟩) | (go_at_call 60; refine (l8Times_calls _ _ _).mono ?_; rintro e w2 ⟨rfl, rfl⟩) | (go_at_call 44; refine (l1In_calls _ _ _ _).mono ?_; rintro e w2 ⟨rfl, rfl⟩))
    go_ret
    exact ⟨_, rfl, by rw [HR.out]; exact HE.out.below (hq1.below _), hb0.trans ((hq1.below _).mono hb0.size)⟩
end Go.Proofs.Ytnchefajiedjiaa.AL
