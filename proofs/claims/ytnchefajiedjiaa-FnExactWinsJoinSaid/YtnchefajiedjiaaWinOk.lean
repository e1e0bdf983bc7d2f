/-
  Whiles that samples may have.
-/
import Derived.Test.YtnchefajiedjiaaSam
import Derived.Test.YtnchefajiedjiaaHWin
import Derived.Test.YtnchefajiedjiaaRises
import Derived.Test.YtnchefajiedjiaaOver
namespace Go.Proofs.Ytnchefajiedjiaa.AL
open Go Go.RowKit Go.Proofs
open Ty (KF)

def WinOk (w : Win) : Prop := 0 ≤ w.From ∧ w.From ≤ 9999 ∧ 1 ≤ w.Count ∧ w.Count ≤ 10000 ∧ 0 ≤ w.Low ∧ w.Low ≤ w.Last ∧ w.Last ≤ w.High ∧ w.High ≤ 2147483647 ∧ w.Low * w.Count ≤ w.Sum ∧ w.Sum ≤ w.High * w.Count
open Classical in
noncomputable def winOk (w : Win) : Bool := decide (WinOk w)
theorem winOk_true {w : Win} (h : WinOk w) : winOk w = true := by simp [winOk, h]
theorem winOk_false {w : Win} (h : ¬ WinOk w) : winOk w = false := by simp [winOk, h]
theorem mul_bd {a b : Int} (h1 : 0 ≤ a) (h2 : a ≤ 2147483647) (h3 : 1 ≤ b) (h4 : b ≤ 10000) : 0 ≤ a * b ∧ a * b ≤ 21474836470000 :=
  ⟨Int.mul_nonneg h1 (by omega), Int.le_trans (Int.mul_le_mul h2 h4 (by omega) (by omega)) (by omega)⟩

set_option maxRecDepth 100000 in
set_option maxHeartbeats 1000000 in
theorem implWinOk_calls (x : Win) (w : World) :
    Calls Try.prog 50 #[.agg #[.int .i64 x.From, .int .i64 x.Count, .int .i64 x.Sum, .int .i64 x.Low, .int .i64 x.High, .int .i64 x.Last]] w fun e w' => e = .returned (.bool (winOk x)) ∧ Below w.heap.size w w' := by
  by_cases hb : 1 ≤ x.Count ∧ x.Count ≤ 10000 ∧ 0 ≤ x.Low ∧ x.Low ≤ x.Last ∧ x.Last ≤ x.High ∧ x.High ≤ 2147483647
  · obtain ⟨p1, p2⟩ := mul_bd hb.2.2.1 (by omega) hb.1 hb.2.1
    obtain ⟨p3, p4⟩ := mul_bd (show 0 ≤ x.High by omega) hb.2.2.2.2.2 hb.1 hb.2.1
    have HT := Lib.hid (@winOk_true x); have HF := Lib.hid (@winOk_false x)
    obtain ⟨b1, b2, b3, b4, b5, b6⟩ := hb
    by_cases ht : 0 ≤ x.From ∧ x.From ≤ 9999
    · have et : (decide (0 ≤ x.From) && decide (x.From ≤ 9999)) = true := by simp [ht]
      have HH := Lib.hid ht; clear ht
      go_enter Try.func50, Try.ntmps50
      go_wp2_with (go_at_call 64; refine (isTime_calls _ _).mono ?_; rintro e w2 ⟨rfl, rfl⟩)
      all_goals (have ht := HH.out; go_ret; refine ⟨ret_bool ?_, (by repeat' (first | (with_reducible first | assumption | exact Below.refl _ _ | apply Below.drew | apply Below.alloc | apply Below.setCell) | (simp; done) | (simp; omega)))⟩; by_cases hw : WinOk x; (refine Eq.trans ?_ (HT.out hw).symm; unfold WinOk at hw; (first | rfl | (simp; done) | (simp; omega) | omega | (exfalso; omega))); (refine Eq.trans ?_ (HF.out hw).symm; unfold WinOk at hw; (first | rfl | (simp; done) | (simp; omega) | omega | (exfalso; omega))))
    · have et : (decide (0 ≤ x.From) && decide (x.From ≤ 9999)) = false := by simp; omega
      have HH := Lib.hid ht; clear ht
      go_enter Try.func50, Try.ntmps50
      go_wp2_with (go_at_call 64; refine (isTime_calls _ _).mono ?_; rintro e w2 ⟨rfl, rfl⟩)
      all_goals (have ht := HH.out; go_ret; refine ⟨ret_bool ?_, (by repeat' (first | (with_reducible first | assumption | exact Below.refl _ _ | apply Below.drew | apply Below.alloc | apply Below.setCell) | (simp; done) | (simp; omega)))⟩; by_cases hw : WinOk x; (refine Eq.trans ?_ (HT.out hw).symm; unfold WinOk at hw; (first | rfl | (simp; done) | (simp; omega) | omega | (exfalso; omega))); (refine Eq.trans ?_ (HF.out hw).symm; unfold WinOk at hw; (first | rfl | (simp; done) | (simp; omega) | omega | (exfalso; omega))))
  · have HT := Lib.hid (@winOk_true x); have HF := Lib.hid (@winOk_false x)
    by_cases ht : 0 ≤ x.From ∧ x.From ≤ 9999
    · have et : (decide (0 ≤ x.From) && decide (x.From ≤ 9999)) = true := by simp [ht]
      have HH := Lib.hid ht; clear ht
      go_enter Try.func50, Try.ntmps50
      go_wp2_with (go_at_call 64; refine (isTime_calls _ _).mono ?_; rintro e w2 ⟨rfl, rfl⟩)
      all_goals (have ht := HH.out; go_ret; refine ⟨ret_bool ?_, (by repeat' (first | (with_reducible first | assumption | exact Below.refl _ _ | apply Below.drew | apply Below.alloc | apply Below.setCell) | (simp; done) | (simp; omega)))⟩; by_cases hw : WinOk x; (refine Eq.trans ?_ (HT.out hw).symm; unfold WinOk at hw; (first | rfl | (simp; done) | (simp; omega) | omega | (exfalso; omega))); (refine Eq.trans ?_ (HF.out hw).symm; unfold WinOk at hw; (first | rfl | (simp; done) | (simp; omega) | omega | (exfalso; omega))))
    · have et : (decide (0 ≤ x.From) && decide (x.From ≤ 9999)) = false := by simp; omega
      have HH := Lib.hid ht; clear ht
      go_enter Try.func50, Try.ntmps50
      go_wp2_with (go_at_call 64; refine (isTime_calls _ _).mono ?_; rintro e w2 ⟨rfl, rfl⟩)
      all_goals (have ht := HH.out; go_ret; refine ⟨ret_bool ?_, (by repeat' (first | (with_reducible first | assumption | exact Below.refl _ _ | apply Below.drew | apply Below.alloc | apply Below.setCell) | (simp; done) | (simp; omega)))⟩; by_cases hw : WinOk x; (refine Eq.trans ?_ (HT.out hw).symm; unfold WinOk at hw; (first | rfl | (simp; done) | (simp; omega) | omega | (exfalso; omega))); (refine Eq.trans ?_ (HF.out hw).symm; unfold WinOk at hw; (first | rfl | (simp; done) | (simp; omega) | omega | (exfalso; omega))))

set_option maxRecDepth 100000 in
set_option maxHeartbeats 1000000 in
theorem specWinOk_calls (x : Win) (w : World) :
    Calls Try.prog 48 #[.agg #[.int .i64 x.From, .int .i64 x.Count, .int .i64 x.Sum, .int .i64 x.Low, .int .i64 x.High, .int .i64 x.Last]] w fun e w' => e = .returned (.bool (winOk x)) ∧ Below w.heap.size w w' := by
  have HT := Lib.hid (@winOk_true x); have HF := Lib.hid (@winOk_false x)
  have hl : ∀ (a b c : Int) (W : World), (b ≤ a ∧ a ≤ c) → Calls Try.prog 44 #[.int .i64 a, .int .i64 b, .int .i64 c] W fun e w' => e = .returned (.bool true) ∧ w' = W := fun a b c W h => (l1In_calls a b c W).mono fun e w' ⟨he, hw⟩ => ⟨by rw [he]; simp [h], hw⟩
  have hn : ∀ (a b c : Int) (W : World), ¬ (b ≤ a ∧ a ≤ c) → Calls Try.prog 44 #[.int .i64 a, .int .i64 b, .int .i64 c] W fun e w' => e = .returned (.bool false) ∧ w' = W := fun a b c W h => (l1In_calls a b c W).mono fun e w' ⟨he, hw⟩ => ⟨by rw [he]; simp; omega, hw⟩
  have HL := Lib.hid hl; have HN := Lib.hid hn; clear hl hn
  by_cases c1 : 0 ≤ x.From ∧ x.From ≤ 9999
  · by_cases c2 : 1 ≤ x.Count ∧ x.Count ≤ 10000
    · by_cases c3 : 0 ≤ x.Low ∧ x.Low ≤ x.High
      · by_cases c4 : x.Low ≤ x.Last ∧ x.Last ≤ x.High
        · by_cases c5 : x.High ≤ 2147483647
          · obtain ⟨p1, p2⟩ := mul_bd c3.1 (by omega) c2.1 c2.2
            obtain ⟨p3, p4⟩ := mul_bd (show 0 ≤ x.High by omega) c5 c2.1 c2.2
            by_cases c6 : x.Low * x.Count ≤ x.Sum ∧ x.Sum ≤ x.High * x.Count
            · go_enter Try.func48, Try.ntmps48
              go_wp2_with (go_at_call 44; first | (refine (HL.out _ _ _ _ (by omega)).mono ?_; rintro e w2 ⟨rfl, rfl⟩) | (refine (HN.out _ _ _ _ (by omega)).mono ?_; rintro e w2 ⟨rfl, rfl⟩))
              all_goals (go_ret; refine ⟨ret_bool ?_, (by repeat' (first | (with_reducible first | assumption | exact Below.refl _ _ | apply Below.drew | apply Below.alloc | apply Below.setCell) | (simp; done) | (simp; omega)))⟩; by_cases hw : WinOk x; (refine Eq.trans ?_ (HT.out hw).symm; unfold WinOk at hw; (first | rfl | (simp; done) | (simp; omega) | omega | (exfalso; omega))); (refine Eq.trans ?_ (HF.out hw).symm; unfold WinOk at hw; (first | rfl | (simp; done) | (simp; omega) | omega | (exfalso; omega))))
            · go_enter Try.func48, Try.ntmps48
              go_wp2_with (go_at_call 44; first | (refine (HL.out _ _ _ _ (by omega)).mono ?_; rintro e w2 ⟨rfl, rfl⟩) | (refine (HN.out _ _ _ _ (by omega)).mono ?_; rintro e w2 ⟨rfl, rfl⟩))
              all_goals (go_ret; refine ⟨ret_bool ?_, (by repeat' (first | (with_reducible first | assumption | exact Below.refl _ _ | apply Below.drew | apply Below.alloc | apply Below.setCell) | (simp; done) | (simp; omega)))⟩; by_cases hw : WinOk x; (refine Eq.trans ?_ (HT.out hw).symm; unfold WinOk at hw; (first | rfl | (simp; done) | (simp; omega) | omega | (exfalso; omega))); (refine Eq.trans ?_ (HF.out hw).symm; unfold WinOk at hw; (first | rfl | (simp; done) | (simp; omega) | omega | (exfalso; omega))))
          · go_enter Try.func48, Try.ntmps48
            go_wp2_with (go_at_call 44; first | (refine (HL.out _ _ _ _ (by omega)).mono ?_; rintro e w2 ⟨rfl, rfl⟩) | (refine (HN.out _ _ _ _ (by omega)).mono ?_; rintro e w2 ⟨rfl, rfl⟩))
            all_goals (go_ret; refine ⟨ret_bool ?_, (by repeat' (first | (with_reducible first | assumption | exact Below.refl _ _ | apply Below.drew | apply Below.alloc | apply Below.setCell) | (simp; done) | (simp; omega)))⟩; by_cases hw : WinOk x; (refine Eq.trans ?_ (HT.out hw).symm; unfold WinOk at hw; (first | rfl | (simp; done) | (simp; omega) | omega | (exfalso; omega))); (refine Eq.trans ?_ (HF.out hw).symm; unfold WinOk at hw; (first | rfl | (simp; done) | (simp; omega) | omega | (exfalso; omega))))
        · go_enter Try.func48, Try.ntmps48
          go_wp2_with (go_at_call 44; first | (refine (HL.out _ _ _ _ (by omega)).mono ?_; rintro e w2 ⟨rfl, rfl⟩) | (refine (HN.out _ _ _ _ (by omega)).mono ?_; rintro e w2 ⟨rfl, rfl⟩))
          all_goals (go_ret; refine ⟨ret_bool ?_, (by repeat' (first | (with_reducible first | assumption | exact Below.refl _ _ | apply Below.drew | apply Below.alloc | apply Below.setCell) | (simp; done) | (simp; omega)))⟩; by_cases hw : WinOk x; (refine Eq.trans ?_ (HT.out hw).symm; unfold WinOk at hw; (first | rfl | (simp; done) | (simp; omega) | omega | (exfalso; omega))); (refine Eq.trans ?_ (HF.out hw).symm; unfold WinOk at hw; (first | rfl | (simp; done) | (simp; omega) | omega | (exfalso; omega))))
      · go_enter Try.func48, Try.ntmps48
        go_wp2_with (go_at_call 44; first | (refine (HL.out _ _ _ _ (by omega)).mono ?_; rintro e w2 ⟨rfl, rfl⟩) | (refine (HN.out _ _ _ _ (by omega)).mono ?_; rintro e w2 ⟨rfl, rfl⟩))
        all_goals (go_ret; refine ⟨ret_bool ?_, (by repeat' (first | (with_reducible first | assumption | exact Below.refl _ _ | apply Below.drew | apply Below.alloc | apply Below.setCell) | (simp; done) | (simp; omega)))⟩; by_cases hw : WinOk x; (refine Eq.trans ?_ (HT.out hw).symm; unfold WinOk at hw; (first | rfl | (simp; done) | (simp; omega) | omega | (exfalso; omega))); (refine Eq.trans ?_ (HF.out hw).symm; unfold WinOk at hw; (first | rfl | (simp; done) | (simp; omega) | omega | (exfalso; omega))))
    · go_enter Try.func48, Try.ntmps48
      go_wp2_with (go_at_call 44; first | (refine (HL.out _ _ _ _ (by omega)).mono ?_; rintro e w2 ⟨rfl, rfl⟩) | (refine (HN.out _ _ _ _ (by omega)).mono ?_; rintro e w2 ⟨rfl, rfl⟩))
      all_goals (go_ret; refine ⟨ret_bool ?_, (by repeat' (first | (with_reducible first | assumption | exact Below.refl _ _ | apply Below.drew | apply Below.alloc | apply Below.setCell) | (simp; done) | (simp; omega)))⟩; by_cases hw : WinOk x; (refine Eq.trans ?_ (HT.out hw).symm; unfold WinOk at hw; (first | rfl | (simp; done) | (simp; omega) | omega | (exfalso; omega))); (refine Eq.trans ?_ (HF.out hw).symm; unfold WinOk at hw; (first | rfl | (simp; done) | (simp; omega) | omega | (exfalso; omega))))
  · go_enter Try.func48, Try.ntmps48
    go_wp2_with (go_at_call 44; first | (refine (HL.out _ _ _ _ (by omega)).mono ?_; rintro e w2 ⟨rfl, rfl⟩) | (refine (HN.out _ _ _ _ (by omega)).mono ?_; rintro e w2 ⟨rfl, rfl⟩))
    all_goals (go_ret; refine ⟨ret_bool ?_, (by repeat' (first | (with_reducible first | assumption | exact Below.refl _ _ | apply Below.drew | apply Below.alloc | apply Below.setCell) | (simp; done) | (simp; omega)))⟩; by_cases hw : WinOk x; (refine Eq.trans ?_ (HT.out hw).symm; unfold WinOk at hw; (first | rfl | (simp; done) | (simp; omega) | omega | (exfalso; omega))); (refine Eq.trans ?_ (HF.out hw).symm; unfold WinOk at hw; (first | rfl | (simp; done) | (simp; omega) | omega | (exfalso; omega))))
end Go.Proofs.Ytnchefajiedjiaa.AL
