/-
  One while of several: the reference's function, whole.
-/
import Derived.Test.YtnchefajiedjiaaWJoin2
namespace Go.Proofs.Ytnchefajiedjiaa.AL
open Go Go.RowKit Go.Proofs
open Ty (KF)
set_option linter.unusedVariables false

theorem Blk.to {w : World} {b : Nat} {cs cs' : List Value} {t : TypeId} (h : Blk w b cs t) (e : cs = cs') : Blk w b cs' t := e ▸ h
theorem wb_wfoldN {xs : List Win} {n : Nat} (h : ∀ j, j < n → WAt xs j) : ∀ k, k < n → WB (k + 1) (wfold xs k)
  | 0, hk => by obtain ⟨h0, h1, _⟩ := h 0 hk; rw [wfold_zero h0]; exact wb_of_ok h1
  | k + 1, hk => by obtain ⟨h0, h1, _⟩ := h (k + 1) hk; rw [wfold_succ h0]; exact wb_wj (wb_wfoldN h k (by omega)) h1

set_option maxRecDepth 100000 in
set_option maxHeartbeats 4000000 in
theorem specWinsJoin_calls {A : Option Addr} {c : Nat} {xs : List Win} {F : Foot} (w : World) (h : KS w A xs F) (hm : xs.length ≤ c) (hc : c ≤ maxLen) :
    Calls Try.prog 24 #[.slice A xs.length c] w fun e w' => e = .returned (.tuple #[.agg #[.int .i64 (winsJoin xs).1.From, .int .i64 (winsJoin xs).1.Count, .int .i64 (winsJoin xs).1.Sum, .int .i64 (winsJoin xs).1.Low, .int .i64 (winsJoin xs).1.High, .int .i64 (winsJoin xs).1.Last], .bool (winsJoin xs).2]) ∧ Below w.heap.size w w' := by
  unfold maxLen at hc
  have H := Lib.hid h; clear h
  have HNO := Lib.hid (@winsJoin_no xs); have HYES := Lib.hid (@winsJoin_yes xs)
  by_cases h0 : 0 < xs.length
  · have e00 : ((xs.length : Int) == 0) = false := beq_eq_false_iff_ne.2 (by omega)
    have i0 : (0 : Int) < (xs.length : Int) := by omega
    have hw0 := wfold_zero h0
    obtain ⟨b, o, rfl, hb1, _, g0, g1, g2, g3, g4, g5⟩ := ks_Win H.out 0 h0
    simp only [Nat.zero_mul, Nat.add_zero] at g0 g1 g2 g3 g4 g5
    rw [← hw0] at g0 g1 g2 g3 g4 g5
    clear hw0
    go_enter Try.func24, Try.ntmps24
    go_wp2
    go_loopw [5, 6] (fun i _ wr => ∃ k : Nat, k ≤ xs.length ∧ i = .int .i64 k ∧ Hid (∀ j, j < k → WAt xs j) ∧ Hid (Blk wr w.heap.size [.int .i64 0, .int .i64 0, .int .i64 0, .int .i64 0, .int .i64 0, .int .i64 0] 41) ∧ Hid (Blk wr (w.heap.size + 1) [.int .i64 (wfold xs (k - 1)).From, .int .i64 (wfold xs (k - 1)).Count, .int .i64 (wfold xs (k - 1)).Sum, .int .i64 (wfold xs (k - 1)).Low, .int .i64 (wfold xs (k - 1)).High, .int .i64 (wfold xs (k - 1)).Last] 41) ∧ Below w.heap.size w wr ∧ w.heap.size + 1 < wr.heap.size) (fun i _ _ => xs.length - (intOf i).toNat)
    case atStart =>
      refine ⟨0, Nat.zero_le _, rfl, Lib.hid upTo_zero, Lib.hid ((Blk.new w [.int .i64 0, .int .i64 0, .int .i64 0, .int .i64 0, .int .i64 0, .int .i64 0] 41).alloc _), Lib.hid ?_, (by repeat' (first | (with_reducible first | assumption | exact Below.refl _ _ | apply Below.drew | apply Below.alloc | apply Below.setCell) | (simp; done) | (simp; omega))), by simp⟩
      have hh := Blk.new (w.alloc (.cells #[.int .i64 0, .int .i64 0, .int .i64 0, .int .i64 0, .int .i64 0, .int .i64 0] 41)) [.int .i64 (wfold xs 0).From, .int .i64 (wfold xs 0).Count, .int .i64 (wfold xs 0).Sum, .int .i64 (wfold xs 0).Low, .int .i64 (wfold xs 0).High, .int .i64 (wfold xs 0).Last] 41
      simpa using hh
    case round =>
      obtain ⟨k, hk, rfl, hok, hB, hM, hb, hsz⟩ := hrel
      by_cases hlt : k < xs.length
      · obtain ⟨b, o, hbo, hb1, _, g0, g1, g2, g3, g4, g5⟩ := ks_Win (H.out.below hb) k hlt
        cases hbo
        have bad : ¬ WAt xs k → winsJoin xs = (winZ, false) := fun hn => HNO.out fun ⟨_, h2, _⟩ => hn (h2 k hlt)
        have BAD := Lib.hid bad; clear bad
        by_cases c1 : WinOk xs[k]
        · have e1 : winOk xs[k] = true := winOk_true c1
          by_cases c2 : 0 < k
          · obtain ⟨m, rfl⟩ : ∃ m, k = m + 1 := ⟨k - 1, by omega⟩
            simp only [Nat.add_sub_cancel] at hM
            have HP : ∃ p0 : wr.cell? ⟨b, o + m * 6, none⟩ = some (.int .i64 (xs[m]'(by omega)).From), True := by
              obtain ⟨_, _, hbo, _, _, p0, _⟩ := ks_Win (H.out.below hb) m (by omega)
              cases hbo; exact ⟨p0, trivial⟩
            obtain ⟨p0, _⟩ := HP
            by_cases c3 : (xs[m]'(by omega)).From < xs[m + 1].From
            · have HN := Lib.hid (show WAt xs (m + 1) from ⟨hlt, c1, fun _ => c3⟩)
              have hws := wfold_succ hlt
              have hlen := wj_len hlt (upTo_succ hok.out HN.out)
              obtain ⟨a1, a2, a3, a4, a5, a6, a7, a8, a9, a10, a11⟩ := wb_wfoldN hok.out m (by omega)
              obtain ⟨b1, b2, b3, b4, b5, b6, b7, b8, b9, b10, b11⟩ := wb_of_ok c1
              have s0 : 0 ≤ (wfold xs m).Count + xs[m + 1].Count := by omega
              have s1 : (wfold xs m).Count + xs[m + 1].Count ≤ 200000000 := by omega
              have s2 : 0 ≤ (wfold xs m).Sum + xs[m + 1].Sum := by omega
              have s3 : (wfold xs m).Sum + xs[m + 1].Sum ≤ 400000000000000000 := by omega
              clear a1 a2 a3 a4 a5 a6 a7 a8 a9 a10 a11 b1 b2 b3 b4 b5 b6 b7 b8 b9 b10 b11
              clear c1
              go_wp2_with fail
              generalize hW : wr.alloc _ = w0
              have q0 : w0.cell? ⟨wr.heap.size, 0, none⟩ = some (.int .i64 xs[m + 1].From) := by rw [← hW]; simp
              have q1 : w0.cell? ⟨wr.heap.size, 1, none⟩ = some (.int .i64 xs[m + 1].Count) := by rw [← hW]; simp
              have q2 : w0.cell? ⟨wr.heap.size, 2, none⟩ = some (.int .i64 xs[m + 1].Sum) := by rw [← hW]; simp
              have q3 : w0.cell? ⟨wr.heap.size, 3, none⟩ = some (.int .i64 xs[m + 1].Low) := by rw [← hW]; simp
              have q4 : w0.cell? ⟨wr.heap.size, 4, none⟩ = some (.int .i64 xs[m + 1].High) := by rw [← hW]; simp
              have q5 : w0.cell? ⟨wr.heap.size, 5, none⟩ = some (.int .i64 xs[m + 1].Last) := by rw [← hW]; simp
              have qs : wr.heap.size < w0.heap.size := by rw [← hW]; simp
              have qb : Below wr.heap.size wr w0 := by rw [← hW]; exact (Below.refl _ _).alloc (Nat.le_refl _) _
              clear hW
              have CB := Lib.hid ((hb.trans (qb.mono hb.size)));
              have HB0 := Lib.hid (hB.out.below qb (by omega))
              have HM0 := Lib.hid (hM.out.below qb hsz)
              have p0w : w0.cell? ⟨b, o + m * 6, none⟩ = some (.int .i64 (xs[m]'(by omega)).From) := (qb.cell (p := ⟨b, o + m * 6, none⟩) hb1).trans p0
              have hb0 : b < w0.heap.size := by omega
              clear p0
              clear g0 g1 g2 g3 g4 g5
              refine wp_region_over (by kernel_rfl) (by kernel_rfl) ?_
              repeat (go_big_quiet_step ((go_at_call 48; exact quiet_over (specWinOk_calls _ _))))
              refine wpQuiet_nil ?_
              rintro _ ⟨u, rfl⟩
              have HBu := Lib.hid (CB.out.trans ((over_below w0 u).mono (Nat.le_trans hb.size (Nat.le_of_lt qs))))
              have HBo := Lib.hid (HB0.out.below (over_below w0 u) (by omega))
              have HMo := Lib.hid (HM0.out.below (over_below w0 u) (by omega))
              have hsu := over_size w0 u
              have d0 := HBo.out.cell 0 rfl; have e0' := HBo.out.free 0; have d1 := HBo.out.cell 1 rfl; have e1' := HBo.out.free 1; have d2 := HBo.out.cell 2 rfl; have e2' := HBo.out.free 2; have d3 := HBo.out.cell 3 rfl; have e3' := HBo.out.free 3; have d4 := HBo.out.cell 4 rfl; have e4' := HBo.out.free 4; have d5 := HBo.out.cell 5 rfl; have e5' := HBo.out.free 5
              have m0 := HMo.out.cell 0 rfl; have o0' := HMo.out.free 0; have m1 := HMo.out.cell 1 rfl; have o1' := HMo.out.free 1; have m2 := HMo.out.cell 2 rfl; have o2' := HMo.out.free 2; have m3 := HMo.out.cell 3 rfl; have o3' := HMo.out.free 3; have m4 := HMo.out.cell 4 rfl; have o4' := HMo.out.free 4; have m5 := HMo.out.cell 5 rfl; have o5' := HMo.out.free 5
              have t0 := (over_below w0 u).cell (p := ⟨wr.heap.size, 0, none⟩) qs |>.trans q0; have t1 := (over_below w0 u).cell (p := ⟨wr.heap.size, 1, none⟩) qs |>.trans q1; have t2 := (over_below w0 u).cell (p := ⟨wr.heap.size, 2, none⟩) qs |>.trans q2; have t3 := (over_below w0 u).cell (p := ⟨wr.heap.size, 3, none⟩) qs |>.trans q3; have t4 := (over_below w0 u).cell (p := ⟨wr.heap.size, 4, none⟩) qs |>.trans q4; have t5 := (over_below w0 u).cell (p := ⟨wr.heap.size, 5, none⟩) qs |>.trans q5
              generalize over w0 u = w4 at *
              clear q0 q1 q2 q3 q4 q5 qb
              by_cases c4 : xs[m + 1].Low < (wfold xs m).Low
              all_goals (by_cases c5 : (wfold xs m).High < xs[m + 1].High)
              all_goals (
                go_wp2
                go_roundw
                case rel =>
                  refine ⟨m + 1 + 1, hlt, by go_num, Lib.hid (upTo_succ hok.out HN.out), Lib.hid ?_, Lib.hid ?_, ?_, by simp; omega⟩
                  · exact (by repeat' (first | with_reducible exact HBo.out | (with_reducible refine Blk.setOther ?_ (show w.heap.size + 1 ≠ w.heap.size by omega) _)))
                  · apply Blk.to
                    · repeat' (first | with_reducible exact HMo.out | with_reducible apply Blk.set)
                    · rw [show m + 1 + 1 - 1 = m + 1 from rfl, hws]
                      simp [wj, List.set]
                      try omega
                  · have hbu := HBu.out
                    exact (by repeat' (first | (with_reducible first | assumption | exact Below.refl _ _ | apply Below.drew | apply Below.alloc | apply Below.setCell) | (simp; done) | (simp; omega)))
                case measure => simp [intOf]; omega)
            · have HRZ := Lib.hid (BAD.out fun ⟨_, _, h3⟩ => c3 (h3 (by omega)))
              clear c1
              go_wp2_with fail
              generalize hW : wr.alloc _ = w0
              have q0 : w0.cell? ⟨wr.heap.size, 0, none⟩ = some (.int .i64 xs[m + 1].From) := by rw [← hW]; simp
              have q1 : w0.cell? ⟨wr.heap.size, 1, none⟩ = some (.int .i64 xs[m + 1].Count) := by rw [← hW]; simp
              have q2 : w0.cell? ⟨wr.heap.size, 2, none⟩ = some (.int .i64 xs[m + 1].Sum) := by rw [← hW]; simp
              have q3 : w0.cell? ⟨wr.heap.size, 3, none⟩ = some (.int .i64 xs[m + 1].Low) := by rw [← hW]; simp
              have q4 : w0.cell? ⟨wr.heap.size, 4, none⟩ = some (.int .i64 xs[m + 1].High) := by rw [← hW]; simp
              have q5 : w0.cell? ⟨wr.heap.size, 5, none⟩ = some (.int .i64 xs[m + 1].Last) := by rw [← hW]; simp
              have qs : wr.heap.size < w0.heap.size := by rw [← hW]; simp
              have qb : Below wr.heap.size wr w0 := by rw [← hW]; exact (Below.refl _ _).alloc (Nat.le_refl _) _
              clear hW
              have CB := Lib.hid ((hb.trans (qb.mono hb.size)));
              have HB0 := Lib.hid (hB.out.below qb (by omega))
              have HM0 := Lib.hid (hM.out.below qb hsz)
              have p0w : w0.cell? ⟨b, o + m * 6, none⟩ = some (.int .i64 (xs[m]'(by omega)).From) := (qb.cell (p := ⟨b, o + m * 6, none⟩) hb1).trans p0
              have hb0 : b < w0.heap.size := by omega
              clear p0
              clear g0 g1 g2 g3 g4 g5
              refine wp_region_over (by kernel_rfl) (by kernel_rfl) ?_
              repeat (go_big_quiet_step ((go_at_call 48; exact quiet_over (specWinOk_calls _ _))))
              refine wpQuiet_nil ?_
              rintro _ ⟨u, rfl⟩
              have HBu := Lib.hid (CB.out.trans ((over_below w0 u).mono (Nat.le_trans hb.size (Nat.le_of_lt qs))))
              have HBo := Lib.hid (HB0.out.below (over_below w0 u) (by omega))
              have HMo := Lib.hid (HM0.out.below (over_below w0 u) (by omega))
              have hsu := over_size w0 u
              have d0 := HBo.out.cell 0 rfl; have e0' := HBo.out.free 0; have d1 := HBo.out.cell 1 rfl; have e1' := HBo.out.free 1; have d2 := HBo.out.cell 2 rfl; have e2' := HBo.out.free 2; have d3 := HBo.out.cell 3 rfl; have e3' := HBo.out.free 3; have d4 := HBo.out.cell 4 rfl; have e4' := HBo.out.free 4; have d5 := HBo.out.cell 5 rfl; have e5' := HBo.out.free 5
              have m0 := HMo.out.cell 0 rfl; have o0' := HMo.out.free 0; have m1 := HMo.out.cell 1 rfl; have o1' := HMo.out.free 1; have m2 := HMo.out.cell 2 rfl; have o2' := HMo.out.free 2; have m3 := HMo.out.cell 3 rfl; have o3' := HMo.out.free 3; have m4 := HMo.out.cell 4 rfl; have o4' := HMo.out.free 4; have m5 := HMo.out.cell 5 rfl; have o5' := HMo.out.free 5
              have t0 := (over_below w0 u).cell (p := ⟨wr.heap.size, 0, none⟩) qs |>.trans q0; have t1 := (over_below w0 u).cell (p := ⟨wr.heap.size, 1, none⟩) qs |>.trans q1; have t2 := (over_below w0 u).cell (p := ⟨wr.heap.size, 2, none⟩) qs |>.trans q2; have t3 := (over_below w0 u).cell (p := ⟨wr.heap.size, 3, none⟩) qs |>.trans q3; have t4 := (over_below w0 u).cell (p := ⟨wr.heap.size, 4, none⟩) qs |>.trans q4; have t5 := (over_below w0 u).cell (p := ⟨wr.heap.size, 5, none⟩) qs |>.trans q5
              generalize over w0 u = w4 at *
              clear q0 q1 q2 q3 q4 q5 qb
              go_wp2
              have hbu := HBu.out
              exact bodyPost_ret (v := .tuple #[.agg #[.int .i64 0, .int .i64 0, .int .i64 0, .int .i64 0, .int .i64 0, .int .i64 0], .bool false]) (by simp [results, Try.results24, go_sem, *]) rfl ⟨by rw [HRZ.out]; try rfl, (by repeat' (first | (with_reducible first | assumption | exact Below.refl _ _ | apply Below.drew | apply Below.alloc | apply Below.setCell) | (simp; done) | (simp; omega)))⟩
          · have e0 : decide ((0 : Int) < (k : Int)) = false := by simp; omega
            have e00' : ((k : Int) == 0) = true := beq_iff_eq.2 (by omega)
            have HN := Lib.hid (show WAt xs k from ⟨hlt, c1, fun h => absurd h c2⟩)
            clear c1
            go_wp2_with fail
            generalize hW : wr.alloc _ = w0
            have q0 : w0.cell? ⟨wr.heap.size, 0, none⟩ = some (.int .i64 xs[k].From) := by rw [← hW]; simp
            have q1 : w0.cell? ⟨wr.heap.size, 1, none⟩ = some (.int .i64 xs[k].Count) := by rw [← hW]; simp
            have q2 : w0.cell? ⟨wr.heap.size, 2, none⟩ = some (.int .i64 xs[k].Sum) := by rw [← hW]; simp
            have q3 : w0.cell? ⟨wr.heap.size, 3, none⟩ = some (.int .i64 xs[k].Low) := by rw [← hW]; simp
            have q4 : w0.cell? ⟨wr.heap.size, 4, none⟩ = some (.int .i64 xs[k].High) := by rw [← hW]; simp
            have q5 : w0.cell? ⟨wr.heap.size, 5, none⟩ = some (.int .i64 xs[k].Last) := by rw [← hW]; simp
            have qs : wr.heap.size < w0.heap.size := by rw [← hW]; simp
            have qb : Below wr.heap.size wr w0 := by rw [← hW]; exact (Below.refl _ _).alloc (Nat.le_refl _) _
            clear hW
            have CB := Lib.hid ((hb.trans (qb.mono hb.size)));
            have HB0 := Lib.hid (hB.out.below qb (by omega))
            have HM0 := Lib.hid (hM.out.below qb hsz)
            clear g0 g1 g2 g3 g4 g5
            refine wp_region_over (by kernel_rfl) (by kernel_rfl) ?_
            repeat (go_big_quiet_step ((go_at_call 48; exact quiet_over (specWinOk_calls _ _))))
            refine wpQuiet_nil ?_
            rintro _ ⟨u, rfl⟩
            have HBu := Lib.hid (CB.out.trans ((over_below w0 u).mono (Nat.le_trans hb.size (Nat.le_of_lt qs))))
            have HBo := Lib.hid (HB0.out.below (over_below w0 u) (by omega))
            have HMo := Lib.hid (HM0.out.below (over_below w0 u) (by omega))
            have hsu := over_size w0 u
            have d0 := HBo.out.cell 0 rfl; have e0' := HBo.out.free 0; have d1 := HBo.out.cell 1 rfl; have e1' := HBo.out.free 1; have d2 := HBo.out.cell 2 rfl; have e2' := HBo.out.free 2; have d3 := HBo.out.cell 3 rfl; have e3' := HBo.out.free 3; have d4 := HBo.out.cell 4 rfl; have e4' := HBo.out.free 4; have d5 := HBo.out.cell 5 rfl; have e5' := HBo.out.free 5
            have m0 := HMo.out.cell 0 rfl; have o0' := HMo.out.free 0; have m1 := HMo.out.cell 1 rfl; have o1' := HMo.out.free 1; have m2 := HMo.out.cell 2 rfl; have o2' := HMo.out.free 2; have m3 := HMo.out.cell 3 rfl; have o3' := HMo.out.free 3; have m4 := HMo.out.cell 4 rfl; have o4' := HMo.out.free 4; have m5 := HMo.out.cell 5 rfl; have o5' := HMo.out.free 5
            have t0 := (over_below w0 u).cell (p := ⟨wr.heap.size, 0, none⟩) qs |>.trans q0; have t1 := (over_below w0 u).cell (p := ⟨wr.heap.size, 1, none⟩) qs |>.trans q1; have t2 := (over_below w0 u).cell (p := ⟨wr.heap.size, 2, none⟩) qs |>.trans q2; have t3 := (over_below w0 u).cell (p := ⟨wr.heap.size, 3, none⟩) qs |>.trans q3; have t4 := (over_below w0 u).cell (p := ⟨wr.heap.size, 4, none⟩) qs |>.trans q4; have t5 := (over_below w0 u).cell (p := ⟨wr.heap.size, 5, none⟩) qs |>.trans q5
            generalize over w0 u = w4 at *
            clear q0 q1 q2 q3 q4 q5 qb
            go_wp2
            go_roundw
            case rel =>
              refine ⟨k + 1, hlt, by go_num, Lib.hid (upTo_succ hok.out HN.out), Lib.hid HBo.out, Lib.hid ?_, HBu.out, by omega⟩
              have hh := HMo.out
              rw [show k - 1 = k + 1 - 1 by omega] at hh
              exact hh
            case measure => simp [intOf]; omega
        · have e1 : winOk xs[k] = false := winOk_false c1
          have HRZ := Lib.hid (BAD.out fun ⟨_, h2, _⟩ => c1 h2)
          clear c1
          go_wp2_with fail
          generalize hW : wr.alloc _ = w0
          have q0 : w0.cell? ⟨wr.heap.size, 0, none⟩ = some (.int .i64 xs[k].From) := by rw [← hW]; simp
          have q1 : w0.cell? ⟨wr.heap.size, 1, none⟩ = some (.int .i64 xs[k].Count) := by rw [← hW]; simp
          have q2 : w0.cell? ⟨wr.heap.size, 2, none⟩ = some (.int .i64 xs[k].Sum) := by rw [← hW]; simp
          have q3 : w0.cell? ⟨wr.heap.size, 3, none⟩ = some (.int .i64 xs[k].Low) := by rw [← hW]; simp
          have q4 : w0.cell? ⟨wr.heap.size, 4, none⟩ = some (.int .i64 xs[k].High) := by rw [← hW]; simp
          have q5 : w0.cell? ⟨wr.heap.size, 5, none⟩ = some (.int .i64 xs[k].Last) := by rw [← hW]; simp
          have qs : wr.heap.size < w0.heap.size := by rw [← hW]; simp
          have qb : Below wr.heap.size wr w0 := by rw [← hW]; exact (Below.refl _ _).alloc (Nat.le_refl _) _
          clear hW
          have CB := Lib.hid ((hb.trans (qb.mono hb.size)));
          have HB0 := Lib.hid (hB.out.below qb (by omega))
          have HM0 := Lib.hid (hM.out.below qb hsz)
          clear g0 g1 g2 g3 g4 g5
          refine wp_region_over (by kernel_rfl) (by kernel_rfl) ?_
          repeat (go_big_quiet_step ((go_at_call 48; exact quiet_over (specWinOk_calls _ _))))
          refine wpQuiet_nil ?_
          rintro _ ⟨u, rfl⟩
          have HBu := Lib.hid (CB.out.trans ((over_below w0 u).mono (Nat.le_trans hb.size (Nat.le_of_lt qs))))
          have HBo := Lib.hid (HB0.out.below (over_below w0 u) (by omega))
          have HMo := Lib.hid (HM0.out.below (over_below w0 u) (by omega))
          have hsu := over_size w0 u
          have d0 := HBo.out.cell 0 rfl; have e0' := HBo.out.free 0; have d1 := HBo.out.cell 1 rfl; have e1' := HBo.out.free 1; have d2 := HBo.out.cell 2 rfl; have e2' := HBo.out.free 2; have d3 := HBo.out.cell 3 rfl; have e3' := HBo.out.free 3; have d4 := HBo.out.cell 4 rfl; have e4' := HBo.out.free 4; have d5 := HBo.out.cell 5 rfl; have e5' := HBo.out.free 5
          have m0 := HMo.out.cell 0 rfl; have o0' := HMo.out.free 0; have m1 := HMo.out.cell 1 rfl; have o1' := HMo.out.free 1; have m2 := HMo.out.cell 2 rfl; have o2' := HMo.out.free 2; have m3 := HMo.out.cell 3 rfl; have o3' := HMo.out.free 3; have m4 := HMo.out.cell 4 rfl; have o4' := HMo.out.free 4; have m5 := HMo.out.cell 5 rfl; have o5' := HMo.out.free 5
          have t0 := (over_below w0 u).cell (p := ⟨wr.heap.size, 0, none⟩) qs |>.trans q0; have t1 := (over_below w0 u).cell (p := ⟨wr.heap.size, 1, none⟩) qs |>.trans q1; have t2 := (over_below w0 u).cell (p := ⟨wr.heap.size, 2, none⟩) qs |>.trans q2; have t3 := (over_below w0 u).cell (p := ⟨wr.heap.size, 3, none⟩) qs |>.trans q3; have t4 := (over_below w0 u).cell (p := ⟨wr.heap.size, 4, none⟩) qs |>.trans q4; have t5 := (over_below w0 u).cell (p := ⟨wr.heap.size, 5, none⟩) qs |>.trans q5
          generalize over w0 u = w4 at *
          clear q0 q1 q2 q3 q4 q5 qb
          go_wp2
          have hbu := HBu.out
          exact bodyPost_ret (v := .tuple #[.agg #[.int .i64 0, .int .i64 0, .int .i64 0, .int .i64 0, .int .i64 0, .int .i64 0], .bool false]) (by simp [results, Try.results24, go_sem, *]) rfl ⟨by rw [HRZ.out]; try rfl, (by repeat' (first | (with_reducible first | assumption | exact Below.refl _ _ | apply Below.drew | apply Below.alloc | apply Below.setCell) | (simp; done) | (simp; omega)))⟩
      · obtain rfl : k = xs.length := by omega
        have HK := Lib.hid (show WJOk xs from hok.out)
        have HBo := hB; have HMo := hM
        have d0 := HBo.out.cell 0 rfl; have e0' := HBo.out.free 0; have d1 := HBo.out.cell 1 rfl; have e1' := HBo.out.free 1; have d2 := HBo.out.cell 2 rfl; have e2' := HBo.out.free 2; have d3 := HBo.out.cell 3 rfl; have e3' := HBo.out.free 3; have d4 := HBo.out.cell 4 rfl; have e4' := HBo.out.free 4; have d5 := HBo.out.cell 5 rfl; have e5' := HBo.out.free 5
        have m0 := HMo.out.cell 0 rfl; have o0' := HMo.out.free 0; have m1 := HMo.out.cell 1 rfl; have o1' := HMo.out.free 1; have m2 := HMo.out.cell 2 rfl; have o2' := HMo.out.free 2; have m3 := HMo.out.cell 3 rfl; have o3' := HMo.out.free 3; have m4 := HMo.out.cell 4 rfl; have o4' := HMo.out.free 4; have m5 := HMo.out.cell 5 rfl; have o5' := HMo.out.free 5
        by_cases c4 : (wfold xs (xs.length - 1)).Count ≤ 10000
        · have e4 : decide ((10000 : Int) < (wfold xs (xs.length - 1)).Count) = false := by simp; omega
          have HRZ := Lib.hid (HYES.out h0 HK.out c4)
          go_wp2
          exact bodyPost_ret (v := .tuple #[.agg #[.int .i64 (wfold xs (xs.length - 1)).From, .int .i64 (wfold xs (xs.length - 1)).Count, .int .i64 (wfold xs (xs.length - 1)).Sum, .int .i64 (wfold xs (xs.length - 1)).Low, .int .i64 (wfold xs (xs.length - 1)).High, .int .i64 (wfold xs (xs.length - 1)).Last], .bool true]) (by simp [results, Try.results24, go_sem, *]) rfl ⟨by rw [HRZ.out]; try rfl, (by repeat' (first | (with_reducible first | assumption | exact Below.refl _ _ | apply Below.drew | apply Below.alloc | apply Below.setCell) | (simp; done) | (simp; omega)))⟩
        · have e4 : decide ((10000 : Int) < (wfold xs (xs.length - 1)).Count) = true := by simp; omega
          have HRZ := Lib.hid (HNO.out fun ⟨_, _, h⟩ => c4 h)
          go_wp2
          exact bodyPost_ret (v := .tuple #[.agg #[.int .i64 0, .int .i64 0, .int .i64 0, .int .i64 0, .int .i64 0, .int .i64 0], .bool false]) (by simp [results, Try.results24, go_sem, *]) rfl ⟨by rw [HRZ.out]; try rfl, (by repeat' (first | (with_reducible first | assumption | exact Below.refl _ _ | apply Below.drew | apply Below.alloc | apply Below.setCell) | (simp; done) | (simp; omega)))⟩
  · have e0 : ((xs.length : Int) == 0) = true := beq_iff_eq.2 (by omega)
    have HRZ := Lib.hid (HNO.out fun ⟨h, _⟩ => h0 h)
    clear h0
    go_enter Try.func24, Try.ntmps24
    go_wp2
    exact bodyPost_ret (v := .tuple #[.agg #[.int .i64 0, .int .i64 0, .int .i64 0, .int .i64 0, .int .i64 0, .int .i64 0], .bool false]) (by simp [results, Try.results24, go_sem, *]) rfl ⟨by rw [HRZ.out]; try rfl, (by repeat' (first | (with_reducible first | assumption | exact Below.refl _ _ | apply Below.drew | apply Below.alloc | apply Below.setCell) | (simp; done) | (simp; omega)))⟩
end Go.Proofs.Ytnchefajiedjiaa.AL
