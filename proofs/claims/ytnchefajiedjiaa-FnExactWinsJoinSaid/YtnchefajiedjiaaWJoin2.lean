/-
  One while of several: the program's function, whole.
-/
import Derived.Test.YtnchefajiedjiaaWJoin
import Derived.Deep.RegionHeld3
namespace Go.Proofs.Ytnchefajiedjiaa.AL
open Go Go.RowKit Go.Proofs
open Ty (KF)
set_option linter.unusedVariables false

theorem cell_set_ne {w : World} {b b' i j : Nat} {v : Value} (h : b ≠ b') : (w.setCell ⟨b', j, none⟩ v).cell? ⟨b, i, none⟩ = w.cell? ⟨b, i, none⟩ :=
  World.cell?_setCell_other _ _ _ _ (fun hh => h (congrArg Addr.block hh).symm)

set_option maxRecDepth 100000 in
set_option maxHeartbeats 4000000 in
theorem implWinsJoin_calls {A : Option Addr} {c : Nat} {xs : List Win} {F : Foot} (w : World) (h : KS w A xs F) (hm : xs.length ≤ c) (hc : c ≤ maxLen) :
    Calls Try.prog 26 #[.slice A xs.length c] w fun e w' => e = .returned (.tuple #[.agg #[.int .i64 (winsJoin xs).1.From, .int .i64 (winsJoin xs).1.Count, .int .i64 (winsJoin xs).1.Sum, .int .i64 (winsJoin xs).1.Low, .int .i64 (winsJoin xs).1.High, .int .i64 (winsJoin xs).1.Last], .bool (winsJoin xs).2]) ∧ Below w.heap.size w w' := by
  have hc' := hc
  unfold maxLen at hc
  have H := Lib.hid h; clear h
  have HNO := Lib.hid (@winsJoin_no xs); have HYES := Lib.hid (@winsJoin_yes xs)
  go_enter Try.func26, Try.ntmps26
  go_wp2
  go_loopw [9] (fun i wr => ∃ k : Nat, k ≤ xs.length ∧ i = .int .i64 k ∧ Hid (∀ j, j < k → WAt xs j) ∧ Hid (Blk wr w.heap.size [.int .i64 0, .int .i64 0, .int .i64 0, .int .i64 0, .int .i64 0, .int .i64 0] 41) ∧ Below w.heap.size w wr ∧ w.heap.size < wr.heap.size) (fun i _ => xs.length - (intOf i).toNat)
  case atStart => exact ⟨0, Nat.zero_le _, rfl, Lib.hid upTo_zero, Lib.hid (Blk.new w [.int .i64 0, .int .i64 0, .int .i64 0, .int .i64 0, .int .i64 0, .int .i64 0] 41), (by repeat' (first | (with_reducible first | assumption | exact Below.refl _ _ | apply Below.drew | apply Below.alloc | apply Below.setCell) | (simp; done) | (simp; omega))), by simp⟩
  case round =>
    obtain ⟨k, hk, rfl, hok, hB, hb, hsz⟩ := hrel
    by_cases hlt : k < xs.length
    · obtain ⟨b, o, rfl, hb1, _, g0, g1, g2, g3, g4, g5⟩ := ks_Win (H.out.below hb) k hlt
      have bad : ¬ WAt xs k → winsJoin xs = (winZ, false) := fun hn => HNO.out fun ⟨_, h2, _⟩ => hn (h2 k hlt)
      have BAD := Lib.hid bad; clear bad
      by_cases c1 : WinOk xs[k]
      · have e1 : winOk xs[k] = true := winOk_true c1
        by_cases c2 : 0 < k
        · have HP : ∃ p0 : wr.cell? ⟨b, o + (k - 1) * 6, none⟩ = some (.int .i64 (xs[k - 1]'(by omega)).From), True := by
            obtain ⟨_, _, hbo, _, _, p0, _⟩ := ks_Win (H.out.below hb) (k - 1) (by omega)
            cases hbo; exact ⟨p0, trivial⟩
          obtain ⟨p0, _⟩ := HP
          have ec : decide ((0 : Int) < (k : Int)) = true := by simp; omega
          have ek : ((k : Int) - 1).toNat = k - 1 := by omega
          have ek1 : (0 : Int) ≤ (k : Int) - 1 := by omega
          have ek2 : (k : Int) - 1 < (xs.length : Int) := by omega
          have p0' : wr.cell? ⟨b, o + ((k : Int) - 1).toNat * 6, none⟩ = some (.int .i64 (xs[k - 1]'(by omega)).From) := by rw [ek]; exact p0
          have hkk : ∃ m, k = m + 1 := ⟨k - 1, by omega⟩
          obtain ⟨m, rfl⟩ := hkk
          simp only [Nat.add_sub_cancel] at p0
          clear p0' ek ek1 ek2 ec
          by_cases c3 : (xs[m]'(by omega)).From < xs[m + 1].From
          · have HN := Lib.hid (show WAt xs (m + 1) from ⟨hlt, c1, fun _ => c3⟩)
            clear c1
            go_wp2_with fail
            generalize hW : wr.alloc _ = w0
            have q0 : w0.cell? ⟨wr.heap.size, 0, none⟩ = some (.int .i64 xs[m + 1].From) := by rw [← hW]; simp
            have q1 : w0.cell? ⟨wr.heap.size, 1, none⟩ = some (.int .i64 xs[m + 1].Count) := by rw [← hW]; simp
            have q2 : w0.cell? ⟨wr.heap.size, 2, none⟩ = some (.int .i64 xs[m + 1].Sum) := by rw [← hW]; simp
            have q3 : w0.cell? ⟨wr.heap.size, 3, none⟩ = some (.int .i64 xs[m + 1].Low) := by rw [← hW]; simp
            have q4 : w0.cell? ⟨wr.heap.size, 4, none⟩ = some (.int .i64 xs[m + 1].High) := by rw [← hW]; simp
            have q5 : w0.cell? ⟨wr.heap.size, 5, none⟩ = some (.int .i64 xs[m + 1].Last) := by rw [← hW]; simp
            have qs : wr.heap.size < w0.heap.size := by rw [← hW]; simp
            have qb : Below wr.heap.size wr w0 := by rw [← hW]; exact (Below.refl _ _).alloc (Nat.le_refl _) _
            clear hW
            have CB := Lib.hid ((hb.trans (qb.mono hb.size))); 
            have HB0 := Lib.hid (hB.out.below qb hsz)
            have p0w : w0.cell? ⟨b, o + m * 6, none⟩ = some (.int .i64 (xs[m]'(by omega)).From) := (qb.cell (p := ⟨b, o + m * 6, none⟩) hb1).trans p0
            have hb0 : b < w0.heap.size := by omega
            clear p0
            clear g0 g1 g2 g3 g4 g5
            refine wp_region_over (by kernel_rfl) (by kernel_rfl) ?_
            repeat (go_big_quiet_step ((go_at_call 50; exact quiet_over (implWinOk_calls _ _))))
            refine wpQuiet_nil ?_
            rintro _ ⟨u, rfl⟩
            have HBu := Lib.hid (CB.out.trans ((over_below w0 u).mono (Nat.le_trans hb.size (Nat.le_of_lt qs))))
            have HBo := Lib.hid (HB0.out.below (over_below w0 u) (by omega))
            have hsu := over_size w0 u
            have d0 := HBo.out.cell 0 rfl; have d1 := HBo.out.cell 1 rfl; have d2 := HBo.out.cell 2 rfl; have d3 := HBo.out.cell 3 rfl; have d4 := HBo.out.cell 4 rfl; have d5 := HBo.out.cell 5 rfl
            have e0' := HBo.out.free 0; have e1' := HBo.out.free 1; have e2' := HBo.out.free 2; have e3' := HBo.out.free 3; have e4' := HBo.out.free 4; have e5' := HBo.out.free 5
            generalize over w0 u = w4 at *
            go_wp2
            go_roundw
            case rel => exact ⟨m + 1 + 1, hlt, by go_num, Lib.hid (upTo_succ hok.out HN.out), Lib.hid HBo.out, HBu.out, by omega⟩
            case measure => simp [intOf]; omega
          · have HRZ := Lib.hid (BAD.out fun ⟨_, _, h3⟩ => c3 (h3 (by omega)))
            clear c1
            go_wp2_with fail
            generalize hW : wr.alloc _ = w0
            have q0 : w0.cell? ⟨wr.heap.size, 0, none⟩ = some (.int .i64 xs[m + 1].From) := by rw [← hW]; simp
            have q1 : w0.cell? ⟨wr.heap.size, 1, none⟩ = some (.int .i64 xs[m + 1].Count) := by rw [← hW]; simp
            have q2 : w0.cell? ⟨wr.heap.size, 2, none⟩ = some (.int .i64 xs[m + 1].Sum) := by rw [← hW]; simp
            have q3 : w0.cell? ⟨wr.heap.size, 3, none⟩ = some (.int .i64 xs[m + 1].Low) := by rw [← hW]; simp
            have q4 : w0.cell? ⟨wr.heap.size, 4, none⟩ = some (.int .i64 xs[m + 1].High) := by rw [← hW]; simp
            have q5 : w0.cell? ⟨wr.heap.size, 5, none⟩ = some (.int .i64 xs[m + 1].Last) := by rw [← hW]; simp
            have qs : wr.heap.size < w0.heap.size := by rw [← hW]; simp
            have qb : Below wr.heap.size wr w0 := by rw [← hW]; exact (Below.refl _ _).alloc (Nat.le_refl _) _
            clear hW
            have CB := Lib.hid ((hb.trans (qb.mono hb.size))); 
            have HB0 := Lib.hid (hB.out.below qb hsz)
            have p0w : w0.cell? ⟨b, o + m * 6, none⟩ = some (.int .i64 (xs[m]'(by omega)).From) := (qb.cell (p := ⟨b, o + m * 6, none⟩) hb1).trans p0
            have hb0 : b < w0.heap.size := by omega
            clear p0
            clear g0 g1 g2 g3 g4 g5
            refine wp_region_over (by kernel_rfl) (by kernel_rfl) ?_
            repeat (go_big_quiet_step ((go_at_call 50; exact quiet_over (implWinOk_calls _ _))))
            refine wpQuiet_nil ?_
            rintro _ ⟨u, rfl⟩
            have HBu := Lib.hid (CB.out.trans ((over_below w0 u).mono (Nat.le_trans hb.size (Nat.le_of_lt qs))))
            have HBo := Lib.hid (HB0.out.below (over_below w0 u) (by omega))
            have hsu := over_size w0 u
            have d0 := HBo.out.cell 0 rfl; have d1 := HBo.out.cell 1 rfl; have d2 := HBo.out.cell 2 rfl; have d3 := HBo.out.cell 3 rfl; have d4 := HBo.out.cell 4 rfl; have d5 := HBo.out.cell 5 rfl
            have e0' := HBo.out.free 0; have e1' := HBo.out.free 1; have e2' := HBo.out.free 2; have e3' := HBo.out.free 3; have e4' := HBo.out.free 4; have e5' := HBo.out.free 5
            generalize over w0 u = w4 at *
            go_wp2
            have hbu := HBu.out
            exact bodyPost_ret (v := .tuple #[.agg #[.int .i64 0, .int .i64 0, .int .i64 0, .int .i64 0, .int .i64 0, .int .i64 0], .bool false]) (by simp [results, Try.results26, go_sem, *]) rfl ⟨by rw [HRZ.out]; try rfl, (by repeat' (first | (with_reducible first | assumption | exact Below.refl _ _ | apply Below.drew | apply Below.alloc | apply Below.setCell) | (simp; done) | (simp; omega)))⟩
        · have e0 : decide ((0 : Int) < (k : Int)) = false := by simp; omega
          have HN := Lib.hid (show WAt xs k from ⟨hlt, c1, fun h => absurd h c2⟩)
          clear c1
          go_wp2_with fail
          generalize hW : wr.alloc _ = w0
          have q0 : w0.cell? ⟨wr.heap.size, 0, none⟩ = some (.int .i64 xs[k].From) := by rw [← hW]; simp
          have q1 : w0.cell? ⟨wr.heap.size, 1, none⟩ = some (.int .i64 xs[k].Count) := by rw [← hW]; simp
          have q2 : w0.cell? ⟨wr.heap.size, 2, none⟩ = some (.int .i64 xs[k].Sum) := by rw [← hW]; simp
          have q3 : w0.cell? ⟨wr.heap.size, 3, none⟩ = some (.int .i64 xs[k].Low) := by rw [← hW]; simp
          have q4 : w0.cell? ⟨wr.heap.size, 4, none⟩ = some (.int .i64 xs[k].High) := by rw [← hW]; simp
          have q5 : w0.cell? ⟨wr.heap.size, 5, none⟩ = some (.int .i64 xs[k].Last) := by rw [← hW]; simp
          have qs : wr.heap.size < w0.heap.size := by rw [← hW]; simp
          have qb : Below wr.heap.size wr w0 := by rw [← hW]; exact (Below.refl _ _).alloc (Nat.le_refl _) _
          clear hW
          have CB := Lib.hid ((hb.trans (qb.mono hb.size))); 
          have HB0 := Lib.hid (hB.out.below qb hsz)
          clear g0 g1 g2 g3 g4 g5
          refine wp_region_over (by kernel_rfl) (by kernel_rfl) ?_
          repeat (go_big_quiet_step ((go_at_call 50; exact quiet_over (implWinOk_calls _ _))))
          refine wpQuiet_nil ?_
          rintro _ ⟨u, rfl⟩
          have HBu := Lib.hid (CB.out.trans ((over_below w0 u).mono (Nat.le_trans hb.size (Nat.le_of_lt qs))))
          have HBo := Lib.hid (HB0.out.below (over_below w0 u) (by omega))
          have hsu := over_size w0 u
          have d0 := HBo.out.cell 0 rfl; have d1 := HBo.out.cell 1 rfl; have d2 := HBo.out.cell 2 rfl; have d3 := HBo.out.cell 3 rfl; have d4 := HBo.out.cell 4 rfl; have d5 := HBo.out.cell 5 rfl
          have e0' := HBo.out.free 0; have e1' := HBo.out.free 1; have e2' := HBo.out.free 2; have e3' := HBo.out.free 3; have e4' := HBo.out.free 4; have e5' := HBo.out.free 5
          generalize over w0 u = w4 at *
          go_wp2
          go_roundw
          case rel => exact ⟨k + 1, hlt, by go_num, Lib.hid (upTo_succ hok.out HN.out), Lib.hid HBo.out, HBu.out, by omega⟩
          case measure => simp [intOf]; omega
      · have e1 : winOk xs[k] = false := winOk_false c1
        have HRZ := Lib.hid (BAD.out fun ⟨_, h2, _⟩ => c1 h2)
        clear c1
        go_wp2_with fail
        generalize hW : wr.alloc _ = w0
        have q0 : w0.cell? ⟨wr.heap.size, 0, none⟩ = some (.int .i64 xs[k].From) := by rw [← hW]; simp
        have q1 : w0.cell? ⟨wr.heap.size, 1, none⟩ = some (.int .i64 xs[k].Count) := by rw [← hW]; simp
        have q2 : w0.cell? ⟨wr.heap.size, 2, none⟩ = some (.int .i64 xs[k].Sum) := by rw [← hW]; simp
        have q3 : w0.cell? ⟨wr.heap.size, 3, none⟩ = some (.int .i64 xs[k].Low) := by rw [← hW]; simp
        have q4 : w0.cell? ⟨wr.heap.size, 4, none⟩ = some (.int .i64 xs[k].High) := by rw [← hW]; simp
        have q5 : w0.cell? ⟨wr.heap.size, 5, none⟩ = some (.int .i64 xs[k].Last) := by rw [← hW]; simp
        have qs : wr.heap.size < w0.heap.size := by rw [← hW]; simp
        have qb : Below wr.heap.size wr w0 := by rw [← hW]; exact (Below.refl _ _).alloc (Nat.le_refl _) _
        clear hW
        have CB := Lib.hid ((hb.trans (qb.mono hb.size))); 
        have HB0 := Lib.hid (hB.out.below qb hsz)
        clear g0 g1 g2 g3 g4 g5
        refine wp_region_over (by kernel_rfl) (by kernel_rfl) ?_
        repeat (go_big_quiet_step ((go_at_call 50; exact quiet_over (implWinOk_calls _ _))))
        refine wpQuiet_nil ?_
        rintro _ ⟨u, rfl⟩
        have HBu := Lib.hid (CB.out.trans ((over_below w0 u).mono (Nat.le_trans hb.size (Nat.le_of_lt qs))))
        have HBo := Lib.hid (HB0.out.below (over_below w0 u) (by omega))
        have hsu := over_size w0 u
        have d0 := HBo.out.cell 0 rfl; have d1 := HBo.out.cell 1 rfl; have d2 := HBo.out.cell 2 rfl; have d3 := HBo.out.cell 3 rfl; have d4 := HBo.out.cell 4 rfl; have d5 := HBo.out.cell 5 rfl
        have e0' := HBo.out.free 0; have e1' := HBo.out.free 1; have e2' := HBo.out.free 2; have e3' := HBo.out.free 3; have e4' := HBo.out.free 4; have e5' := HBo.out.free 5
        generalize over w0 u = w4 at *
        go_wp2
        have hbu := HBu.out
        exact bodyPost_ret (v := .tuple #[.agg #[.int .i64 0, .int .i64 0, .int .i64 0, .int .i64 0, .int .i64 0, .int .i64 0], .bool false]) (by simp [results, Try.results26, go_sem, *]) rfl ⟨by rw [HRZ.out]; try rfl, (by repeat' (first | (with_reducible first | assumption | exact Below.refl _ _ | apply Below.drew | apply Below.alloc | apply Below.setCell) | (simp; done) | (simp; omega)))⟩
    · obtain rfl : k = xs.length := by omega
      by_cases h0 : 0 < xs.length
      · have e0 : ((xs.length : Int) == 0) = false := beq_eq_false_iff_ne.2 (by omega)
        obtain ⟨b, o, rfl, hb1, _, g0, g1, g2, g3, g4, g5⟩ := ks_Win (H.out.below hb) 0 h0
        have HK := Lib.hid (show WJOk xs from hok.out)
        simp only [Nat.zero_mul, Nat.add_zero] at g0 g1 g2 g3 g4 g5
        obtain ⟨G, _, hd⟩ := ks_drop (H.out.below hb) 1
        have HD := Lib.hid hd; clear hd
        have hw0 := wfold_zero h0
        have b1 : (1 : Int) ≤ (xs.length : Int) := by omega
        have b2 : (xs.length : Int) ≤ (c : Int) := by omega
        by_cases hc1 : c = 1
        · have hl1 : xs.length = 1 := by omega
          have HF := Lib.hid (fun (A : Option Addr) (w : World) (h : KS (α := Win) w A [] []) => foldWin_calls (A := A) (xs := xs) (ys := []) (c := 0) (F := []) w h (by simp) (by omega) (by rw [List.drop_eq_nil_of_le (by omega)]) h0 HK.out)
          rw [hw0] at HF
          simp only [List.length_nil, hl1, Nat.sub_self] at HF
          subst hc1
          clear hw0 hm hc HD
          have hl0 : xs.length - 1 = 0 := by omega
          have HY1 := Lib.hid (show (wfold xs 0).Count ≤ 10000 → winsJoin xs = (wfold xs 0, true) from fun h => by have := HYES.out h0 HK.out; rw [hl0] at this; exact this h)
          have HN1 := Lib.hid (show ¬ (wfold xs 0).Count ≤ 10000 → winsJoin xs = (winZ, false) from fun h => HNO.out fun ⟨_, _, h'⟩ => h (by rw [hl0] at h'; exact h'))
          clear hl0
          go_wp2_with fail
          have n2 : b ≠ wr.heap.size := by omega
          have n3 : w.heap.size ≠ wr.heap.size := by omega
          have n4 : wr.heap.size ≠ w.heap.size := by omega
          go_region_held3 (fun w' => w'.cell? ⟨b, o, none⟩ = some (.int .i64 xs[0].From) ∧ w'.cell? ⟨b, o + 1, none⟩ = some (.int .i64 xs[0].Count) ∧ w'.cell? ⟨b, o + 2, none⟩ = some (.int .i64 xs[0].Sum) ∧ w'.cell? ⟨b, o + 3, none⟩ = some (.int .i64 xs[0].Low) ∧ w'.cell? ⟨b, o + 4, none⟩ = some (.int .i64 xs[0].High) ∧ w'.cell? ⟨b, o + 5, none⟩ = some (.int .i64 xs[0].Last)) (refine ⟨?_, ?_, ?_, ?_, ?_, ?_⟩ <;> (first | (with_reducible assumption) | (simp only [cell_set_ne n2]; with_reducible assumption) | go_keep))
            (first | (go_at_call 51; refine (HF.out _ _ (ks_nil _ _)).mono ?_; rintro e w5 ⟨rfl, hb5⟩; have hq := (show Below wr.heap.size wr _ from (by repeat' (first | (with_reducible first | assumption | exact Below.refl _ _ | apply Below.drew | apply Below.alloc | apply Below.setCell) | (simp; done) | (simp; omega)))).trans (hb5.mono (by simp)); have q0 := (hq.cell (p := ⟨b, o, none⟩) hb1).trans g0; have q1 := (hq.cell (p := ⟨b, o + 1, none⟩) hb1).trans g1; have q2 := (hq.cell (p := ⟨b, o + 2, none⟩) hb1).trans g2; have q3 := (hq.cell (p := ⟨b, o + 3, none⟩) hb1).trans g3; have q4 := (hq.cell (p := ⟨b, o + 4, none⟩) hb1).trans g4; have q5 := (hq.cell (p := ⟨b, o + 5, none⟩) hb1).trans g5; have hbu := hb.trans (hq.mono hb.size); have hs5 := hbu.size; have B5 := hB.out.below hq hsz; have d0 := B5.cell 0 rfl; have e0' := B5.free 0; have d1 := B5.cell 1 rfl; have e1' := B5.free 1; have d2 := B5.cell 2 rfl; have e2' := B5.free 2; have d3 := B5.cell 3 rfl; have e3' := B5.free 3; have d4 := B5.cell 4 rfl; have e4' := B5.free 4; have d5 := B5.cell 5 rfl; have e5' := B5.free 5; clear B5; have hs6 : w.heap.size < w5.heap.size := Nat.lt_of_lt_of_le hsz hq.size; clear hq; try (have bx := (Blk.new wr [.int .i64 0, .int .i64 0, .int .i64 0, .int .i64 0, .int .i64 0, .int .i64 0] 41).drew; have by5 := bx.below hb5 bx.lt; have k0 := by5.cell 0 rfl; have k1 := by5.cell 1 rfl; have k2 := by5.cell 2 rfl; have k3 := by5.cell 3 rfl; have k4 := by5.cell 4 rfl; have k5 := by5.cell 5 rfl; have f0' := by5.free 0; have f1' := by5.free 1; have f2' := by5.free 2; have f3' := by5.free 3; have f4' := by5.free 4; have f5' := by5.free 5; clear bx by5)))
          all_goals (
            rename_i hHH
            clear hHH
            try have n5 : w.heap.size ≠ w5.heap.size := by omega
            by_cases c4 : (wfold xs 0).Count ≤ 10000
            · have e4 : decide ((10000 : Int) < (wfold xs 0).Count) = false := by simp; omega
              have HRZ := Lib.hid (HY1.out c4)
              go_wp2
              exact bodyPost_ret (v := .tuple #[.agg #[.int .i64 (wfold xs 0).From, .int .i64 (wfold xs 0).Count, .int .i64 (wfold xs 0).Sum, .int .i64 (wfold xs 0).Low, .int .i64 (wfold xs 0).High, .int .i64 (wfold xs 0).Last], .bool true]) (by simp [results, Try.results26, go_sem, *]) rfl ⟨by rw [HRZ.out]; try rfl, (by repeat' (first | (with_reducible first | assumption | exact Below.refl _ _ | apply Below.drew | apply Below.alloc | apply Below.setCell) | (simp; done) | (simp; omega)))⟩
            · have e4 : decide ((10000 : Int) < (wfold xs 0).Count) = true := by simp; omega
              have HRZ := Lib.hid (HN1.out (by omega))
              have HBo := hB.out
              go_wp2
              exact bodyPost_ret (v := .tuple #[.agg #[.int .i64 0, .int .i64 0, .int .i64 0, .int .i64 0, .int .i64 0, .int .i64 0], .bool false]) (by simp [results, Try.results26, go_sem, *]) rfl ⟨by rw [HRZ.out]; try rfl, (by repeat' (first | (with_reducible first | assumption | exact Below.refl _ _ | apply Below.drew | apply Below.alloc | apply Below.setCell) | (simp; done) | (simp; omega)))⟩)
        · have HF := Lib.hid (foldWin_calls (xs := xs) (ys := xs.drop 1) (A := some ⟨b, o + 6, none⟩) (c := c - 1) (F := G) · · (by simp; omega) (by omega) rfl h0 HK.out)
          rw [hw0] at HF
          simp only [List.length_drop] at HF
          clear hw0 hm hc
          go_wp2_with fail
          have n2 : b ≠ wr.heap.size := by omega
          have n3 : w.heap.size ≠ wr.heap.size := by omega
          have n4 : wr.heap.size ≠ w.heap.size := by omega
          go_region_held3 (fun w' => w'.cell? ⟨b, o, none⟩ = some (.int .i64 xs[0].From) ∧ w'.cell? ⟨b, o + 1, none⟩ = some (.int .i64 xs[0].Count) ∧ w'.cell? ⟨b, o + 2, none⟩ = some (.int .i64 xs[0].Sum) ∧ w'.cell? ⟨b, o + 3, none⟩ = some (.int .i64 xs[0].Low) ∧ w'.cell? ⟨b, o + 4, none⟩ = some (.int .i64 xs[0].High) ∧ w'.cell? ⟨b, o + 5, none⟩ = some (.int .i64 xs[0].Last)) (refine ⟨?_, ?_, ?_, ?_, ?_, ?_⟩ <;> (first | (with_reducible assumption) | (simp only [cell_set_ne n2]; with_reducible assumption) | go_keep))
            (first | (go_at_call 51; refine (HF.out _ (HD.out.below (by repeat' (first | (with_reducible first | assumption | exact Below.refl _ _ | apply Below.drew | apply Below.alloc | apply Below.setCell) | (simp; done) | (simp; omega))))).mono ?_; rintro e w5 ⟨rfl, hb5⟩; have hq := (show Below wr.heap.size wr _ from (by repeat' (first | (with_reducible first | assumption | exact Below.refl _ _ | apply Below.drew | apply Below.alloc | apply Below.setCell) | (simp; done) | (simp; omega)))).trans (hb5.mono (by simp)); have q0 := (hq.cell (p := ⟨b, o, none⟩) hb1).trans g0; have q1 := (hq.cell (p := ⟨b, o + 1, none⟩) hb1).trans g1; have q2 := (hq.cell (p := ⟨b, o + 2, none⟩) hb1).trans g2; have q3 := (hq.cell (p := ⟨b, o + 3, none⟩) hb1).trans g3; have q4 := (hq.cell (p := ⟨b, o + 4, none⟩) hb1).trans g4; have q5 := (hq.cell (p := ⟨b, o + 5, none⟩) hb1).trans g5; have hbu := hb.trans (hq.mono hb.size); have hs5 := hbu.size; have B5 := hB.out.below hq hsz; have d0 := B5.cell 0 rfl; have e0' := B5.free 0; have d1 := B5.cell 1 rfl; have e1' := B5.free 1; have d2 := B5.cell 2 rfl; have e2' := B5.free 2; have d3 := B5.cell 3 rfl; have e3' := B5.free 3; have d4 := B5.cell 4 rfl; have e4' := B5.free 4; have d5 := B5.cell 5 rfl; have e5' := B5.free 5; clear B5; have hs6 : w.heap.size < w5.heap.size := Nat.lt_of_lt_of_le hsz hq.size; clear hq; try (have bx := (Blk.new wr [.int .i64 0, .int .i64 0, .int .i64 0, .int .i64 0, .int .i64 0, .int .i64 0] 41).drew; have by5 := bx.below hb5 bx.lt; have k0 := by5.cell 0 rfl; have k1 := by5.cell 1 rfl; have k2 := by5.cell 2 rfl; have k3 := by5.cell 3 rfl; have k4 := by5.cell 4 rfl; have k5 := by5.cell 5 rfl; have f0' := by5.free 0; have f1' := by5.free 1; have f2' := by5.free 2; have f3' := by5.free 3; have f4' := by5.free 4; have f5' := by5.free 5; clear bx by5)))
          all_goals (
            rename_i hHH
            clear hHH
            try have n5 : w.heap.size ≠ w5.heap.size := by omega
            by_cases c4 : (wfold xs (xs.length - 1)).Count ≤ 10000
            · have e4 : decide ((10000 : Int) < (wfold xs (xs.length - 1)).Count) = false := by simp; omega
              have HRZ := Lib.hid (HYES.out h0 HK.out c4)
              go_wp2
              exact bodyPost_ret (v := .tuple #[.agg #[.int .i64 (wfold xs (xs.length - 1)).From, .int .i64 (wfold xs (xs.length - 1)).Count, .int .i64 (wfold xs (xs.length - 1)).Sum, .int .i64 (wfold xs (xs.length - 1)).Low, .int .i64 (wfold xs (xs.length - 1)).High, .int .i64 (wfold xs (xs.length - 1)).Last], .bool true]) (by simp [results, Try.results26, go_sem, *]) rfl ⟨by rw [HRZ.out]; try rfl, (by repeat' (first | (with_reducible first | assumption | exact Below.refl _ _ | apply Below.drew | apply Below.alloc | apply Below.setCell) | (simp; done) | (simp; omega)))⟩
            · have e4 : decide ((10000 : Int) < (wfold xs (xs.length - 1)).Count) = true := by simp; omega
              have HRZ := Lib.hid (HNO.out fun ⟨_, _, h⟩ => c4 h)
              have HBo := hB.out
              go_wp2
              exact bodyPost_ret (v := .tuple #[.agg #[.int .i64 0, .int .i64 0, .int .i64 0, .int .i64 0, .int .i64 0, .int .i64 0], .bool false]) (by simp [results, Try.results26, go_sem, *]) rfl ⟨by rw [HRZ.out]; try rfl, (by repeat' (first | (with_reducible first | assumption | exact Below.refl _ _ | apply Below.drew | apply Below.alloc | apply Below.setCell) | (simp; done) | (simp; omega)))⟩)
      · have e0 : ((xs.length : Int) == 0) = true := beq_iff_eq.2 (by omega)
        have HRZ := Lib.hid (HNO.out fun ⟨h, _⟩ => h0 h)
        have HBo := hB
        have d0 := HBo.out.cell 0 rfl; have d1 := HBo.out.cell 1 rfl; have d2 := HBo.out.cell 2 rfl; have d3 := HBo.out.cell 3 rfl; have d4 := HBo.out.cell 4 rfl; have d5 := HBo.out.cell 5 rfl
        have e0' := HBo.out.free 0; have e1' := HBo.out.free 1; have e2' := HBo.out.free 2; have e3' := HBo.out.free 3; have e4' := HBo.out.free 4; have e5' := HBo.out.free 5
        go_wp2
        exact bodyPost_ret (v := .tuple #[.agg #[.int .i64 0, .int .i64 0, .int .i64 0, .int .i64 0, .int .i64 0, .int .i64 0], .bool false]) (by simp [results, Try.results26, go_sem, *]) rfl ⟨by rw [HRZ.out]; try rfl, (by repeat' (first | (with_reducible first | assumption | exact Below.refl _ _ | apply Below.drew | apply Below.alloc | apply Below.setCell) | (simp; done) | (simp; omega)))⟩
end Go.Proofs.Ytnchefajiedjiaa.AL
