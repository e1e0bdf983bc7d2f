/-
  Whiles, drawn.
-/
import Derived.Test.YtnchefajiedjiaaSWins
import Derived.Test.YtnchefajiedjiaaDraw3
namespace Go.Proofs.Ytnchefajiedjiaa.AL
open Go Go.RowKit Go.Proofs
set_option linter.unusedVariables false

theorem winsGo_mem {xs : List Sample} (hx : ValOk xs) (b step : Int) : ∀ n a, ∀ w ∈ winsGo xs b step n a, 0 ≤ w.High ∧ w.High ≤ 2147483647
  | 0, _, w, hw => by simp [winsGo] at hw
  | n + 1, a, w, hw => by
    unfold winsGo at hw
    split at hw
    · rcases List.mem_append.1 hw with hw | hw
      · split at hw
        · simp at hw
        · rename_i hne
          simp only [List.mem_singleton] at hw
          subst hw
          have h0 := List.length_pos_iff.2 hne
          have := winTo_bd (a := a) (hx.cut a (min (a + step) b)) h0 _ (Nat.le_refl _)
          exact ⟨this.h0, this.h1⟩
      · exact winsGo_mem hx b step n (a + step) w hw
    · simp at hw
theorem winsL_mem {xs : List Sample} {a b step : Int} : ∀ w ∈ winsL xs a b step, 0 ≤ w.High ∧ w.High ≤ 2147483647 := by
  intro w hw
  by_cases h : WinsOk xs a b step
  · rw [winsL_ok h] at hw; exact winsGo_mem h.1.val b step _ _ w hw
  · rw [winsL_no h] at hw; simp at hw
theorem win_set0 {w : World} (x : Win) (t : Int) : ∀ ds G, KF w x ds G → KF w ({x with From := t} : Win) (ds.set 0 (.int .i64 t)) [] := by
  intro ds G h; obtain ⟨rfl, _⟩ := kf_Win h; exact kf_Win_mk w {x with From := t}
theorem win_set1 {w : World} (x : Win) (t : Int) : ∀ ds G, KF w x ds G → KF w ({x with Count := t} : Win) (ds.set 1 (.int .i64 t)) [] := by
  intro ds G h; obtain ⟨rfl, _⟩ := kf_Win h; exact kf_Win_mk w {x with Count := t}
theorem win_set2 {w : World} (x : Win) (t : Int) : ∀ ds G, KF w x ds G → KF w ({x with Sum := t} : Win) (ds.set 2 (.int .i64 t)) [] := by
  intro ds G h; obtain ⟨rfl, _⟩ := kf_Win h; exact kf_Win_mk w {x with Sum := t}
theorem win_set5 {w : World} (x : Win) (t : Int) : ∀ ds G, KF w x ds G → KF w ({x with Last := t} : Win) (ds.set 5 (.int .i64 t)) [] := by
  intro ds G h; obtain ⟨rfl, _⟩ := kf_Win h; exact kf_Win_mk w {x with Last := t}

set_option maxRecDepth 100000 in
set_option maxHeartbeats 2000000 in
theorem drawWinsJoin_calls {A : Option Addr} {c : Nat} {cs : List UInt8} {F : Foot} (w : World) (h : KS w A cs F) (hm : cs.length ≤ c) (hc : c ≤ maxLen) :
    Calls Try.prog 29 #[.slice A cs.length c] w (DrawnPost Win 10000 w) := by
  have P1 := Lib.hid (l1Open_calls w h hm hc); clear h
  go_enter Try.func29, Try.ntmps29
  go_wp2_with fail
  refine P1.out.mono ?_
  rintro e w1 ⟨a, rfl, r1, b1, ha⟩
  clear P1
  have hs1 := b1.size
  have haw := r1.at
  obtain ⟨B, hB⟩ : ∃ B, B = w1.heap.size := ⟨_, rfl⟩
  rw [← hB] at r1 haw
  have hB1 : B ≤ w1.heap.size := by omega
  have P2 := Lib.hid (l13Samples_calls 9 w1 r1 (by omega) (by omega) (by omega)); clear r1
  have T1 := Lib.hid b1; clear b1
  go_wp2_with fail
  refine P2.out.mono ?_
  rintro e w2 ⟨_, ys, p2, rfl, ⟨A2, c2, F2, rfl, y1, y2, y3, k2, k2'⟩, _, q2, r2, t2⟩
  clear P2
  have hB2 := Nat.le_trans hB1 t2.size
  have B2 := Lib.hid (T1.out.trans (t2.below (B := w.heap.size) (by simpa using ha) hs1)); clear T1
  go_wp2_with fail
  refine (one_lit [10, 60, 100, 1000] w2 r2 hB2 (by omega) (by simp) (by simp)).mono ?_
  rintro e w3 ⟨st, rfl, _, r3, t3⟩
  have hF2 : ∀ k ∈ F2, k ∉ [a] := fun k hk => by have := k2' k hk; simp; omega
  have k3 := t3.ks k2 hF2
  have hB3 := Nat.le_trans hB2 t3.size
  have B3 := Lib.hid (B2.out.trans (t3.below (B := w.heap.size) (by simpa using ha) (by omega))); clear B2 t2 t3 k2 r2 k2'
  have P3 := Lib.hid (specWins_calls 0 10000 st w3 k3 y2 y3); clear k3
  go_wp2_with fail
  refine P3.out.mono ?_
  rintro e w4 ⟨v4, rfl, o4, b4⟩
  clear P3
  obtain ⟨A, c, F, hv, x2, x3, k4, k4'⟩ := o4.out (by simp)
  have hF4 : ∀ k ∈ F, k ∉ [a] := fun k hk => by have := k4' k hk; simp; omega
  have k4'' : ∀ k ∈ F, w.heap.size ≤ k := fun k hk => by have := k4' k hk; omega
  have hwm := winsL_mem (xs := ys) (a := 0) (b := 10000) (step := st)
  have x1 := winsL_len ys 0 10000 st
  generalize winsL ys 0 10000 st = xs at *
  cases hv
  have r4 := r3.below b4 (by omega)
  have hB4 := Nat.le_trans hB3 b4.size
  have B4 := Lib.hid (B3.out.trans (b4.mono (by omega))); clear B3 r3 b4 o4 k4' 
  have K4 := Lib.hid k4; have KL := Lib.hid k4''; have HF := Lib.hid hF4; have HW := Lib.hid hwm; clear k4 k4'' hF4 hF2 hwm
  have hc := x3
  unfold maxLen at hc
  by_cases h0 : 0 < xs.length
  · have P1 := Lib.hid (pick_calls 6 w4 r4 (by omega) (by omega) (by omega)); clear r4
    go_wp2_with fail
    refine P1.out.mono ?_
    rintro e w5 ⟨v1, rfl, ⟨a1, _, _⟩, r5, t5⟩
    clear P1
    have hB5 := Nat.le_trans hB4 t5.size
    have B5 := Lib.hid (B4.out.trans (t5.below (B := w.heap.size) (by simpa using ha) (by omega))); have K5 := Lib.hid (t5.ks K4.out HF.out); clear t5 B4 K4
    by_cases hv : v1 = 0
    · subst hv
      have P2 := Lib.hid (pick_calls (xs.length : Int) w5 r5 (by omega) (by omega) (by omega)); clear r5
      go_wp2_with fail
      refine P2.out.mono ?_
      rintro e w6 ⟨v2, rfl, ⟨a2, b2, _⟩, r6, t6⟩
      clear P2
      obtain ⟨i, rfl⟩ := Int.eq_ofNat_of_zero_le a2
      have hi : i < xs.length := by have := b2 (by omega); omega
      clear a2 b2
      have hB6 := Nat.le_trans hB5 t6.size
      have B6 := Lib.hid (B5.out.trans (t6.below (B := w.heap.size) (by simpa using ha) (by omega))); have K6 := Lib.hid (t6.ks K5.out HF.out); clear t6 B5 K5
      have P3 := Lib.hid (pick_calls 4 w6 r6 (by omega) (by omega) (by omega)); clear r6
      go_wp2_with fail
      refine P3.out.mono ?_
      rintro e w5 ⟨v3, rfl, ⟨a3, b3, _⟩, r7, t7⟩
      clear P3 a3 b3 r7
      have B5 := Lib.hid (B6.out.trans (t7.below (B := w.heap.size) (by simpa using ha) (by omega))); have K5 := Lib.hid (t7.ks K6.out HF.out); clear t7 B6 K6 HF
      have hhi := HW.out _ (List.getElem_mem hi)
      obtain ⟨hh1, hh2⟩ := hhi
      clear HW
      by_cases c0 : v3 = 0
      · subst c0
        obtain ⟨b, o, rfl, hFb, hb, ⟨u, hu⟩, hf, hk⟩ := ks_set1 K5.out i hi {xs[i] with Count := 0} 1 (.int .i64 (0)) (by decide) (win_set1 _ _)
        change w5.cell? ⟨b, o + i * 6 + 1, none⟩ = _ at hu
        change w5.frozen? ⟨b, o + i * 6 + 1, none⟩ = _ at hf
        subst hFb
        have hbw : w.heap.size ≤ b := KL.out b (by simp)
        have HX := Lib.hid (show DrawnPost Win 10000 w (.returned (.slice (some ⟨b, o, none⟩) xs.length c)) (w5.setCell ⟨b, o + i * 6 + 1, none⟩ (.int .i64 (0))) from
          ⟨_, xs.set i {xs[i] with Count := 0}, by simp, ⟨_, c, _, rfl, by simpa using x1, by simpa using x2, x3, hk, KL.out⟩, B5.out.setCell hbw _⟩)
        clear hk K5 B5 KL
        go_wp2
        go_ret
        exact HX.out
      by_cases c1 : v3 = 1
      · subst c1
        obtain ⟨b, o, rfl, hFb, hb, ⟨u, hu⟩, hf, hk⟩ := ks_set1 K5.out i hi {xs[i] with Last := xs[i].High + 1} 5 (.int .i64 (xs[i].High + 1)) (by decide) (win_set5 _ _)
        change w5.cell? ⟨b, o + i * 6 + 5, none⟩ = _ at hu
        change w5.frozen? ⟨b, o + i * 6 + 5, none⟩ = _ at hf
        obtain ⟨_, _, hbo, _, _, g0, g1, g2, g3, g4, g5⟩ := ks_Win K5.out i hi
        cases hbo
        subst hFb
        have hbw : w.heap.size ≤ b := KL.out b (by simp)
        have HX := Lib.hid (show DrawnPost Win 10000 w (.returned (.slice (some ⟨b, o, none⟩) xs.length c)) (w5.setCell ⟨b, o + i * 6 + 5, none⟩ (.int .i64 (xs[i].High + 1))) from
          ⟨_, xs.set i {xs[i] with Last := xs[i].High + 1}, by simp, ⟨_, c, _, rfl, by simpa using x1, by simpa using x2, x3, hk, KL.out⟩, B5.out.setCell hbw _⟩)
        clear hk K5 B5 KL
        go_wp2
        go_ret
        exact HX.out
      by_cases c2 : v3 = 2
      · subst c2
        obtain ⟨b, o, rfl, hFb, hb, ⟨u, hu⟩, hf, hk⟩ := ks_set1 K5.out i hi {xs[i] with From := xs[0].From} 0 (.int .i64 (xs[0].From)) (by decide) (win_set0 _ _)
        change w5.cell? ⟨b, o + i * 6, none⟩ = _ at hu
        change w5.frozen? ⟨b, o + i * 6, none⟩ = _ at hf
        obtain ⟨_, _, hbo, _, _, g0, _⟩ := ks_Win K5.out 0 h0
        cases hbo
        simp only [Nat.zero_mul, Nat.add_zero] at g0
        subst hFb
        have hbw : w.heap.size ≤ b := KL.out b (by simp)
        have HX := Lib.hid (show DrawnPost Win 10000 w (.returned (.slice (some ⟨b, o, none⟩) xs.length c)) (w5.setCell ⟨b, o + i * 6, none⟩ (.int .i64 (xs[0].From))) from
          ⟨_, xs.set i {xs[i] with From := xs[0].From}, by simp, ⟨_, c, _, rfl, by simpa using x1, by simpa using x2, x3, hk, KL.out⟩, B5.out.setCell hbw _⟩)
        clear hk K5 B5 KL
        go_wp2
        go_ret
        exact HX.out
      · obtain ⟨b, o, rfl, hFb, hb, ⟨u, hu⟩, hf, hk⟩ := ks_set1 K5.out i hi {xs[i] with Sum := -1} 2 (.int .i64 (-1)) (by decide) (win_set2 _ _)
        change w5.cell? ⟨b, o + i * 6 + 2, none⟩ = _ at hu
        change w5.frozen? ⟨b, o + i * 6 + 2, none⟩ = _ at hf
        subst hFb
        have hbw : w.heap.size ≤ b := KL.out b (by simp)
        have HX := Lib.hid (show DrawnPost Win 10000 w (.returned (.slice (some ⟨b, o, none⟩) xs.length c)) (w5.setCell ⟨b, o + i * 6 + 2, none⟩ (.int .i64 (-1))) from
          ⟨_, xs.set i {xs[i] with Sum := -1}, by simp, ⟨_, c, _, rfl, by simpa using x1, by simpa using x2, x3, hk, KL.out⟩, B5.out.setCell hbw _⟩)
        clear hk K5 B5 KL
        go_wp2
        go_ret
        exact HX.out
    · have HX := Lib.hid (show DrawnPost Win 10000 w (.returned (.slice A xs.length c)) w5 from
        ⟨_, xs, rfl, ⟨_, c, _, rfl, x1, x2, x3, K5.out, KL.out⟩, B5.out⟩)
      clear K5 KL r5 B5 HF HW
      go_wp2
      go_ret
      exact HX.out
  · have HX := Lib.hid (show DrawnPost Win 10000 w (.returned (.slice A xs.length c)) w4 from
      ⟨_, xs, rfl, ⟨_, c, _, rfl, x1, x2, x3, K4.out, KL.out⟩, B4.out⟩)
    clear K4 KL r4 B4 HF HW
    go_wp2
    go_ret
    exact HX.out
end Go.Proofs.Ytnchefajiedjiaa.AL
