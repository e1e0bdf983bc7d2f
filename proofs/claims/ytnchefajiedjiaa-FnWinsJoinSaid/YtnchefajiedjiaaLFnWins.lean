/-
  FnWins, walked.
-/
import Derived.Test.YtnchefajiedjiaaDrawW
import Derived.Test.YtnchefajiedjiaaWinsPlain
namespace Go.Proofs.Ytnchefajiedjiaa.AL
open Go Go.RowKit Go.Proofs
set_option linter.unusedVariables false

theorem alWin_calls (x y : Win) (w : World) :
    Calls Try.prog 33 #[.agg #[.int .i64 x.From, .int .i64 x.Count, .int .i64 x.Sum, .int .i64 x.Low, .int .i64 x.High, .int .i64 x.Last], .agg #[.int .i64 y.From, .int .i64 y.Count, .int .i64 y.Sum, .int .i64 y.Low, .int .i64 y.High, .int .i64 y.Last]] w fun e w' => e = .returned (.bool (decide (x = y))) ∧ Below w.heap.size w w' := by
  go_enter Try.func33, Try.ntmps33
  go_wp2
  all_goals (go_ret; exact ⟨ret_bool (by simp_all [Win.eq_iff]), (by repeat' (first | (with_reducible first | assumption | exact Below.refl _ _ | apply Below.drew | apply Below.alloc | apply Below.setCell) | (simp; done) | (simp; omega)))⟩)

theorem winsL_wjok (xs : List Sample) (a b st : Int) : WJOk (winsL xs a b st) := by
  by_cases h : WinsOk xs a b st
  · rw [winsL_ok h]
    obtain ⟨h1, h2, h3⟩ := h
    have hl := cutS_len xs a b
    have hl2 := samOk_len h1
    obtain ⟨i1, i2⟩ := are_ok (winsGo_are h1 (b := b) (step := st) h3.1 10000 a (by omega)) h2.1 (by omega) (by omega)
    exact wjok_of (fun w hw => (i1 w hw).1) i2
  · rw [winsL_no h]; intro k hk; simp at hk
theorem winsL_sums {xs : List Sample} {a b st : Int} (h1 : SamOk xs) (h2 : 0 ≤ a) (h3 : a ≤ b) (h4 : b ≤ 10000) (h5 : 1 ≤ st ∧ st ≤ 9999) : countS (winsL xs a b st) = (cutS xs a b).length ∧ sumS (winsL xs a b st) = sumV (cutS xs a b) := by
  by_cases ha : a ≤ 9999
  · rw [winsL_ok ⟨h1, ⟨h2, ha, h3, h4⟩, h5⟩]
    exact are_sums (winsGo_are h1 h5.1 10000 a (by omega)) h2 h4
  · rw [winsL_no (fun h => ha h.2.1.2.1), cutS_none (by omega)]; simp [countS, sumS, sumV]
theorem countS_succ (ws : List Win) {k : Nat} (hk : k < ws.length) : countS (ws.take (k + 1)) = countS (ws.take k) + ws[k].Count := by
  simp only [countS, List.take_add_one, List.getElem?_eq_getElem hk, List.map_append, List.sum_append]; simp
theorem sumS_succ (ws : List Win) {k : Nat} (hk : k < ws.length) : sumS (ws.take (k + 1)) = sumS (ws.take k) + ws[k].Sum := by
  simp only [sumS, List.take_add_one, List.getElem?_eq_getElem hk, List.map_append, List.sum_append]; simp
theorem sumV_succ (xs : List Sample) {k : Nat} (hk : k < xs.length) : sumV (xs.take (k + 1)) = sumV (xs.take k) + xs[k].V := by
  simp only [sumV, List.take_add_one, List.getElem?_eq_getElem hk, List.map_append, List.sum_append]; simp
theorem ws_bd {ws : List Win} (h : WJOk ws) : ∀ k, k ≤ ws.length → 0 ≤ countS (ws.take k) ∧ countS (ws.take k) ≤ k * 10000 ∧ 0 ≤ sumS (ws.take k) ∧ sumS (ws.take k) ≤ k * 21474836470000
  | 0, _ => by simp [countS, sumS]
  | k + 1, hk => by
    have ih := ws_bd h k (by omega)
    obtain ⟨_, h1, _⟩ := h k (by omega)
    obtain ⟨_, _, b3, b4, _, _, _, b8, b9, _⟩ := wb_of_ok h1
    rw [countS_succ ws (by omega), sumS_succ ws (by omega)]
    omega
theorem sumV_bd {xs : List Sample} (h : ValOk xs) : ∀ k, k ≤ xs.length → 0 ≤ sumV (xs.take k) ∧ sumV (xs.take k) ≤ k * 2147483647
  | 0, _ => by simp [sumV]
  | k + 1, hk => by
    have ih := sumV_bd h k (by omega)
    have hv := h.at k (by omega)
    rw [sumV_succ xs (by omega)]
    omega

set_option maxRecDepth 100000 in
set_option maxHeartbeats 4000000 in
theorem fnWins_calls {A : Option Addr} {c : Nat} {cs : List UInt8} {F : Foot} (w : World) (h : KS w A cs F) (hm : cs.length ≤ c) (hc : c ≤ maxLen) :
    Calls Try.prog 8 #[.slice A cs.length c] w fun e w' => e = .returned (.bool true) ∧ Below w.heap.size w w' := by
  have n1 := hc
  unfold maxLen at n1
  by_cases hs : cs.length ≤ 1048576
  · have P1 := Lib.hid (drawWins_calls w h hm hc); clear h
    go_enter Try.func8, Try.ntmps8
    go_wp2_with fail
    refine P1.out.mono ?_
    rintro e w1 ⟨_, xs, a, b, st, rfl, ⟨A1, c1, F1, rfl, x1, x2, x3, k1, _⟩, b1⟩
    clear P1
    have K1 := Lib.hid k1; have B1 := Lib.hid b1; clear k1 b1
    have P2 := Lib.hid (implWins_calls a b st w1 K1.out x2 x3)
    go_wp2_with fail
    refine P2.out.mono ?_
    rintro e w2 ⟨v2, rfl, o2, b2⟩
    clear P2
    obtain ⟨A2, c2, F2, hv2, y2, y3, k2, _⟩ := o2.out (by simp)
    have K2 := Lib.hid (K1.out.below b2); have B2 := Lib.hid (B1.out.trans (b2.mono B1.out.size)); have KX := Lib.hid k2; clear K1 B1 k2 b2 o2
    have P3 := Lib.hid (specWins_calls a b st w2 K2.out x2 x3)
    have hwl := winsL_len xs a b st
    have hwj := winsL_wjok xs a b st
    have hws := @winsL_sums xs a b st
    have hwn := @winsL_no xs a b st
    generalize winsL xs a b st = ws at *
    cases hv2
    go_wp2_with fail
    refine P3.out.mono ?_
    rintro e w3 ⟨v3, rfl, o3, b3⟩
    clear P3
    obtain ⟨A3, c3, F3, hv3, z2, z3, k3, _⟩ := o3.out (by simp)
    cases hv3
    have K3 := Lib.hid (K2.out.below b3); have B3 := Lib.hid (B2.out.trans (b3.mono B2.out.size)); have KX3 := Lib.hid (KX.out.below b3); have KY3 := Lib.hid k3; clear K2 B2 KX k3 b3 o3
    have HWJ := Lib.hid hwj; have HWS := Lib.hid hws; have HWN := Lib.hid hwn; clear hwj hws hwn
    have ell : ((ws.length : Int) != (ws.length : Int)) = false := by simp
    have y4 := y3; have z4 := z3; have x4 := x3
    unfold maxLen at y4 z4 x4
    go_wp2
    go_loopw [9, 10, 11, 12] (fun n sm i _ wr => ∃ k : Nat, k ≤ ws.length ∧ i = .int .i64 k ∧ n = .int .i64 (countS (ws.take k)) ∧ sm = .int .i64 (sumS (ws.take k)) ∧ Below w3.heap.size w3 wr) (fun _ _ i _ _ => ws.length - (intOf i).toNat)
    case atStart => exact ⟨0, Nat.zero_le _, rfl, by simp [countS], by simp [sumS], Below.refl _ _⟩
    case round =>
      obtain ⟨k, hk, rfl, rfl, rfl, hb⟩ := hrel
      obtain ⟨bd1, bd2, bd3, bd4⟩ := ws_bd HWJ.out k hk
      by_cases hlt : k < ws.length
      · obtain ⟨bx, ox, rfl, hbx, _, g0, g1, g2, g3, g4, g5⟩ := ks_Win (KX3.out.below hb) k hlt
        obtain ⟨by_, oy, rfl, hby, _, h0, h1, h2, h3, h4, h5⟩ := ks_Win (KY3.out.below hb) k hlt
        have hat := HWJ.out k hlt
        obtain ⟨_, hok, hfr⟩ := hat
        obtain ⟨_, _, o3, o4, o5, o6, o7, o8, o9, o10⟩ := hok
        obtain ⟨p1, p2⟩ := mul_bd o5 (by omega) o3 o4
        obtain ⟨p3, p4⟩ := mul_bd (show 0 ≤ ws[k].High by omega) o8 o3 o4
        have hsm : 0 ≤ ws[k].Sum := by omega
        have hsm2 : ws[k].Sum ≤ 21474836470000 := by omega
        have HC := Lib.hid (countS_succ ws hlt); have HSm := Lib.hid (sumS_succ ws hlt)
        have eqd : decide (ws[k] = ws[k]) = true := by simp
        by_cases c2 : 0 < k
        · obtain ⟨m, rfl⟩ : ∃ m, k = m + 1 := ⟨k - 1, by omega⟩
          have hfm : (ws[m]'(by omega)).From < ws[m + 1].From := hfr (by omega)
          have HP : ∃ p0 : wr.cell? ⟨bx, ox + m * 6, none⟩ = some (.int .i64 (ws[m]'(by omega)).From), True := by
            obtain ⟨_, _, hbo, _, _, p0, _⟩ := ks_Win (KX3.out.below hb) m (by omega)
            cases hbo; exact ⟨p0, trivial⟩
          obtain ⟨p0, _⟩ := HP
          clear hfr
          have e1 : decide (ws[m + 1].Count < 1) = false := by simp; omega
          have e2 : decide (ws[m + 1].Last < ws[m + 1].Low) = false := by simp; omega
          have e3 : decide (ws[m + 1].High < ws[m + 1].Last) = false := by simp; omega
          have e4 : decide (ws[m + 1].Sum < ws[m + 1].Low * ws[m + 1].Count) = false := by simp; omega
          have e5 : decide (ws[m + 1].High * ws[m + 1].Count < ws[m + 1].Sum) = false := by simp; omega
          have w1' : IntKind.i64.wrap (ws[m + 1].Low * ws[m + 1].Count) = ws[m + 1].Low * ws[m + 1].Count := by generalize ws[m + 1].Low * ws[m + 1].Count = z at p1 p2; simp [IntKind.wrap, IntKind.bits, IntKind.signed]; omega
          have w2' : IntKind.i64.wrap (ws[m + 1].High * ws[m + 1].Count) = ws[m + 1].High * ws[m + 1].Count := by generalize ws[m + 1].High * ws[m + 1].Count = z at p3 p4; simp [IntKind.wrap, IntKind.bits, IntKind.signed]; omega
          have e7 : decide (ws[m + 1].From ≤ (ws[m]'(by omega)).From) = false := by simp; omega
          have i3 : IntKind.i64.wrap ((m : Int) + 1 - 1) = (m : Int) := by rw [show (m : Int) + 1 - 1 = m by omega]; simp [IntKind.wrap, IntKind.bits, IntKind.signed]; omega
          go_wp2_with fail
          generalize hW : wr.alloc _ = w0
          have q0 : w0.cell? ⟨wr.heap.size, 0, none⟩ = some (.int .i64 ws[m + 1].From) := by rw [← hW]; simp
          have q1 : w0.cell? ⟨wr.heap.size, 1, none⟩ = some (.int .i64 ws[m + 1].Count) := by rw [← hW]; simp
          have q2 : w0.cell? ⟨wr.heap.size, 2, none⟩ = some (.int .i64 ws[m + 1].Sum) := by rw [← hW]; simp
          have q3 : w0.cell? ⟨wr.heap.size, 3, none⟩ = some (.int .i64 ws[m + 1].Low) := by rw [← hW]; simp
          have q4 : w0.cell? ⟨wr.heap.size, 4, none⟩ = some (.int .i64 ws[m + 1].High) := by rw [← hW]; simp
          have q5 : w0.cell? ⟨wr.heap.size, 5, none⟩ = some (.int .i64 ws[m + 1].Last) := by rw [← hW]; simp
          have qs : wr.heap.size < w0.heap.size := by rw [← hW]; simp
          have qb : Below wr.heap.size wr w0 := by rw [← hW]; exact (Below.refl _ _).alloc (Nat.le_refl _) _
          clear hW
          have qsz := qb.size
          have h0' := (qb.cell (p := ⟨by_, oy + (m + 1) * 6, none⟩) hby).trans h0; have h1' := (qb.cell (p := ⟨by_, oy + (m + 1) * 6 + 1, none⟩) hby).trans h1; have h2' := (qb.cell (p := ⟨by_, oy + (m + 1) * 6 + 2, none⟩) hby).trans h2; have h3' := (qb.cell (p := ⟨by_, oy + (m + 1) * 6 + 3, none⟩) hby).trans h3; have h4' := (qb.cell (p := ⟨by_, oy + (m + 1) * 6 + 4, none⟩) hby).trans h4; have h5' := (qb.cell (p := ⟨by_, oy + (m + 1) * 6 + 5, none⟩) hby).trans h5
          have p0w := (qb.cell (p := ⟨bx, ox + m * 6, none⟩) hbx).trans p0
          clear p0
          have hby' : by_ < w0.heap.size := by omega
          have hbx' : bx < w0.heap.size := by omega
          have CB := Lib.hid (hb.trans (qb.mono hb.size))
          clear g0 g1 g2 g3 g4 g5 h0 h1 h2 h3 h4 h5
          refine wp_region_over (by kernel_rfl) (by kernel_rfl) ?_
          repeat (go_big_quiet_step ((go_at_call 33; exact quiet_over (alWin_calls _ _ _))))
          refine wpQuiet_nil ?_
          rintro _ ⟨u, rfl⟩
          have HBu := Lib.hid (CB.out.trans ((over_below w0 u).mono CB.out.size))
          have t0 := (over_below w0 u).cell (p := ⟨wr.heap.size, 0, none⟩) qs |>.trans q0; have t1 := (over_below w0 u).cell (p := ⟨wr.heap.size, 1, none⟩) qs |>.trans q1; have t2 := (over_below w0 u).cell (p := ⟨wr.heap.size, 2, none⟩) qs |>.trans q2; have t3 := (over_below w0 u).cell (p := ⟨wr.heap.size, 3, none⟩) qs |>.trans q3; have t4 := (over_below w0 u).cell (p := ⟨wr.heap.size, 4, none⟩) qs |>.trans q4; have t5 := (over_below w0 u).cell (p := ⟨wr.heap.size, 5, none⟩) qs |>.trans q5
          have hsu := over_size w0 u
          generalize over w0 u = w4 at *
          clear q0 q1 q2 q3 q4 q5 qb
          go_wp2
          go_roundw
          case rel => exact ⟨m + 1 + 1, hlt, by go_num, by rw [HC.out], by rw [HSm.out], HBu.out⟩
          case measure => simp [intOf]; omega
        · have e0 : decide ((0 : Int) < (k : Int)) = false := by simp; omega
          clear hfr
          have e1 : decide (ws[k].Count < 1) = false := by simp; omega
          have e2 : decide (ws[k].Last < ws[k].Low) = false := by simp; omega
          have e3 : decide (ws[k].High < ws[k].Last) = false := by simp; omega
          have e4 : decide (ws[k].Sum < ws[k].Low * ws[k].Count) = false := by simp; omega
          have e5 : decide (ws[k].High * ws[k].Count < ws[k].Sum) = false := by simp; omega
          have w1' : IntKind.i64.wrap (ws[k].Low * ws[k].Count) = ws[k].Low * ws[k].Count := by generalize ws[k].Low * ws[k].Count = z at p1 p2; simp [IntKind.wrap, IntKind.bits, IntKind.signed]; omega
          have w2' : IntKind.i64.wrap (ws[k].High * ws[k].Count) = ws[k].High * ws[k].Count := by generalize ws[k].High * ws[k].Count = z at p3 p4; simp [IntKind.wrap, IntKind.bits, IntKind.signed]; omega
          go_wp2_with fail
          generalize hW : wr.alloc _ = w0
          have q0 : w0.cell? ⟨wr.heap.size, 0, none⟩ = some (.int .i64 ws[k].From) := by rw [← hW]; simp
          have q1 : w0.cell? ⟨wr.heap.size, 1, none⟩ = some (.int .i64 ws[k].Count) := by rw [← hW]; simp
          have q2 : w0.cell? ⟨wr.heap.size, 2, none⟩ = some (.int .i64 ws[k].Sum) := by rw [← hW]; simp
          have q3 : w0.cell? ⟨wr.heap.size, 3, none⟩ = some (.int .i64 ws[k].Low) := by rw [← hW]; simp
          have q4 : w0.cell? ⟨wr.heap.size, 4, none⟩ = some (.int .i64 ws[k].High) := by rw [← hW]; simp
          have q5 : w0.cell? ⟨wr.heap.size, 5, none⟩ = some (.int .i64 ws[k].Last) := by rw [← hW]; simp
          have qs : wr.heap.size < w0.heap.size := by rw [← hW]; simp
          have qb : Below wr.heap.size wr w0 := by rw [← hW]; exact (Below.refl _ _).alloc (Nat.le_refl _) _
          clear hW
          have qsz := qb.size
          have h0' := (qb.cell (p := ⟨by_, oy + k * 6, none⟩) hby).trans h0; have h1' := (qb.cell (p := ⟨by_, oy + k * 6 + 1, none⟩) hby).trans h1; have h2' := (qb.cell (p := ⟨by_, oy + k * 6 + 2, none⟩) hby).trans h2; have h3' := (qb.cell (p := ⟨by_, oy + k * 6 + 3, none⟩) hby).trans h3; have h4' := (qb.cell (p := ⟨by_, oy + k * 6 + 4, none⟩) hby).trans h4; have h5' := (qb.cell (p := ⟨by_, oy + k * 6 + 5, none⟩) hby).trans h5
          have hby' : by_ < w0.heap.size := by omega
          have hbx' : bx < w0.heap.size := by omega
          have CB := Lib.hid (hb.trans (qb.mono hb.size))
          clear g0 g1 g2 g3 g4 g5 h0 h1 h2 h3 h4 h5
          refine wp_region_over (by kernel_rfl) (by kernel_rfl) ?_
          repeat (go_big_quiet_step ((go_at_call 33; exact quiet_over (alWin_calls _ _ _))))
          refine wpQuiet_nil ?_
          rintro _ ⟨u, rfl⟩
          have HBu := Lib.hid (CB.out.trans ((over_below w0 u).mono CB.out.size))
          have t0 := (over_below w0 u).cell (p := ⟨wr.heap.size, 0, none⟩) qs |>.trans q0; have t1 := (over_below w0 u).cell (p := ⟨wr.heap.size, 1, none⟩) qs |>.trans q1; have t2 := (over_below w0 u).cell (p := ⟨wr.heap.size, 2, none⟩) qs |>.trans q2; have t3 := (over_below w0 u).cell (p := ⟨wr.heap.size, 3, none⟩) qs |>.trans q3; have t4 := (over_below w0 u).cell (p := ⟨wr.heap.size, 4, none⟩) qs |>.trans q4; have t5 := (over_below w0 u).cell (p := ⟨wr.heap.size, 5, none⟩) qs |>.trans q5
          have hsu := over_size w0 u
          generalize over w0 u = w4 at *
          clear q0 q1 q2 q3 q4 q5 qb
          go_wp2
          go_roundw
          case rel => exact ⟨k + 1, hlt, by go_num, by rw [HC.out], by rw [HSm.out], HBu.out⟩
          case measure => simp [intOf]; omega
      · obtain rfl : k = ws.length := by omega
        rw [List.take_length] at bd1 bd2 bd3 bd4 ⊢
        have P4 := Lib.hid (specSamplesOk_calls wr (K3.out.below hb) x2 x3)
        by_cases hok : SamOk xs
        · have et : samOk xs = true := samOk_true hok
          by_cases r1 : 0 ≤ a
          · by_cases r2 : a ≤ b
            · by_cases r3 : b ≤ 10000
              · by_cases r4 : 1 ≤ st
                · by_cases r5 : st ≤ 9999
                  · obtain ⟨s1, s2⟩ := HWS.out hok r1 r2 r3 ⟨r4, r5⟩
                    have hcl := cutS_len xs a b
                    have hval := hok.val.cut a b
                    have HOK := Lib.hid hok
                    go_wp2_with fail
                    refine P4.out.mono ?_
                    rintro e w4 ⟨rfl, q4⟩
                    have hb4 := hb.trans (q4.below _ |>.mono hb.size)
                    have P5 := Lib.hid (implSamplesCut_calls a b w4 (K3.out.below hb4) x2 x3 HOK.out)
                    clear q4 P4 hok
                    go_wp2_with fail
                    refine P5.out.mono ?_
                    rintro e w5 ⟨_, rfl, ⟨A5, c5, F5, rfl, u1, u2, u3, k5, _⟩, b5⟩
                    have hb5 := hb4.trans (b5.mono hb4.size)
                    have B5 := Lib.hid (B3.out.trans (hb5.mono B3.out.size))
                    clear P5 b5 hb4 hb5 HOK
                    generalize cutS xs a b = zs at *
                    have u4 := u3
                    unfold maxLen at u4
                    have K5 := Lib.hid k5; have HV := Lib.hid hval; clear k5 hval K3 KX3 KY3 hb
                    go_wp2
                    go_loopw [14, 15] (fun al i wr' => ∃ k : Nat, k ≤ zs.length ∧ i = .int .i64 k ∧ al = .int .i64 (sumV (zs.take k)) ∧ Q w5 wr') (fun _ i _ => zs.length - (intOf i).toNat)
                    case atStart => exact ⟨0, Nat.zero_le _, rfl, by simp [sumV], Q.refl _⟩
                    case round =>
                      obtain ⟨k, hk', rfl, rfl, hq⟩ := hrel
                      obtain ⟨v1, v2⟩ := sumV_bd HV.out k hk'
                      by_cases hlt' : k < zs.length
                      · obtain ⟨bz, oz, rfl, hbz, _, _, gz⟩ := ks_Sample (K5.out.q hq) k hlt'
                        obtain ⟨v3, v4⟩ := HV.out.at k hlt'
                        have HS := Lib.hid (sumV_succ zs hlt')
                        go_wp2
                        go_roundw
                        case rel => exact ⟨k + 1, hlt', by go_num, by rw [HS.out], hq⟩
                        case measure => simp [intOf]; omega
                      · obtain rfl : k = zs.length := by omega
                        rw [List.take_length] at v1 v2 ⊢
                        have f1 : (countS ws == (zs.length : Int)) = true := by simp [s1]
                        have f2 : (sumS ws == sumV zs) = true := by simp [s2]
                        have HBB := Lib.hid (B5.out.trans ((hq.below _).mono B5.out.size))
                        go_wp2
                        go_ret
                        exact ⟨rfl, HBB.out⟩
                  · have e0 : ((ws.length : Int) == 0) = true := by
                      have := HWN.out (fun hh => r5 hh.2.2.2)
                      rw [this]; rfl
                    go_wp2_with fail
                    refine P4.out.mono ?_
                    rintro e w4 ⟨rfl, q4⟩
                    have HBB := Lib.hid (B3.out.trans ((hb.trans (q4.below _ |>.mono hb.size)).mono B3.out.size))
                    clear q4 P4 K3 KX3 KY3
                    go_wp2
                    go_ret
                    exact ⟨rfl, HBB.out⟩
                · have e0 : ((ws.length : Int) == 0) = true := by
                    have := HWN.out (fun hh => r4 hh.2.2.1)
                    rw [this]; rfl
                  go_wp2_with fail
                  refine P4.out.mono ?_
                  rintro e w4 ⟨rfl, q4⟩
                  have HBB := Lib.hid (B3.out.trans ((hb.trans (q4.below _ |>.mono hb.size)).mono B3.out.size))
                  clear q4 P4 K3 KX3 KY3
                  go_wp2
                  go_ret
                  exact ⟨rfl, HBB.out⟩
              · have e0 : ((ws.length : Int) == 0) = true := by
                  have := HWN.out (fun hh => r3 hh.2.1.2.2.2)
                  rw [this]; rfl
                go_wp2_with fail
                refine P4.out.mono ?_
                rintro e w4 ⟨rfl, q4⟩
                have HBB := Lib.hid (B3.out.trans ((hb.trans (q4.below _ |>.mono hb.size)).mono B3.out.size))
                clear q4 P4 K3 KX3 KY3
                go_wp2
                go_ret
                exact ⟨rfl, HBB.out⟩
            · have e0 : ((ws.length : Int) == 0) = true := by
                have := HWN.out (fun hh => r2 hh.2.1.2.2.1)
                rw [this]; rfl
              go_wp2_with fail
              refine P4.out.mono ?_
              rintro e w4 ⟨rfl, q4⟩
              have HBB := Lib.hid (B3.out.trans ((hb.trans (q4.below _ |>.mono hb.size)).mono B3.out.size))
              clear q4 P4 K3 KX3 KY3
              go_wp2
              go_ret
              exact ⟨rfl, HBB.out⟩
          · have e0 : ((ws.length : Int) == 0) = true := by
              have := HWN.out (fun hh => r1 hh.2.1.1)
              rw [this]; rfl
            go_wp2_with fail
            refine P4.out.mono ?_
            rintro e w4 ⟨rfl, q4⟩
            have HBB := Lib.hid (B3.out.trans ((hb.trans (q4.below _ |>.mono hb.size)).mono B3.out.size))
            clear q4 P4 K3 KX3 KY3
            go_wp2
            go_ret
            exact ⟨rfl, HBB.out⟩
        · have et : samOk xs = false := by simp [samOk, hok]
          have e0 : ((ws.length : Int) == 0) = true := by
            have := HWN.out (fun hh => hok hh.1)
            rw [this]; rfl
          go_wp2_with fail
          refine P4.out.mono ?_
          rintro e w4 ⟨rfl, q4⟩
          have HBB := Lib.hid (B3.out.trans ((hb.trans (q4.below _ |>.mono hb.size)).mono B3.out.size))
          clear q4 P4 K3 KX3 KY3
          go_wp2
          go_ret
          exact ⟨rfl, HBB.out⟩
  · clear h
    go_enter Try.func8, Try.ntmps8
    go_wp2
    go_ret
    exact ⟨rfl, Below.refl _ _⟩
end Go.Proofs.Ytnchefajiedjiaa.AL
