/-
  FnWinsJoin, walked.
-/
import Derived.Test.YtnchefajiedjiaaLFnWins
namespace Go.Proofs.Ytnchefajiedjiaa.AL
open Go Go.RowKit Go.Proofs
set_option linter.unusedVariables false

theorem winsL_join {xs : List Sample} {a b st : Int} (h0 : 0 < (winsL xs a b st).length) :
    SamOk xs ∧ cutS xs a b ≠ [] ∧ winsJoin (winsL xs a b st) = (winF ((winsL xs a b st)[0]'h0).From (cutS xs a b), true) ∧ 0 ≤ ((winsL xs a b st)[0]'h0).From ∧ ((winsL xs a b st)[0]'h0).From ≤ 9999 := by
  by_cases h : WinsOk xs a b st
  · have e := winsL_ok h
    have hwj := winsL_wjok xs a b st
    generalize winsL xs a b st = ws at *
    obtain ⟨h1, h2, h3⟩ := h
    have hl := cutS_len xs a b
    have hl2 := samOk_len h1
    have har := winsGo_are h1 (b := b) (step := st) h3.1 10000 a (by omega)
    rw [← e] at har
    obtain ⟨i1, i2⟩ := are_fold har h0
    obtain ⟨_, hok, _⟩ := hwj 0 h0
    refine ⟨h1, i1, ?_, hok.1, hok.2.1⟩
    rw [winsJoin_yes h0 hwj (by rw [i2]; have := (winF_ws (h1.val.cut a b) i1 ⟨hok.1, hok.2.1⟩).2.1; omega), i2]
  · rw [winsL_no h] at h0; simp at h0

set_option maxRecDepth 100000 in
set_option maxHeartbeats 4000000 in
theorem fnWinsJoin_calls {A : Option Addr} {c : Nat} {cs : List UInt8} {F : Foot} (w : World) (h : KS w A cs F) (hm : cs.length ≤ c) (hc : c ≤ maxLen) :
    Calls Try.prog 10 #[.slice A cs.length c] w fun e w' => e = .returned (.bool true) ∧ Below w.heap.size w w' := by
  have n1 := hc
  unfold maxLen at n1
  by_cases hs : cs.length ≤ 1048576
  · have P1 := Lib.hid (drawWins_calls w h hm hc); clear h
    go_enter Try.func10, Try.ntmps10
    go_wp2_with fail
    refine P1.out.mono ?_
    rintro e w1 ⟨_, xs, a, b, st, rfl, ⟨A1, c1, F1, rfl, x1, x2, x3, k1, _⟩, b1⟩
    clear P1
    have K1 := Lib.hid k1; have B1 := Lib.hid b1; clear k1 b1
    have P2 := Lib.hid (implWins_calls a b st w1 K1.out x2 x3)
    go_wp2_with fail
    refine P2.out.mono ?_
    rintro e w2 ⟨v2, rfl, o2, b2⟩
    clear P2
    obtain ⟨A2, c2, F2, hv2, y2, y3, k2, _⟩ := o2.out (by simp)
    have K := Lib.hid (K1.out.below b2); have HB := Lib.hid (B1.out.trans (b2.mono B1.out.size)); have KX := Lib.hid k2; clear K1 B1 k2 b2 o2
    have hwl := winsL_len xs a b st
    have y4 := y3; have x4 := x3
    unfold maxLen at y4 x4
    cases hv2
    by_cases hw : 0 < (winsL xs a b st).length
    · obtain ⟨hok, hne, hj, hf1, hf2⟩ := winsL_join hw
      have HNE := Lib.hid hne
      have HWF := Lib.hid (winF_ws (hok.val.cut a b) HNE.out ⟨hf1, hf2⟩)
      have HJ := Lib.hid hj; have HOK := Lib.hid hok; clear hok hne hj
      generalize winsL xs a b st = ws at *
      have e00 : ((ws.length : Int) == 0) = false := beq_eq_false_iff_ne.2 (by omega)
      go_wp2_with fail
      have P := Lib.hid (implWinsJoin_calls w2 KX.out y2 y3)
      refine P.out.mono ?_
      rintro e w3 ⟨rfl, b⟩
      clear P
      replace K := Lib.hid (K.out.below b)
      replace KX := Lib.hid (KX.out.below b)
      replace HB := Lib.hid (HB.out.trans (b.mono HB.out.size))
      clear b
      go_wp2_with fail
      have bx := Blk.new w3 [.int .i64 (winsJoin ws).1.From, .int .i64 (winsJoin ws).1.Count, .int .i64 (winsJoin ws).1.Sum, .int .i64 (winsJoin ws).1.Low, .int .i64 (winsJoin ws).1.High, .int .i64 (winsJoin ws).1.Last] 41
      have b := (Below.refl w3.heap.size w3).alloc (Nat.le_refl _) (.cells #[.int .i64 (winsJoin ws).1.From, .int .i64 (winsJoin ws).1.Count, .int .i64 (winsJoin ws).1.Sum, .int .i64 (winsJoin ws).1.Low, .int .i64 (winsJoin ws).1.High, .int .i64 (winsJoin ws).1.Last] 41)
      replace K := Lib.hid (K.out.below b)
      replace KX := Lib.hid (KX.out.below b)
      replace HB := Lib.hid (HB.out.trans (b.mono HB.out.size))
      generalize hW : w3.alloc _ = w4 at bx HB K KX ⊢
      clear hW b
      generalize hA : w3.heap.size = a_p at bx ⊢
      have X_p := Lib.hid bx; clear bx hA
      have P := Lib.hid (specWinsJoin_calls w4 KX.out y2 y3)
      refine P.out.mono ?_
      rintro e w5 ⟨rfl, b⟩
      clear P
      replace K := Lib.hid (K.out.below b)
      replace KX := Lib.hid (KX.out.below b)
      replace X_p := Lib.hid (X_p.out.below b X_p.out.lt)
      replace HB := Lib.hid (HB.out.trans (b.mono HB.out.size))
      clear b
      have r0 := X_p.out.cell 0 rfl; have r1 := X_p.out.cell 1 rfl; have r2 := X_p.out.cell 2 rfl; have r3 := X_p.out.cell 3 rfl; have r4 := X_p.out.cell 4 rfl; have r5 := X_p.out.cell 5 rfl; have rl := X_p.out.lt; have rn : a_p ≠ w5.heap.size := Nat.ne_of_lt X_p.out.lt
      have en : ((winsJoin ws).2 != (winsJoin ws).2) = false := by simp
      have et : (winsJoin ws).2 = true := by rw [HJ.out]
      go_wp2_with fail
      clear r0 r1 r2 r3 r4 r5 rl rn
      have bx := Blk.new w5 [.int .i64 (winsJoin ws).1.From, .int .i64 (winsJoin ws).1.Count, .int .i64 (winsJoin ws).1.Sum, .int .i64 (winsJoin ws).1.Low, .int .i64 (winsJoin ws).1.High, .int .i64 (winsJoin ws).1.Last] 41
      have b := (Below.refl w5.heap.size w5).alloc (Nat.le_refl _) (.cells #[.int .i64 (winsJoin ws).1.From, .int .i64 (winsJoin ws).1.Count, .int .i64 (winsJoin ws).1.Sum, .int .i64 (winsJoin ws).1.Low, .int .i64 (winsJoin ws).1.High, .int .i64 (winsJoin ws).1.Last] 41)
      replace K := Lib.hid (K.out.below b)
      replace KX := Lib.hid (KX.out.below b)
      replace X_p := Lib.hid (X_p.out.below b X_p.out.lt)
      replace HB := Lib.hid (HB.out.trans (b.mono HB.out.size))
      generalize hW : w5.alloc _ = w6 at bx HB K KX X_p ⊢
      clear hW b
      generalize hA : w5.heap.size = a_q at bx ⊢
      have X_q := Lib.hid bx; clear bx hA
      clear X_q
      have P5 := Lib.hid (implSamplesCut_calls a b w6 K.out x2 x3 HOK.out)
      refine P5.out.mono ?_
      rintro e w7 ⟨_, rfl, ⟨A5, c5, F5, rfl, u1, u2, u3, k5, _⟩, b⟩
      clear P5 K
      replace KX := Lib.hid (KX.out.below b); replace X_p := Lib.hid (X_p.out.below b X_p.out.lt); replace HB := Lib.hid (HB.out.trans (b.mono HB.out.size))
      clear b
      generalize cutS xs a b = zs at *
      have u4 := u3
      unfold maxLen at u4
      have K5 := Lib.hid k5; clear k5
      have h0 : 0 < zs.length := List.length_pos_iff.2 HNE.out
      rw [HJ.out] at X_p
      simp only at X_p
      obtain ⟨bz, oz, rfl, hbz, _, _, gz0⟩ := ks_Sample K5.out 0 h0
      simp only [Nat.zero_mul, Nat.add_zero] at gz0
      go_wp2
      go_loopw [13, 14, 15] (fun lo hi i wr => ∃ k : Nat, k ≤ zs.length ∧ i = .int .i64 k ∧ lo = .int .i64 (winTo (ws[0]'hw).From zs k).Low ∧ hi = .int .i64 (winTo (ws[0]'hw).From zs k).High ∧ Q w7 wr) (fun _ _ i _ => zs.length - (intOf i).toNat)
      case atStart => exact ⟨0, Nat.zero_le _, rfl, by rw [winTo_zero h0], by rw [winTo_zero h0], Q.refl _⟩
      case round =>
        obtain ⟨k, hk, rfl, rfl, rfl, hq⟩ := hrel
        by_cases hlt : k < zs.length
        · obtain ⟨_, _, hbo, hbz', _, _, gz⟩ := ks_Sample (K5.out.q hq) k hlt
          cases hbo
          have HS := Lib.hid (winTo_succ (a := (ws[0]'hw).From) hlt)
          generalize winTo (ws[0]'hw).From zs k = W at *
          by_cases c4 : zs[k].V < W.Low
          all_goals (by_cases c5 : W.High < zs[k].V)
          all_goals (
            go_wp2
            go_roundw
            case rel => exact ⟨k + 1, hlt, by go_num, by rw [HS.out]; simp [winAdd]; omega, by rw [HS.out]; simp [winAdd]; omega, hq⟩
            case measure => simp [intOf]; omega)
        · obtain rfl : k = zs.length := by omega
          have ef : winTo (ws[0]'hw).From zs zs.length = winF (ws[0]'hw).From zs := rfl
          rw [ef]
          obtain ⟨_, f2, f3, f4⟩ := HWF.out
          have hgl : (zs.getLast HNE.out) = zs[zs.length - 1]'(by omega) := by rw [List.getLast_eq_getElem]
          rw [hgl] at f4
          obtain ⟨_, _, hbo, hbz', _, _, gz⟩ := ks_Sample (K5.out.q hq) (zs.length - 1) (by omega)
          cases hbo
          obtain ⟨bw, ow, rfl, hbw, _, gw, _⟩ := ks_Win ((KX.out).q hq) 0 hw
          simp only [Nat.zero_mul, Nat.add_zero] at gw
          have XP := X_p.out.below (hq.below w7.heap.size) X_p.out.lt
          have r0 := XP.cell 0 rfl; have r1 := XP.cell 1 rfl; have r2 := XP.cell 2 rfl; have r3 := XP.cell 3 rfl; have r4 := XP.cell 4 rfl; have r5 := XP.cell 5 rfl
          clear XP
          have e1 : ((winF (ws[0]'hw).From zs).Count == (zs.length : Int)) = true := by simp [f2]
          have e2 : ((winF (ws[0]'hw).From zs).Low == (winF (ws[0]'hw).From zs).Low) = true := by simp
          have e3 : ((winF (ws[0]'hw).From zs).High == (winF (ws[0]'hw).From zs).High) = true := by simp
          have e4 : ((winF (ws[0]'hw).From zs).Last == (zs[zs.length - 1]'(by omega)).V) = true := by simp [f4]
          have e5 : ((winF (ws[0]'hw).From zs).From == (ws[0]'hw).From) = true := by simp [f3]
          clear ef HWF HJ
          have HBB := Lib.hid (HB.out.trans ((hq.below _).mono HB.out.size))
          go_wp2_with fail
          go_quiet (fail)
          go_wp2
          go_ret
          exact ⟨rfl, HBB.out.trans (((Q.drewN _ _).below _).mono HBB.out.size)⟩
    · have P3 := Lib.hid (specWins_calls a b st w2 K.out x2 x3)
      have e00 : (((winsL xs a b st).length : Int) == 0) = true := beq_iff_eq.2 (by omega)
      generalize winsL xs a b st = ws at *
      go_wp2_with fail
      refine P3.out.mono ?_
      rintro e w3 ⟨v3, rfl, o3, b3⟩
      clear P3
      obtain ⟨A3, c3, F3, hv3, z2, z3, k3, _⟩ := o3.out (by simp)
      cases hv3
      have B3 := Lib.hid (HB.out.trans (b3.mono HB.out.size))
      clear k3 b3 o3
      go_wp2
      go_ret
      exact ⟨rfl, B3.out⟩
  · clear h
    go_enter Try.func10, Try.ntmps10
    go_wp2
    go_ret
    exact ⟨rfl, Below.refl _ _⟩
end Go.Proofs.Ytnchefajiedjiaa.AL
