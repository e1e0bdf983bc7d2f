/-
  FnRises, walked.
-/
import Derived.Test.YtnchefajiedjiaaDraw3
import Derived.Test.YtnchefajiedjiaaRisesLaw
namespace Go.Proofs.Ytnchefajiedjiaa.AL
open Go Go.RowKit Go.Proofs
open Ty (KF)
set_option linter.unusedVariables false

set_option maxRecDepth 100000 in
set_option maxHeartbeats 1000000 in
theorem fnRises_calls {A A' : Option Addr} {c c' : Nat} {cs ds : List UInt8} {F F' : Foot} (w : World) (h : KS w A cs F) (hm : cs.length ≤ c) (hc : c ≤ maxLen) (h' : KS w A' ds F') (hm' : ds.length ≤ c') (hc' : c' ≤ maxLen) :
    Calls Try.prog 5 #[.slice A cs.length c, .slice A' ds.length c'] w fun e w' => e = .returned (.bool true) ∧ Below w.heap.size w w' := by
  have n1 := hc; have n2 := hc'
  unfold maxLen at n1 n2
  by_cases hs : cs.length ≤ 1048576
  · by_cases hs' : ds.length ≤ 1048576
    · have P1 := Lib.hid (drawRises_calls w h hm hc); clear h h'
      go_enter Try.func5, Try.ntmps5
      go_wp2_with fail
      refine P1.out.mono ?_
      rintro e w1 ⟨_, xs, rfl, ⟨A1, c1, F1, rfl, x1, x2, x3, k1, k1'⟩, b1⟩
      have x4 := x3
      unfold maxLen at x4
      clear P1
      have P2 := Lib.hid (implRises_calls w1 k1 x2 x3)
      go_wp2_with fail
      refine P2.out.mono ?_
      rintro e w2 ⟨rfl, b2⟩
      clear P2
      have K2 := Lib.hid (k1.below b2); clear k1
      have B2 := Lib.hid (b1.trans (b2.mono b1.size)); clear b1 b2
      have P3 := Lib.hid (specRises_calls w2 K2.out x2 x3)
      go_wp2_with fail
      refine P3.out.mono ?_
      rintro e w3 ⟨rfl, q3⟩
      clear P3
      have K3 := Lib.hid (K2.out.q q3); clear K2
      have B3 := Lib.hid (B2.out.trans ((q3.below _).mono B2.out.size)); clear B2 q3
      have en : (risesOf xs != risesOf xs) = false := by simp
      have ee : (risesOf xs == risesOf xs) = true := by simp
      have P4 := Lib.hid (specSamplesOk_calls w3 K3.out x2 x3)
      go_wp2_with fail
      refine P4.out.mono ?_
      rintro e w4 ⟨rfl, q4⟩
      clear P4
      have K4 := Lib.hid (K3.out.q q4); clear K3
      have B4 := Lib.hid (B3.out.trans ((q4.below _).mono B3.out.size)); clear B3 q4
      have P5 := Lib.hid (specRises_calls w4 K4.out x2 x3)
      by_cases hok : SamOk xs
      · have et : samOk xs = true := samOk_true hok
        by_cases h2 : 2 ≤ xs.length
        · obtain ⟨k, hk⟩ : ∃ k, k = 1 + ds.length % (xs.length - 1) := ⟨_, rfl⟩
          have hk1 : 1 ≤ k := by omega
          have hk2 : k < xs.length := by have := Nat.mod_lt ds.length (show 0 < xs.length - 1 by omega); omega
          have ek : (ds.length : Int) % ((xs.length : Int) - 1) = (k : Int) - 1 := by
            rw [show (xs.length : Int) - 1 = ((xs.length - 1 : Nat) : Int) by omega, ← Int.natCast_emod, hk]; push_cast; omega
          obtain ⟨m, rfl⟩ : ∃ m, k = m + 1 := ⟨k - 1, by omega⟩
          obtain ⟨b, o, rfl⟩ := ks_some K4.out (by omega)
          obtain ⟨G1, _, g1⟩ := ks_take K4.out (m + 1)
          obtain ⟨G2, _, g2⟩ := ks_drop K4.out m
          have l1 : (xs.take (m + 1)).length = m + 1 := by simp; omega
          have l2 : (xs.drop m).length = xs.length - m := by simp
          have p1 := risesOf_parts hok (k := m + 1) (by omega) hk2
          simp only [Nat.add_sub_cancel] at p1
          have p2 := risesOf_ge hok (by omega)
          have p3 := risesOf_bd hok
          have p4 := risesOf_bd (samOk_take hok (m + 1))
          have p5 := risesOf_bd (samOk_drop hok m)
          have rt : ∀ u, Calls Try.prog 15 #[.slice (some ⟨b, o, none⟩) (1 + m) c1] (over w4 u) fun e w' => e = .returned (.int .i64 (risesOf (xs.take (1 + m)))) ∧ Below (over w4 u).heap.size (over w4 u) w' := fun u => by
            have := implRises_calls (over w4 u) (g1.below (over_below w4 u)) (c := c1) (by omega) x3
            rwa [l1, Nat.add_comm m 1] at this
          have rd : ∀ u, Calls Try.prog 15 #[.slice (some ⟨b, o + m * 2, none⟩) (xs.length - m) (c1 - m)] (over w4 u) fun e w' => e = .returned (.int .i64 (risesOf (xs.drop m))) ∧ Below (over w4 u).heap.size (over w4 u) w' := fun u => by
            have := implRises_calls (over w4 u) (g2.below (over_below w4 u)) (c := c1 - m) (by omega) (by unfold maxLen; omega)
            rwa [l2] at this
          have RT := Lib.hid rt; have RD := Lib.hid rd; clear rt rd g1 g2
          obtain ⟨_, _, hbo, hb, _, _, hV0⟩ := ks_Sample K4.out 0 (by omega)
          cases hbo
          obtain ⟨_, _, hbo, _, _, _, hV1⟩ := ks_Sample K4.out (xs.length - 1) (by omega)
          cases hbo
          generalize hR0 : risesOf xs = R at *
          rw [Nat.add_comm m 1] at p1 p4
          generalize hR1 : risesOf (xs.take (1 + m)) = R1 at *
          generalize hR2 : risesOf (xs.drop m) = R2 at *
          subst p1
          simp only [Nat.zero_mul, Nat.add_zero] at hV0
          obtain ⟨_, _, _, v1, v2, _⟩ := hok 0 (by omega)
          obtain ⟨_, _, _, v3, v4, _⟩ := hok (xs.length - 1) (by omega)
          clear hR0 hR1 hR2 K4 P5 hk hs hs'
          go_wp2_with fail
          refine wp_region_over (by kernel_rfl) (by kernel_rfl) ?_
          repeat (go_big_quiet_step ((go_at_call 15; first | with_reducible exact quiet_over (RT.out _) | with_reducible exact quiet_over (RD.out _))))
          refine wpQuiet_nil ?_
          rintro _ ⟨u, rfl⟩
          go_wp2
          go_ret
          exact ⟨rfl, B4.out.trans ((over_below w4 u).mono B4.out.size)⟩
        · go_wp2_with fail
          refine P5.out.mono ?_
          rintro e w5 ⟨rfl, q5⟩
          have B5 := Lib.hid (B4.out.trans ((q5.below _).mono B4.out.size))
          clear K4 B4 q5 P5
          go_wp2
          go_ret
          exact ⟨rfl, B5.out⟩
      · have et : samOk xs = false := by simp [samOk, hok]
        go_wp2_with fail
        refine P5.out.mono ?_
        rintro e w5 ⟨rfl, q5⟩
        have B5 := Lib.hid (B4.out.trans ((q5.below _).mono B4.out.size))
        clear K4 B4 q5 P5
        go_wp2
        go_ret
        exact ⟨rfl, B5.out⟩
    · clear h h'
      go_enter Try.func5, Try.ntmps5
      go_wp2
      go_ret
      exact ⟨rfl, Below.refl _ _⟩
  · clear h h'
    go_enter Try.func5, Try.ntmps5
    go_wp2
    go_ret
    exact ⟨rfl, Below.refl _ _⟩
end Go.Proofs.Ytnchefajiedjiaa.AL
