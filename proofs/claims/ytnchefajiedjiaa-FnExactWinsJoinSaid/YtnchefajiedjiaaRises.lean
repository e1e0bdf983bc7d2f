/-
  By how much samples rise: the program's way and the reference's.
-/
import Derived.Test.YtnchefajiedjiaaSam
import Derived.Test.YtnchefajiedjiaaHSam
namespace Go.Proofs.Ytnchefajiedjiaa.AL
open Go Go.RowKit Go.Proofs
open Ty (KF)

theorem isTime_calls (a : Int) (w : World) :
    Calls Try.prog 64 #[.int .i64 a] w fun e w' => e = .returned (.bool (decide (0 ≤ a) && decide (a ≤ 9999))) ∧ w' = w := by
  go_enter Try.func64, Try.ntmps64
  go_wp2
  all_goals (go_ret; exact ⟨by simp [*] <;> omega, rfl⟩)

theorem isValue_calls (a : Int) (w : World) :
    Calls Try.prog 65 #[.int .i64 a] w fun e w' => e = .returned (.bool (decide (0 ≤ a) && decide (a ≤ 2147483647))) ∧ w' = w := by
  go_enter Try.func65, Try.ntmps65
  go_wp2
  all_goals (go_ret; exact ⟨by simp [*] <;> omega, rfl⟩)

theorem samplesOk_calls {A : Option Addr} {c : Nat} {xs : List Sample} {F : Foot} (w : World) (h : KS w A xs F) (hm : xs.length ≤ c) (hc : c ≤ maxLen) :
    Calls Try.prog 42 #[.slice A xs.length c] w fun e w' => e = .returned (.bool (samOk xs)) ∧ Below w.heap.size w w' := by
  unfold maxLen at hc
  have H := Lib.hid h; clear h
  go_enter Try.func42, Try.ntmps42
  go_wp2
  go_loopw [7] (fun i wr => ∃ k : Nat, k ≤ xs.length ∧ i = .int .i64 k ∧ (∀ j, j < k → OkAt xs j) ∧ Below w.heap.size w wr) (fun i _ => xs.length - (intOf i).toNat)
  case atStart => exact ⟨0, Nat.zero_le _, rfl, upTo_zero, Below.refl _ _⟩
  case round =>
    obtain ⟨k, hk, rfl, hok, hb⟩ := hrel
    have HO := Lib.hid hok; clear hok
    by_cases hlt : k < xs.length
    · obtain ⟨b, o, rfl, hb1, _, hT, hV⟩ := ks_Sample (H.out.below hb) k hlt
      have rel : OkAt xs k → ∀ u n, ∃ k' : Nat, k' ≤ xs.length ∧ Value.int IntKind.i64 (↑k + 1) = .int .i64 k' ∧ (∀ j, j < k' → OkAt xs j) ∧ Below w.heap.size w ((wr.alloc u).drewN n) :=
        fun hn u n => ⟨k + 1, by omega, by go_num, upTo_succ HO.out hn, (hb.alloc hb.size u).trans ((Q.drewN _ n).below _)⟩
      have bad : ¬ OkAt xs k → samOk xs = false := samOk_false hlt
      have BEL : ∀ u n, Hid (Below w.heap.size w ((wr.alloc u).drewN n)) := fun u n => Lib.hid ((hb.alloc hb.size u).trans ((Q.drewN _ n).below _))
      have REL := Lib.hid rel; have BAD := Lib.hid bad; clear rel bad
      have BE := Lib.hid BEL; clear BEL
      by_cases c1 : 0 ≤ xs[k].T ∧ xs[k].T ≤ 9999
      · have e1 : (decide (0 ≤ xs[k].T) && decide (xs[k].T ≤ 9999)) = true := by simp [c1]
        by_cases c2 : 0 ≤ xs[k].V ∧ xs[k].V ≤ 2147483647
        · have e2 : (decide (0 ≤ xs[k].V) && decide (xs[k].V ≤ 2147483647)) = true := by simp [c2]
          by_cases c3 : 0 < k
          · obtain ⟨m, rfl⟩ : ∃ m, k = m + 1 := ⟨k - 1, by omega⟩
            obtain ⟨_, _, hbo, _, _, hT', _⟩ := ks_Sample (H.out.below hb) m (by omega)
            cases hbo
            clear hb
            by_cases c4 : xs[m].T < xs[m + 1].T
            · have HN := Lib.hid (show OkAt xs (m + 1) from ⟨hlt, c1.1, c1.2, c2.1, c2.2, fun h => c4⟩)
              clear c1 c2
              go_wp2_with fail
              go_quiet ((first | (go_at_call 64; exact Calls.quiet_of_same (isTime_calls _ _)) | (go_at_call 65; exact Calls.quiet_of_same (isValue_calls _ _))))
              go_wp2
              go_roundw
              case rel => exact REL.out HN.out _ _
              case measure => simp [intOf]; omega
            · have HN := Lib.hid (show ¬ OkAt xs (m + 1) from fun ⟨_, _, _, _, _, h⟩ => c4 (h (by omega)))
              clear c1 c2
              go_wp2_with fail
              go_quiet ((first | (go_at_call 64; exact Calls.quiet_of_same (isTime_calls _ _)) | (go_at_call 65; exact Calls.quiet_of_same (isValue_calls _ _))))
              go_wp2
              go_ret
              exact ⟨ret_bool (BAD.out HN.out).symm, (BE.out _ _).out⟩
          · have e0 : decide ((0 : Int) < (k : Int)) = false := by simp; omega
            have HN := Lib.hid (show OkAt xs k from ⟨hlt, c1.1, c1.2, c2.1, c2.2, fun h => absurd h c3⟩)
            clear c1 c2
            go_wp2_with fail
            go_quiet ((first | (go_at_call 64; exact Calls.quiet_of_same (isTime_calls _ _)) | (go_at_call 65; exact Calls.quiet_of_same (isValue_calls _ _))))
            go_wp2
            go_roundw
            case rel => exact REL.out HN.out _ _
            case measure => simp [intOf]; omega
        · have e2 : (decide (0 ≤ xs[k].V) && decide (xs[k].V ≤ 2147483647)) = false := by simp; omega
          have HN := Lib.hid (show ¬ OkAt xs k from fun ⟨_, _, _, h1, h2, _⟩ => c2 ⟨h1, h2⟩)
          clear c1 c2
          go_wp2_with fail
          go_quiet ((first | (go_at_call 64; exact Calls.quiet_of_same (isTime_calls _ _)) | (go_at_call 65; exact Calls.quiet_of_same (isValue_calls _ _))))
          go_wp2
          go_ret
          exact ⟨ret_bool (BAD.out HN.out).symm, (BE.out _ _).out⟩
      · have e1 : (decide (0 ≤ xs[k].T) && decide (xs[k].T ≤ 9999)) = false := by simp; omega
        have HN := Lib.hid (show ¬ OkAt xs k from fun ⟨_, h1, h2, _⟩ => c1 ⟨h1, h2⟩)
        clear c1
        go_wp2_with fail
        go_quiet ((first | (go_at_call 64; exact Calls.quiet_of_same (isTime_calls _ _)) | (go_at_call 65; exact Calls.quiet_of_same (isValue_calls _ _))))
        go_wp2
        go_ret
        exact ⟨ret_bool (BAD.out HN.out).symm, (BE.out _ _).out⟩
    · obtain rfl : k = xs.length := by omega
      go_wp2
      go_ret
      exact ⟨ret_bool (samOk_true HO.out).symm, hb⟩

/-- By how much samples rise, up to place k. -/
def rise (a b : Sample) : Int := if a.V ≤ b.V then b.V - a.V else b.V
def risesTo (xs : List Sample) : Nat → Int
  | 0 => 0
  | 1 => 0
  | k + 2 => risesTo xs (k + 1) + rise (xs.getD k ⟨0, 0⟩) (xs.getD (k + 1) ⟨0, 0⟩)
theorem risesTo_succ (xs : List Sample) {k : Nat} (hk : k + 1 < xs.length) : risesTo xs (k + 2) = risesTo xs (k + 1) + rise xs[k] xs[k + 1] := by
  simp only [risesTo, List.getD, List.getElem?_eq_getElem hk, List.getElem?_eq_getElem (show k < xs.length by omega), Option.getD_some]
theorem rise_bd {xs : List Sample} (h : SamOk xs) {k : Nat} (hk : k + 1 < xs.length) : 0 ≤ rise xs[k] xs[k + 1] ∧ rise xs[k] xs[k + 1] ≤ 2147483647 := by
  obtain ⟨h1, _, _, h2, h3, _⟩ := h k (by omega)
  obtain ⟨h4, _, _, h5, h6, _⟩ := h (k + 1) hk
  unfold rise
  split <;> omega
theorem risesTo_bd {xs : List Sample} (h : SamOk xs) : ∀ k, k ≤ xs.length → 0 ≤ risesTo xs k ∧ risesTo xs k ≤ k * 2147483647
  | 0, _ => by simp [risesTo]
  | 1, _ => by simp [risesTo]
  | k + 2, hk => by
    have h1 := risesTo_bd h (k + 1) (by omega)
    have h2 := rise_bd h (k := k) (by omega)
    rw [risesTo_succ xs (by omega)]
    omega
theorem samOk_len {xs : List Sample} (h : SamOk xs) : xs.length ≤ 10000 := by
  have : ∀ i (hi : i < xs.length), (i : Int) ≤ xs[i].T := by
    intro i
    induction i with
    | zero => intro hi; obtain ⟨_, h1, _⟩ := h 0 hi; simpa using h1
    | succ i ih =>
      intro hi
      obtain ⟨_, _, _, _, _, h1⟩ := h (i + 1) hi
      have := ih (by omega)
      have := h1 (by omega)
      simp only [Nat.add_sub_cancel] at this
      push_cast
      omega
  by_cases h0 : xs.length = 0
  · omega
  · have h1 := this (xs.length - 1) (by omega)
    obtain ⟨_, _, h2, _⟩ := h (xs.length - 1) (by omega)
    omega
noncomputable def risesOf (xs : List Sample) : Int := if samOk xs then risesTo xs (if xs.length = 0 then 1 else xs.length) else 0

theorem specRises_calls {A : Option Addr} {c : Nat} {xs : List Sample} {F : Foot} (w : World) (h : KS w A xs F) (hm : xs.length ≤ c) (hc : c ≤ maxLen) :
    Calls Try.prog 13 #[.slice A xs.length c] w fun e w' => e = .returned (.int .i64 (risesOf xs)) ∧ Q w w' := by
  have hc' := hc
  unfold maxLen at hc'
  have H := Lib.hid h
  by_cases hok : SamOk xs
  · have HK := Lib.hid hok
    have et : samOk xs = true := samOk_true hok
    have hlen := samOk_len hok
    have HRS := Lib.hid (show risesOf xs = risesTo xs (if xs.length = 0 then 1 else xs.length) by simp [risesOf, et])
    clear hok
    go_enter Try.func13, Try.ntmps13
    go_wp2_with ((go_at_call 40; refine (l2Ok_calls _ h hm hc).mono ?_; rintro e w1 ⟨rfl, hq1⟩))
    clear h et
    go_loopw [3, 4] (fun n i wr => ∃ k : Nat, (k + 1 ≤ xs.length ∨ k = 0) ∧ i = .int .i64 (k + 1 : Nat) ∧ n = .int .i64 (risesTo xs (k + 1)) ∧ Q w wr) (fun _ i _ => xs.length - (intOf i).toNat)
    case atStart => exact ⟨0, .inr rfl, rfl, rfl, hq1⟩
    case round =>
      obtain ⟨k, hk, rfl, rfl, hq⟩ := hrel
      by_cases hlt : k + 1 < xs.length
      · obtain ⟨b, o, rfl, hb, _, hT, hV⟩ := ks_Sample (H.out.q hq) (k + 1) hlt
        obtain ⟨_, _, hbo, _, _, hT', hV'⟩ := ks_Sample (H.out.q hq) k (by omega)
        cases hbo
        have hbd := risesTo_bd HK.out (k + 1) (by omega)
        obtain ⟨b1, b2⟩ := hbd
        obtain ⟨_, _, _, d1, d2, _⟩ := HK.out (k + 1) hlt
        obtain ⟨_, _, _, d3, d4, _⟩ := HK.out k (by omega)
        have HS := Lib.hid (risesTo_succ xs hlt)
        by_cases hv : xs[k].V ≤ xs[k + 1].V
        · have HR := Lib.hid (show xs[k + 1].V - xs[k].V = rise xs[k] xs[k + 1] by unfold rise; rw [if_pos hv])
          go_wp2_with fail
          go_quiet (fail)
          go_wp2
          go_quiet (fail)
          go_wp2
          go_roundw
          case rel => exact ⟨k + 1, .inl (by omega), by go_num, by rw [HS.out, ← HR.out]; go_num, hq.trans (Q.drewN _ _)⟩
          case measure => simp [intOf]; omega
        · have HR := Lib.hid (show xs[k + 1].V = rise xs[k] xs[k + 1] by unfold rise; rw [if_neg hv])
          go_wp2_with fail
          go_quiet (fail)
          go_wp2
          go_roundw
          case rel => exact ⟨k + 1, .inl (by omega), by go_num, by rw [HS.out, ← HR.out], hq.trans (Q.drewN _ _)⟩
          case measure => simp [intOf]; omega
      · have HK1 := Lib.hid (show risesTo xs (k + 1) = risesOf xs by rw [HRS.out]; congr 1; split <;> omega)
        go_wp2
        go_ret
        exact ⟨ret_int HK1.out, hq⟩
  · have et : samOk xs = false := by simp [samOk, hok]
    have HRS := Lib.hid (show risesOf xs = 0 by simp [risesOf, et])
    go_enter Try.func13, Try.ntmps13
    go_wp2_with ((go_at_call 40; refine (l2Ok_calls _ h hm hc).mono ?_; rintro e w1 ⟨rfl, hq1⟩))
    go_ret
    exact ⟨ret_int HRS.out.symm, hq1⟩

theorem implRises_calls {A : Option Addr} {c : Nat} {xs : List Sample} {F : Foot} (w : World) (h : KS w A xs F) (hm : xs.length ≤ c) (hc : c ≤ maxLen) :
    Calls Try.prog 15 #[.slice A xs.length c] w fun e w' => e = .returned (.int .i64 (risesOf xs)) ∧ Below w.heap.size w w' := by
  have hc' := hc
  unfold maxLen at hc'
  have H := Lib.hid h
  by_cases hok : SamOk xs
  · have HK := Lib.hid hok
    have et : samOk xs = true := samOk_true hok
    have hlen := samOk_len hok
    have HRS := Lib.hid (show risesOf xs = risesTo xs (if xs.length = 0 then 1 else xs.length) by simp [risesOf, et])
    clear hok
    go_enter Try.func15, Try.ntmps15
    go_wp2_with ((go_at_call 42; refine (samplesOk_calls _ h hm hc).mono ?_; rintro e w1 ⟨rfl, hq1⟩))
    clear h et
    go_loopw [3, 4] (fun n i wr => ∃ k : Nat, (k + 1 ≤ xs.length ∨ k = 0) ∧ i = .int .i64 (k + 1 : Nat) ∧ n = .int .i64 (risesTo xs (k + 1)) ∧ Below w.heap.size w wr) (fun _ i _ => xs.length - (intOf i).toNat)
    case atStart => exact ⟨0, .inr rfl, rfl, rfl, hq1⟩
    case round =>
      obtain ⟨k, hk, rfl, rfl, hq⟩ := hrel
      by_cases hlt : k + 1 < xs.length
      · obtain ⟨b, o, rfl, hb, _, hT, hV⟩ := ks_Sample (H.out.below hq) (k + 1) hlt
        obtain ⟨_, _, hbo, _, _, hT', hV'⟩ := ks_Sample (H.out.below hq) k (by omega)
        cases hbo
        have hbd := risesTo_bd HK.out (k + 1) (by omega)
        obtain ⟨b1, b2⟩ := hbd
        obtain ⟨_, _, _, d1, d2, _⟩ := HK.out (k + 1) hlt
        obtain ⟨_, _, _, d3, d4, _⟩ := HK.out k (by omega)
        have HS := Lib.hid (risesTo_succ xs hlt)
        by_cases hv : xs[k].V ≤ xs[k + 1].V
        · have HR := Lib.hid (show xs[k + 1].V - xs[k].V = rise xs[k] xs[k + 1] by unfold rise; rw [if_pos hv])
          go_wp2_with fail
          go_quiet (fail)
          go_wp2
          go_roundw
          case rel => exact ⟨k + 1, .inl (by omega), by go_num, by rw [HS.out, ← HR.out], hq.trans ((Q.drewN _ _).below _)⟩
          case measure => simp [intOf]; omega
        · have HR := Lib.hid (show xs[k + 1].V = rise xs[k] xs[k + 1] by unfold rise; rw [if_neg hv])
          go_wp2_with fail
          go_quiet (fail)
          go_wp2
          go_roundw
          case rel => exact ⟨k + 1, .inl (by omega), by go_num, by rw [HS.out, ← HR.out], hq.trans ((Q.drewN _ _).below _)⟩
          case measure => simp [intOf]; omega
      · have HK1 := Lib.hid (show risesTo xs (k + 1) = risesOf xs by rw [HRS.out]; congr 1; split <;> omega)
        go_wp2
        go_ret
        exact ⟨ret_int HK1.out, hq⟩
  · have et : samOk xs = false := by simp [samOk, hok]
    have HRS := Lib.hid (show risesOf xs = 0 by simp [risesOf, et])
    go_enter Try.func15, Try.ntmps15
    go_wp2_with ((go_at_call 42; refine (samplesOk_calls _ h hm hc).mono ?_; rintro e w1 ⟨rfl, hq1⟩))
    go_ret
    exact ⟨ret_int HRS.out.symm, hq1⟩

theorem fnExactRises_calls {A : Option Addr} {c : Nat} {xs : List Sample} {F : Foot} (w : World) (h : KS w A xs F) (hm : xs.length ≤ c) (hc : c ≤ maxLen) :
    Calls Try.prog 3 #[.slice A xs.length c] w fun e w' => e = .returned (.bool true) ∧ Below w.heap.size w w' := by
  by_cases hs : (xs.length : Int) ≤ 1048576
  · have hz := szSampleS_calls (A := A) (c := c) (xs := xs) 1048576 w (by omega) (by omega) hm hc
    rw [if_pos hs] at hz
    have HZ := Lib.hid hz; clear hz
    have H := Lib.hid h; clear h
    go_enter Try.func3, Try.ntmps3
    go_wp2_with ((go_at_call 12; refine HZ.out.mono ?_; rintro e w1 ⟨rfl, rfl⟩))
    refine (toSampleS_calls _ H.out (by omega)).mono ?_
    rintro e w1 ⟨v, rfl, o1, b1⟩
    obtain ⟨A1, c1, hv, m1, m1', _, k1⟩ := o1.kf
    cases hv
    go_wp2_with fail
    refine (specRises_calls _ k1 m1 m1').mono ?_
    rintro e w2 ⟨rfl, q2⟩
    have b2 := b1.trans ((q2.below _).mono b1.size)
    go_wp2_with fail
    refine (toSampleS_calls _ (H.out.below b2) (by omega)).mono ?_
    rintro e w3 ⟨v, rfl, o3, b3⟩
    obtain ⟨A3, c3, hv, m3, m3', _, k3⟩ := o3.kf
    cases hv
    have b4 := b2.trans (b3.mono b2.size)
    go_wp2_with fail
    refine (implRises_calls _ k3 m3 m3').mono ?_
    rintro e w4 ⟨rfl, b5⟩
    have k4 := k3.below b5
    have b6 := b4.trans (b5.mono b4.size)
    have en : (risesOf xs != risesOf xs) = false := by simp
    go_wp2_with fail
    refine (toSampleS_calls _ (H.out.below b6) (by omega)).mono ?_
    rintro e w5 ⟨v, rfl, o5, b7⟩
    obtain ⟨A5, c5, hv, m5, m5', _, k5⟩ := o5.kf
    cases hv
    have b8 := b6.trans (b7.mono b6.size)
    go_wp2_with fail
    refine (eqSampleS_calls _ (k4.below b7) m3 m3' k5 m5 m5').mono ?_
    rintro e w6 ⟨rfl, b9⟩
    have et : decide (xs = xs) = true := by simp
    go_wp2
    go_ret
    exact ⟨rfl, b8.trans (b9.mono b8.size)⟩
  · have hz := szSampleS_calls (A := A) (c := c) (xs := xs) 1048576 w (by omega) (by omega) hm hc
    rw [if_neg hs] at hz
    have HZ := Lib.hid hz; clear hz h
    go_enter Try.func3, Try.ntmps3
    go_wp2_with ((go_at_call 12; refine HZ.out.mono ?_; rintro e w1 ⟨rfl, rfl⟩))
    go_ret
    exact ⟨rfl, Below.refl _ _⟩
end Go.Proofs.Ytnchefajiedjiaa.AL
