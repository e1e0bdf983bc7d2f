/-
  Samples: what is ok, as the program and the reference find it.
-/
import Derived.Test.YtnchefajiedjiaaProg
import Derived.Test.YtnchefajiedjiaaTy
import Derived.BigQuiet
import Derived.Deep.QuietTactic
import Derived.Deep.Draws
import Derived.Lib.Hide
namespace Go.Proofs.Ytnchefajiedjiaa.AL
open Go Go.RowKit Go.Proofs
open Ty (KF)

/-- Sample i is ok beside the one ahead of it. -/
def OkAt (xs : List Sample) (i : Nat) : Prop := ∃ h : i < xs.length, 0 ≤ xs[i].T ∧ xs[i].T ≤ 9999 ∧ 0 ≤ xs[i].V ∧ xs[i].V ≤ 2147483647 ∧ (0 < i → xs[i-1].T < xs[i].T)
def SamOk (xs : List Sample) : Prop := ∀ i, i < xs.length → OkAt xs i
open Classical in
noncomputable def samOk (xs : List Sample) : Bool := decide (SamOk xs)
theorem samOk_true {xs : List Sample} (h : SamOk xs) : samOk xs = true := by simp [samOk, h]
theorem samOk_false {xs : List Sample} {i : Nat} (hi : i < xs.length) (h : ¬ OkAt xs i) : samOk xs = false := by
  simp only [samOk, decide_eq_false_iff_not]; exact fun g => h (g i hi)

theorem l1In_calls (a b c : Int) (w : World) :
    Calls Try.prog 44 #[.int .i64 a, .int .i64 b, .int .i64 c] w fun e w' => e = .returned (.bool (decide (b ≤ a) && decide (a ≤ c))) ∧ w' = w := by
  go_enter Try.func44, Try.ntmps44
  go_wp2
  all_goals (go_ret; exact ⟨by simp [*] <;> omega, rfl⟩)

theorem l2Ok_calls {A : Option Addr} {c : Nat} {xs : List Sample} {F : Foot} (w : World) (h : KS w A xs F) (hm : xs.length ≤ c) (hc : c ≤ maxLen) :
    Calls Try.prog 40 #[.slice A xs.length c] w fun e w' => e = .returned (.bool (samOk xs)) ∧ Q w w' := by
  unfold maxLen at hc
  have H := Lib.hid h; clear h
  go_enter Try.func40, Try.ntmps40
  go_wp2
  go_loopw [3] (fun i wr => ∃ k : Nat, k ≤ xs.length ∧ i = .int .i64 k ∧ (∀ j, j < k → OkAt xs j) ∧ Q w wr) (fun i _ => xs.length - (intOf i).toNat)
  case atStart => exact ⟨0, Nat.zero_le _, rfl, fun j hj => absurd hj (Nat.not_lt_zero _), Q.refl _⟩
  case round =>
    obtain ⟨k, hk, rfl, hok, hq⟩ := hrel
    have HO := Lib.hid hok; clear hok
    by_cases hlt : k < xs.length
    · obtain ⟨b, o, rfl, hb, _, hT, hV⟩ := ks_Sample (H.out.q hq) k hlt
      have rel : OkAt xs k → ∀ n, ∃ k' : Nat, k' ≤ xs.length ∧ Value.int IntKind.i64 (↑k + 1) = .int .i64 k' ∧ (∀ j, j < k' → OkAt xs j) ∧ Q w (wr.drewN n) :=
        fun hn n => ⟨k + 1, by omega, by go_num, upTo_succ HO.out hn, hq.trans (Q.drewN _ _)⟩
      have bad : ¬ OkAt xs k → samOk xs = false := samOk_false hlt
      have REL := Lib.hid rel; have BAD := Lib.hid bad; clear rel bad
      by_cases c1 : 0 ≤ xs[k].T ∧ xs[k].T ≤ 9999
      · have e1 : (decide (0 ≤ xs[k].T) && decide (xs[k].T ≤ 9999)) = true := by simp [c1]
        by_cases c2 : 0 ≤ xs[k].V ∧ xs[k].V ≤ 2147483647
        · have e2 : (decide (0 ≤ xs[k].V) && decide (xs[k].V ≤ 2147483647)) = true := by simp [c2]
          by_cases c3 : 0 < k
          · obtain ⟨m, rfl⟩ : ∃ m, k = m + 1 := ⟨k - 1, by omega⟩
            obtain ⟨_, _, hbo, _, _, hT', _⟩ := ks_Sample (H.out.q hq) m (by omega)
            cases hbo
            by_cases c4 : xs[m].T < xs[m + 1].T
            · have HN := Lib.hid (show OkAt xs (m + 1) from ⟨hlt, c1.1, c1.2, c2.1, c2.2, fun h => c4⟩)
              clear c1 c2
              go_wp2_with fail
              go_quiet ((go_at_call 44; exact Calls.quiet_of_same (l1In_calls _ _ _ _)))
              go_wp2
              go_roundw
              case rel => exact REL.out HN.out _
              case measure => simp [intOf]; omega
            · have HN := Lib.hid (show ¬ OkAt xs (m + 1) from fun ⟨_, _, _, _, _, h⟩ => c4 (h (by omega)))
              clear c1 c2
              go_wp2_with fail
              go_quiet ((go_at_call 44; exact Calls.quiet_of_same (l1In_calls _ _ _ _)))
              go_wp2
              go_ret
              exact ⟨ret_bool (BAD.out HN.out).symm, hq.trans (Q.drewN _ _)⟩
          · have e0 : decide ((0 : Int) < (k : Int)) = false := by simp; omega
            have HN := Lib.hid (show OkAt xs k from ⟨hlt, c1.1, c1.2, c2.1, c2.2, fun h => absurd h c3⟩)
            clear c1 c2
            go_wp2_with fail
            go_quiet ((go_at_call 44; exact Calls.quiet_of_same (l1In_calls _ _ _ _)))
            go_wp2
            go_roundw
            case rel => exact REL.out HN.out _
            case measure => simp [intOf]; omega
        · have e2 : (decide (0 ≤ xs[k].V) && decide (xs[k].V ≤ 2147483647)) = false := by simp; omega
          have HN := Lib.hid (show ¬ OkAt xs k from fun ⟨_, _, _, h1, h2, _⟩ => c2 ⟨h1, h2⟩)
          clear c1 c2
          go_wp2_with fail
          go_quiet ((go_at_call 44; exact Calls.quiet_of_same (l1In_calls _ _ _ _)))
          go_wp2
          go_ret
          exact ⟨ret_bool (BAD.out HN.out).symm, hq.trans (Q.drewN _ _)⟩
      · have e1 : (decide (0 ≤ xs[k].T) && decide (xs[k].T ≤ 9999)) = false := by simp; omega
        have HN := Lib.hid (show ¬ OkAt xs k from fun ⟨_, h1, h2, _⟩ => c1 ⟨h1, h2⟩)
        clear c1
        go_wp2_with fail
        go_quiet ((go_at_call 44; exact Calls.quiet_of_same (l1In_calls _ _ _ _)))
        go_wp2
        go_ret
        exact ⟨ret_bool (BAD.out HN.out).symm, hq.trans (Q.drewN _ _)⟩
    · obtain rfl : k = xs.length := by omega
      go_wp2
      go_ret
      exact ⟨ret_bool (samOk_true HO.out).symm, hq⟩
end Go.Proofs.Ytnchefajiedjiaa.AL
