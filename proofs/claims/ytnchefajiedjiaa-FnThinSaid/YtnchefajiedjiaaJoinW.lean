/-
  The program's join of samples: put one behind the other, sorted, equal ones once.
-/
import Derived.Test.YtnchefajiedjiaaSortPlain
import Derived.Test.YtnchefajiedjiaaIWins
import Derived.Test.YtnchefajiedjiaaDraw3
import Derived.BigRegion
import Derived.Lib.AppendZerosOnto
import Derived.Lib.Walk
namespace Go.Proofs.Ytnchefajiedjiaa.AL
open Go Go.RowKit Go.Proofs
set_option linter.unusedVariables false

theorem alSamples_calls {A A' : Option Addr} {c c' : Nat} {xs ys : List Sample} {F F' : Foot} (w : World) (h : KS w A xs F) (hm : xs.length ≤ c) (hc : c ≤ maxLen) (h' : KS w A' ys F') (hm' : ys.length ≤ c') (hc' : c' ≤ maxLen) :
    Calls Try.prog 38 #[.slice A xs.length c, .slice A' ys.length c'] w fun e w' => e = .returned (.bool (decide (xs = ys))) ∧ Q w w' := by
  unfold maxLen at hc hc'
  have H := Lib.hid h; have H' := Lib.hid h'; clear h h'
  by_cases hl : xs.length = ys.length
  · have el : ((xs.length : Int) != (ys.length : Int)) = false := by simp [hl]
    have HL := Lib.hid hl
    go_enter Try.func38, Try.ntmps38
    go_wp2
    go_loopw [5] (fun i wr => ∃ k : Nat, k ≤ xs.length ∧ i = .int .i64 k ∧ (∀ j, j < k → xs[j]? = ys[j]?) ∧ Q w wr) (fun i _ => xs.length - (intOf i).toNat)
    case atStart => exact ⟨0, Nat.zero_le _, rfl, upTo_zero, Q.refl _⟩
    case round =>
      obtain ⟨k, hk, rfl, heq, hq⟩ := hrel
      have HE := Lib.hid heq; clear heq
      by_cases hlt : k < xs.length
      · have hlt' : k < ys.length := by rw [← HL.out]; exact hlt
        obtain ⟨b, o, rfl, hb1, _, g0, g1⟩ := ks_Sample (H.out.q hq) k hlt
        obtain ⟨b', o', rfl, hb1', _, g0', g1'⟩ := ks_Sample (H'.out.q hq) k hlt'
        by_cases hx : xs[k] = ys[k]
        · have HN := Lib.hid (get?_eq hlt hlt' hx)
          rw [← hx] at g0' g1'
          clear hx
          go_wp2_with fail
          go_quiet (fail)
          go_wp2
          go_roundw
          case rel => exact ⟨k + 1, hlt, by go_num, upTo_succ HE.out HN.out, hq.trans (Q.drewN _ _)⟩
          case measure => simp [intOf]; omega
        · have HN := Lib.hid (show decide (xs = ys) = false from decide_eq_false (get?_ne hlt hlt' hx))
          by_cases hT : xs[k].T = ys[k].T
          · have hV : ¬ xs[k].V = ys[k].V := fun e => hx ((Sample.eq_iff _ _).2 ⟨hT, e⟩)
            have e2 : (xs[k].V == ys[k].V) = false := beq_eq_false_iff_ne.2 hV
            have e3 : (xs[k].V != ys[k].V) = true := by simp [hV]
            rw [← hT] at g0'
            clear hx hT
            go_wp2_with fail
            go_quiet (fail)
            go_wp2
            go_ret
            exact ⟨ret_bool HN.out.symm, hq.trans (Q.drewN _ _)⟩
          · have e2 : (xs[k].T == ys[k].T) = false := beq_eq_false_iff_ne.2 hT
            have e3 : (xs[k].T != ys[k].T) = true := by simp [hT]
            clear hx
            go_wp2_with fail
            go_quiet (fail)
            go_wp2
            go_ret
            exact ⟨ret_bool HN.out.symm, hq.trans (Q.drewN _ _)⟩
      · obtain rfl : k = xs.length := by omega
        have HN := Lib.hid (show decide (xs = ys) = true from decide_eq_true (list_eq_of HL.out HE.out))
        go_wp2
        go_ret
        exact ⟨ret_bool HN.out.symm, hq⟩
  · have el : ((xs.length : Int) != (ys.length : Int)) = true := by simp; omega
    have HN := Lib.hid (show decide (xs = ys) = false from decide_eq_false (fun e => hl (by rw [e])))
    go_enter Try.func38, Try.ntmps38
    go_wp2
    go_ret
    exact ⟨ret_bool HN.out.symm, Q.refl _⟩

set_option maxRecDepth 100000 in
set_option maxHeartbeats 2000000 in
theorem grow_calls (n : Nat) (w : World) (hn : n ≤ 1000000) :
    Calls Try.prog 78 #[.slice none 0 0, .int .i64 n] w fun e w' => ∃ v, e = .returned v ∧ Own (α := Sample) w' w.heap.size 36 v [] [] ∧ Below w.heap.size w w' := by
  obtain ⟨ii, hi, hz0, hz1, hz2⟩ := info_parts info_Sample
  by_cases h0 : 0 < n
  · have hold : (Builtin.firstCells ii.size 0 (.slice none 0 0)).run Try.prog w.drew = .ok (([] : List Value).toArray) w.drew := run_firstCells_none w.drew ii.size 0 0 0
    have hGn : n ≤ grownCap w (0 + n) 0 36 := by have := grownCap_ge w (0 + n) 0 36; omega
    have hGm := grownCap_le_maxLen w (0 + n) 0 36 (by unfold maxLen; omega)
    have hrz : ∀ ty, (Builtin.append_ #[25, 3] ty #[.slice none 0 0, .int .i64 (n : Int)]).run Try.prog w = .ok (.slice (some ⟨w.heap.size, 0, none⟩) n (grownCap w (0 + n) 0 36))
        (w.drew.alloc (.cells (([] : List Value).toArray ++ Builtin.zeroCells (Value.agg #[.int .i64 0, .int .i64 0]).cells n ++ Builtin.zeroCells (Value.agg #[.int .i64 0, .int .i64 0]).cells (grownCap w (0 + n) 0 36 - (0 + n))) 36)) := fun ty => by
      have h := Lib.run_append_grow_zeros w 25 3 ty 36 ii (.agg #[.int .i64 0, .int .i64 0]) .i64 .i64 Try.underlying25 Try.underlying3 hi hz0 none 0 0 [] hold n h0 (by omega) (by omega) (by omega) (by rw [hz2]; omega) (growslice_fits (by omega) (by rw [hz2]; omega))
      rw [Nat.zero_add] at h ⊢
      exact h
    have HX := Lib.hid (show ∃ v, Ending.returned (.slice (some ⟨w.heap.size, 0, none⟩) 0 (grownCap w (0 + n) 0 36)) = .returned v ∧ Own (α := Sample) (w.drew.alloc (.cells (([] : List Value).toArray ++ Builtin.zeroCells (Value.agg #[.int .i64 0, .int .i64 0]).cells n ++ Builtin.zeroCells (Value.agg #[.int .i64 0, .int .i64 0]).cells (grownCap w (0 + n) 0 36 - (0 + n))) 36)) w.heap.size 36 v [] [] ∧ Below w.heap.size w (w.drew.alloc (.cells (([] : List Value).toArray ++ Builtin.zeroCells (Value.agg #[.int .i64 0, .int .i64 0]).cells n ++ Builtin.zeroCells (Value.agg #[.int .i64 0, .int .i64 0]).cells (grownCap w (0 + n) 0 36 - (0 + n))) 36)) from by
      refine ⟨_, rfl, ⟨[], [], ⟨rfl, .inr ⟨w.heap.size, _, _, rfl, Nat.le_refl _, heap_alloc_new w.drew _, Nat.zero_le _, hGm, ?_, by simp⟩⟩, .nil, rfl, by simp⟩, (((Below.refl _ _).drew).alloc (Nat.le_refl _) _)⟩
      simp only [Array.size_append, List.size_toArray, size_zeroCells, Value.cells]
      show _ = _ * 2
      simp
      rw [Nat.zero_add] at hGn
      omega)
    have hG63 : grownCap w (0 + n) 0 36 ≤ 9223372036854775807 := by unfold maxLen at hGm; omega
    generalize grownCap w (0 + n) 0 36 = G at *
    generalize w.drew.alloc _ = W at hrz HX
    clear hold hGm
    go_enter Try.func78, Try.ntmps78
    go_wp2_with (at_builtin; refine Lib.wpList_append_run _ rfl _ _ _ _ rfl _ _ rfl rfl _ _ (hrz _) ?_)
    go_ret
    exact HX.out
  · obtain rfl : n = 0 := by omega
    go_enter Try.func78, Try.ntmps78
    go_wp2
    go_ret
    exact ⟨_, rfl, Own.nil _ _ _, Below.refl _ _⟩
end Go.Proofs.Ytnchefajiedjiaa.AL
