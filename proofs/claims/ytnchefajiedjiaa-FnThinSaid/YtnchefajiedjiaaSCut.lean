/-
  The reference's cut of samples, and what samples come to.
-/
import Derived.Test.YtnchefajiedjiaaWinPlain
import Derived.Test.YtnchefajiedjiaaSWJoin
import Derived.BigRegion
namespace Go.Proofs.Ytnchefajiedjiaa.AL
open Go Go.RowKit Go.Proofs
set_option linter.unusedVariables false

set_option maxRecDepth 100000 in
set_option maxHeartbeats 2000000 in
theorem l2Cut_calls {A : Option Addr} {c : Nat} {xs : List Sample} {F : Foot} (a b : Int) (w : World) (h : KS w A xs F) (hm : xs.length ≤ c) (hc : c ≤ maxLen) (hn : xs.length ≤ 1000000) :
    Calls Try.prog 61 #[.slice A xs.length c, .int .i64 a, .int .i64 b] w fun e w' => ∃ v, e = .returned v ∧ Own w' w.heap.size 36 v (cutS xs a b) [] ∧ Below w.heap.size w w' := by
  obtain ⟨ii, hi, hz0, hz1, hz2⟩ := info_parts info_Sample
  unfold maxLen at hc
  have H := Lib.hid h; clear h
  go_enter Try.func61, Try.ntmps61
  go_wp2
  go_loopw [7, 8] (fun v i wr => ∃ k : Nat, k ≤ xs.length ∧ i = .int .i64 k ∧ Own wr w.heap.size 36 v (cutS (xs.take k) a b) [] ∧ Below w.heap.size w wr) (fun _ i _ => xs.length - (intOf i).toNat)
  case atStart => exact ⟨0, Nat.zero_le _, rfl, Own.empty w _ (Nat.le_refl _), (by repeat' (first | (with_reducible first | assumption | exact Below.refl _ _ | apply Below.drew | apply Below.alloc | apply Below.setCell) | (simp; done) | (simp; omega)))⟩
  case round =>
    obtain ⟨k, hk, rfl, ho, hb⟩ := hrel
    have HO := Lib.hid ho; clear ho
    by_cases hlt : k < xs.length
    · obtain ⟨b', o, rfl, hb1, _, g0, g1⟩ := ks_Sample (H.out.below hb) k hlt
      by_cases c1 : a ≤ xs[k].T
      · by_cases c2 : xs[k].T < b
        · have HC := Lib.hid (cutS_keep hlt c1 c2)
          have hln := cutS_take_len xs a b k
          go_wp2_with (at_builtin; refine wpList_push rfl _ _ 25 rfl 36 ii (.agg #[.int .i64 0, .int .i64 0]) 16 Try.underlying25 hi hz0 hz1 hz2 rfl (W := wr) HO.out rfl (kf_Sample_mk _ xs[k]) rfl (by simp) (by simp) (by omega) (by omega) hb.size ?_)
          intro v' w' ho' hg' hv'
          have hb' := hb.grown hg' hb.size (fun j hj => (HO.out.ownLt j hj).1)
          clear hg' hv' hb
          have HO' := Lib.hid ho'; clear ho'
          go_wp2
          go_roundw
          case rel => exact ⟨k + 1, hlt, by go_num, by rw [HC.out]; simpa using HO'.out, hb'⟩
          case measure => simp [intOf]; omega
        · have HC := Lib.hid (cutS_drop (a := a) (b := b) hlt (fun hh => c2 hh.2))
          go_wp2
          go_roundw
          case rel => exact ⟨k + 1, hlt, by go_num, by rw [HC.out]; exact HO.out, hb⟩
          case measure => simp [intOf]; omega
      · have HC := Lib.hid (cutS_drop (a := a) (b := b) hlt (fun hh => c1 hh.1))
        go_wp2
        go_roundw
        case rel => exact ⟨k + 1, hlt, by go_num, by rw [HC.out]; exact HO.out, hb⟩
        case measure => simp [intOf]; omega
    · obtain rfl : k = xs.length := by omega
      rw [List.take_length] at HO
      go_wp2
      go_ret
      exact ⟨_, rfl, HO.out, hb⟩

set_option maxRecDepth 100000 in
set_option maxHeartbeats 4000000 in
theorem l11Win_calls {A : Option Addr} {c : Nat} {xs : List Sample} {F : Foot} (a : Int) (w : World) (h : KS w A xs F) (hm : xs.length ≤ c) (hc : c ≤ maxLen) (hn : xs.length ≤ 1000000) (h0 : 0 < xs.length) (hv : ValOk xs) :
    Calls Try.prog 62 #[.int .i64 a, .slice A xs.length c] w fun e w' => e = .returned (.agg #[.int .i64 (winF a xs).From, .int .i64 (winF a xs).Count, .int .i64 (winF a xs).Sum, .int .i64 (winF a xs).Low, .int .i64 (winF a xs).High, .int .i64 (winF a xs).Last]) ∧ Below w.heap.size w w' := by
  unfold maxLen at hc
  have H := Lib.hid h
  obtain ⟨b, o, rfl, hb1, _, g0, g1⟩ := ks_Sample h 0 h0
  simp only [Nat.zero_mul, Nat.add_zero] at g0 g1
  have HV := Lib.hid hv; clear h hv
  go_enter Try.func62, Try.ntmps62
  go_wp2_with fail
  go_region
  have bx := (Blk.new (w.alloc (.cells #[.int .i64 0, .int .i64 0, .int .i64 0, .int .i64 0, .int .i64 0, .int .i64 0] 41)) [.int .i64 (winTo a xs 0).From, .int .i64 (winTo a xs 0).Count, .int .i64 (winTo a xs 0).Sum, .int .i64 (winTo a xs 0).Low, .int .i64 (winTo a xs 0).High, .int .i64 (winTo a xs 0).Last] 41).drew
  rw [winTo_zero h0] at bx
  have by0 := (((Blk.new w [.int .i64 0, .int .i64 0, .int .i64 0, .int .i64 0, .int .i64 0, .int .i64 0] 41).alloc (.cells #[.int .i64 (winTo a xs 0).From, .int .i64 (winTo a xs 0).Count, .int .i64 (winTo a xs 0).Sum, .int .i64 (winTo a xs 0).Low, .int .i64 (winTo a xs 0).High, .int .i64 (winTo a xs 0).Last] 41))).drew
  rw [winTo_zero h0] at by0
  have BX := Lib.hid bx; have BY := Lib.hid by0; clear bx by0
  go_wp2
  go_loopw [6, 7] (fun i _ wr => ∃ k : Nat, k ≤ xs.length ∧ i = .int .i64 k ∧ Hid (Blk wr w.heap.size [.int .i64 0, .int .i64 0, .int .i64 0, .int .i64 0, .int .i64 0, .int .i64 0] 41) ∧ Hid (Blk wr (w.heap.size + 1) [.int .i64 (winTo a xs k).From, .int .i64 (winTo a xs k).Count, .int .i64 (winTo a xs k).Sum, .int .i64 (winTo a xs k).Low, .int .i64 (winTo a xs k).High, .int .i64 (winTo a xs k).Last] 41) ∧ Below w.heap.size w wr ∧ w.heap.size + 1 < wr.heap.size) (fun i _ _ => xs.length - (intOf i).toNat)
  case atStart =>
    refine ⟨0, Nat.zero_le _, rfl, BY, Lib.hid ?_, (by repeat' (first | (with_reducible first | assumption | exact Below.refl _ _ | apply Below.drew | apply Below.alloc | apply Below.setCell) | (simp; done) | (simp; omega))), by simp⟩
    rw [winTo_zero h0]
    have := BX.out
    simpa using this
  case round =>
    obtain ⟨k, hk, rfl, hB, hM, hb, hsz⟩ := hrel
    clear BX BY
    by_cases hlt : k < xs.length
    · obtain ⟨_, _, hbo, hb1', _, g0', g1'⟩ := ks_Sample (H.out.below hb) k hlt
      cases hbo
      obtain ⟨_, q1, q2, q3, q4, q5, q6, q7⟩ := winTo_bd (a := a) HV.out h0 k hk
      obtain ⟨q8, q9⟩ := HV.out.at k hlt
      have hws := winTo_succ (a := a) hlt
      have HM := hM; have HB0 := hB
      have d0 := HM.out.cell 0 rfl; have f0 := HM.out.free 0; have d1 := HM.out.cell 1 rfl; have f1 := HM.out.free 1; have d2 := HM.out.cell 2 rfl; have f2 := HM.out.free 2; have d3 := HM.out.cell 3 rfl; have f3 := HM.out.free 3; have d4 := HM.out.cell 4 rfl; have f4 := HM.out.free 4; have d5 := HM.out.cell 5 rfl; have f5 := HM.out.free 5
      clear g0 g1 g0'
      have x0 : w.heap.size + 1 ≠ b := by omega
      have x1 : b ≠ w.heap.size + 1 := by omega
      by_cases c4 : xs[k].V < (winTo a xs k).Low
      all_goals (by_cases c5 : (winTo a xs k).High < xs[k].V)
      all_goals (
        go_wp2
        go_roundw
        case rel =>
          refine ⟨k + 1, hlt, by go_num, Lib.hid ?_, Lib.hid ?_, (by repeat' (first | (with_reducible first | assumption | exact Below.refl _ _ | apply Below.drew | apply Below.alloc | apply Below.setCell) | (simp; done) | (simp; omega))), by simp; omega⟩
          · exact (by repeat' (first | with_reducible exact HB0.out | (with_reducible refine Blk.setOther ?_ (show w.heap.size + 1 ≠ w.heap.size by omega) _)))
          · apply Blk.to
            · repeat' (first | with_reducible exact HM.out | with_reducible apply Blk.set)
            · rw [hws]
              simp [winAdd, List.set]
              try omega
        case measure => simp [intOf]; omega)
    · obtain rfl : k = xs.length := by omega
      have HM := hM; have HB0 := hB
      have d0 := HM.out.cell 0 rfl; have f0 := HM.out.free 0; have d1 := HM.out.cell 1 rfl; have f1 := HM.out.free 1; have d2 := HM.out.cell 2 rfl; have f2 := HM.out.free 2; have d3 := HM.out.cell 3 rfl; have f3 := HM.out.free 3; have d4 := HM.out.cell 4 rfl; have f4 := HM.out.free 4; have d5 := HM.out.cell 5 rfl; have f5 := HM.out.free 5
      have r0 := HB0.out.cell 0 rfl; have s0 := HB0.out.free 0; have r1 := HB0.out.cell 1 rfl; have s1 := HB0.out.free 1; have r2 := HB0.out.cell 2 rfl; have s2 := HB0.out.free 2; have r3 := HB0.out.cell 3 rfl; have s3 := HB0.out.free 3; have r4 := HB0.out.cell 4 rfl; have s4 := HB0.out.free 4; have r5 := HB0.out.cell 5 rfl; have s5 := HB0.out.free 5
      have ef : winTo a xs xs.length = winF a xs := rfl
      rw [ef] at d0 d1 d2 d3 d4 d5
      clear ef g0 g1
      go_wp2
      exact bodyPost_ret (v := .agg #[.int .i64 (winF a xs).From, .int .i64 (winF a xs).Count, .int .i64 (winF a xs).Sum, .int .i64 (winF a xs).Low, .int .i64 (winF a xs).High, .int .i64 (winF a xs).Last]) (by simp [results, Try.results62, go_sem, *]) rfl ⟨rfl, (by repeat' (first | (with_reducible first | assumption | exact Below.refl _ _ | apply Below.drew | apply Below.alloc | apply Below.setCell) | (simp; done) | (simp; omega)))⟩
end Go.Proofs.Ytnchefajiedjiaa.AL
