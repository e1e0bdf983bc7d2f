/-
  What samples come to: the program's way (a fold by a function value).
-/
import Derived.Test.YtnchefajiedjiaaWinPlain
import Derived.Test.YtnchefajiedjiaaSWJoin
import Derived.BigRegion
namespace Go.Proofs.Ytnchefajiedjiaa.AL
open Go Go.RowKit Go.Proofs
set_option linter.unusedVariables false

set_option maxHeartbeats 2000000 in
theorem winOf1_calls (a : Int) (ba : Nat) (v : Win) (x : Sample) (k : Nat) (w : World) (ca : w.cell? ⟨ba, 0, none⟩ = some (.int .i64 a)) (la : ba < w.heap.size) (hk : k ≤ 1000000) (hv : WinB a k v) (hx : 0 ≤ x.V ∧ x.V ≤ 2147483647) :
    Calls Try.prog 71 #[.agg #[.int .i64 v.From, .int .i64 v.Count, .int .i64 v.Sum, .int .i64 v.Low, .int .i64 v.High, .int .i64 v.Last], .agg #[.int .i64 x.T, .int .i64 x.V], .pointer (some ⟨ba, 0, none⟩)] w fun e w' => e = .returned (.agg #[.int .i64 (winAdd v x).From, .int .i64 (winAdd v x).Count, .int .i64 (winAdd v x).Sum, .int .i64 (winAdd v x).Low, .int .i64 (winAdd v x).High, .int .i64 (winAdd v x).Last]) ∧ Below w.heap.size w w' := by
  obtain ⟨q0, q1, q2, q3, q4, q5, q6, q7⟩ := hv
  obtain ⟨q8, q9⟩ := hx
  have na : ba ≠ w.heap.size := by omega
  have na1 : ba ≠ w.heap.size + 1 := by omega
  have na2 : ba ≠ w.heap.size + 2 := by omega
  have la1 : ba < w.heap.size + 1 := by omega
  have la2 : ba < w.heap.size + 2 := by omega
  go_enter Try.func71, Try.ntmps71
  go_wp2
  all_goals (refine bodyPost_ret (v := .agg #[.int .i64 (winAdd v x).From, .int .i64 (winAdd v x).Count, .int .i64 (winAdd v x).Sum, .int .i64 (winAdd v x).Low, .int .i64 (winAdd v x).High, .int .i64 (winAdd v x).Last]) ?_ rfl ⟨rfl, (by repeat' (first | (with_reducible first | assumption | exact Below.refl _ _ | apply Below.drew | apply Below.alloc | apply Below.setCell) | (simp; done) | (simp; omega)))⟩; simp [results, Try.results71, go_sem, winAdd]; try omega)

set_option maxRecDepth 100000 in
set_option maxHeartbeats 4000000 in
theorem foldSam_calls {A : Option Addr} {c : Nat} {xs : List Sample} {F : Foot} (a : Int) (ba : Nat) (w : World) (h : KS w A xs F) (hm : xs.length ≤ c) (hc : c ≤ maxLen) (hn : xs.length ≤ 1000000) (h0 : 0 < xs.length) (hv : ValOk xs) (ca : w.cell? ⟨ba, 0, none⟩ = some (.int .i64 a)) (la : ba < w.heap.size) :
    Calls Try.prog 70 #[.slice A xs.length c, .agg #[.int .i64 (winTo a xs 0).From, .int .i64 (winTo a xs 0).Count, .int .i64 (winTo a xs 0).Sum, .int .i64 (winTo a xs 0).Low, .int .i64 (winTo a xs 0).High, .int .i64 (winTo a xs 0).Last], .func (.func 71) #[] #[.pointer (some ⟨ba, 0, none⟩)]] w fun e w' => e = .returned (.agg #[.int .i64 (winF a xs).From, .int .i64 (winF a xs).Count, .int .i64 (winF a xs).Sum, .int .i64 (winF a xs).Low, .int .i64 (winF a xs).High, .int .i64 (winF a xs).Last]) ∧ Below w.heap.size w w' := by
  unfold maxLen at hc
  have H := Lib.hid h; have HV := Lib.hid hv; have CA := Lib.hid ca; clear h hv ca
  go_enter Try.func70, Try.ntmps70
  go_wp2
  go_loopw [11] (fun i wr => ∃ k : Nat, k ≤ xs.length ∧ i = .int .i64 k ∧ Hid (Blk wr w.heap.size [.int .i64 (winTo a xs k).From, .int .i64 (winTo a xs k).Count, .int .i64 (winTo a xs k).Sum, .int .i64 (winTo a xs k).Low, .int .i64 (winTo a xs k).High, .int .i64 (winTo a xs k).Last] 41) ∧ Hid (Blk wr (w.heap.size + 1) [.int .i64 0, .int .i64 0, .int .i64 0, .int .i64 0, .int .i64 0, .int .i64 0] 41) ∧ Below w.heap.size w wr ∧ w.heap.size + 2 ≤ wr.heap.size) (fun i _ => xs.length - (intOf i).toNat)
  case atStart => exact ⟨0, Nat.zero_le _, rfl, Lib.hid ((Blk.new w [.int .i64 (winTo a xs 0).From, .int .i64 (winTo a xs 0).Count, .int .i64 (winTo a xs 0).Sum, .int .i64 (winTo a xs 0).Low, .int .i64 (winTo a xs 0).High, .int .i64 (winTo a xs 0).Last] 41).alloc _), Lib.hid (by have := Blk.new (w.alloc (.cells #[.int .i64 (winTo a xs 0).From, .int .i64 (winTo a xs 0).Count, .int .i64 (winTo a xs 0).Sum, .int .i64 (winTo a xs 0).Low, .int .i64 (winTo a xs 0).High, .int .i64 (winTo a xs 0).Last] 41)) [.int .i64 0, .int .i64 0, .int .i64 0, .int .i64 0, .int .i64 0, .int .i64 0] 41; simpa using this), (by repeat' (first | (with_reducible first | assumption | exact Below.refl _ _ | apply Below.drew | apply Below.alloc | apply Below.setCell) | (simp; done) | (simp; omega))), by simp⟩
  case round =>
    obtain ⟨k, hk, rfl, hB0, hB1, hb, hsz⟩ := hrel
    by_cases hlt : k < xs.length
    · obtain ⟨b, o, rfl, hb1, _, g0, g1⟩ := ks_Sample (H.out.below hb) k hlt
      have HS := Lib.hid (winTo_succ (a := a) hlt)
      have bal : Below wr.heap.size wr (wr.alloc (.cells #[.int .i64 xs[k].T, .int .i64 xs[k].V] 36)) := (Below.refl _ _).alloc (Nat.le_refl _) _
      have HWJ := Lib.hid (winOf1_calls a ba (winTo a xs k) xs[k] k (wr.alloc (.cells #[.int .i64 xs[k].T, .int .i64 xs[k].V] 36)) ((bal.cell (p := ⟨ba, 0, none⟩) (show ba < wr.heap.size by omega)).trans ((hb.cell (p := ⟨ba, 0, none⟩) la).trans CA.out)) (by simp; omega) (by omega) (winTo_bd HV.out h0 k hk) (HV.out.at k hlt))
      have c0 := hB0.out.cell 0 rfl; have c1 := hB0.out.cell 1 rfl; have c2 := hB0.out.cell 2 rfl; have c3 := hB0.out.cell 3 rfl; have c4 := hB0.out.cell 4 rfl; have c5 := hB0.out.cell 5 rfl
      have hl0 : w.heap.size < wr.heap.size := by omega
      have hl1 : w.heap.size ≠ wr.heap.size := by omega
      go_wp2_with fail
      refine HWJ.out.mono ?_
      rintro e w3 ⟨rfl, hb3⟩
      have hb4 := bal.trans (hb3.mono bal.size)
      have B3 := hB0.out.below hb4 hl0
      have d0 := B3.cell 0 rfl; have d1 := B3.cell 1 rfl; have d2 := B3.cell 2 rfl; have d3 := B3.cell 3 rfl; have d4 := B3.cell 4 rfl; have d5 := B3.cell 5 rfl
      have e0 := B3.free 0; have e1 := B3.free 1; have e2 := B3.free 2; have e3 := B3.free 3; have e4 := B3.free 4; have e5 := B3.free 5
      have HB3 := Lib.hid B3; clear B3
      have hz3 := hb4.size
      have HB4 := Lib.hid (hB1.out.below hb4 (by omega))
      have HBB := Lib.hid (hb.trans (hb4.mono hb.size))
      clear hb3 hb4 bal HWJ c0 c1 c2 c3 c4 c5
      go_wp2
      go_roundw
      case rel =>
        refine ⟨k + 1, hlt, by go_num, ?_, ?_, ?_, by simp; omega⟩
        · rw [HS.out]; exact Lib.hid (HB3.out.setAll [.int .i64 (winAdd (winTo a xs k) xs[k]).From, .int .i64 (winAdd (winTo a xs k) xs[k]).Count, .int .i64 (winAdd (winTo a xs k) xs[k]).Sum, .int .i64 (winAdd (winTo a xs k) xs[k]).Low, .int .i64 (winAdd (winTo a xs k) xs[k]).High, .int .i64 (winAdd (winTo a xs k) xs[k]).Last] rfl)
        · exact Lib.hid (HB4.out.keep (setMany_block w3 w.heap.size [.int .i64 (winAdd (winTo a xs k) xs[k]).From, .int .i64 (winAdd (winTo a xs k) xs[k]).Count, .int .i64 (winAdd (winTo a xs k) xs[k]).Sum, .int .i64 (winAdd (winTo a xs k) xs[k]).Low, .int .i64 (winAdd (winTo a xs k) xs[k]).High, .int .i64 (winAdd (winTo a xs k) xs[k]).Last] 0 _ (by omega)))
        · have hbb := HBB.out; exact (by repeat' (first | (with_reducible first | assumption | exact Below.refl _ _ | apply Below.drew | apply Below.alloc | apply Below.setCell) | (simp; done) | (simp; omega)))
      case measure => simp [intOf]; omega
    · obtain rfl : k = xs.length := by omega
      have HF := Lib.hid (show winTo a xs xs.length = winF a xs from rfl)
      rw [HF.out] at hB0
      have c0 := hB0.out.cell 0 rfl; have c1 := hB0.out.cell 1 rfl; have c2 := hB0.out.cell 2 rfl; have c3 := hB0.out.cell 3 rfl; have c4 := hB0.out.cell 4 rfl; have c5 := hB0.out.cell 5 rfl
      have d0 := hB1.out.cell 0 rfl; have d1 := hB1.out.cell 1 rfl; have d2 := hB1.out.cell 2 rfl; have d3 := hB1.out.cell 3 rfl; have d4 := hB1.out.cell 4 rfl; have d5 := hB1.out.cell 5 rfl
      have e0 := hB1.out.free 0; have e1 := hB1.out.free 1; have e2 := hB1.out.free 2; have e3 := hB1.out.free 3; have e4 := hB1.out.free 4; have e5 := hB1.out.free 5
      go_wp2
      exact bodyPost_ret (v := .agg #[.int .i64 (winF a xs).From, .int .i64 (winF a xs).Count, .int .i64 (winF a xs).Sum, .int .i64 (winF a xs).Low, .int .i64 (winF a xs).High, .int .i64 (winF a xs).Last]) (by simp [results, Try.results70, go_sem, *]) rfl ⟨rfl, (by repeat' (first | (with_reducible first | assumption | exact Below.refl _ _ | apply Below.drew | apply Below.alloc | apply Below.setCell) | (simp; done) | (simp; omega)))⟩

set_option maxRecDepth 100000 in
set_option maxHeartbeats 4000000 in
theorem implWinOf_calls {A : Option Addr} {c : Nat} {xs : List Sample} {F : Foot} (a : Int) (w : World) (h : KS w A xs F) (hm : xs.length ≤ c) (hc : c ≤ maxLen) (hn : xs.length ≤ 1000000) (h0 : 0 < xs.length) (hv : ValOk xs) :
    Calls Try.prog 59 #[.int .i64 a, .slice A xs.length c] w fun e w' => e = .returned (.agg #[.int .i64 (winF a xs).From, .int .i64 (winF a xs).Count, .int .i64 (winF a xs).Sum, .int .i64 (winF a xs).Low, .int .i64 (winF a xs).High, .int .i64 (winF a xs).Last]) ∧ Below w.heap.size w w' := by
  have hc' := hc
  unfold maxLen at hc
  have H := Lib.hid h
  obtain ⟨b, o, rfl, hb1, _, g0, g1⟩ := ks_Sample h 0 h0
  simp only [Nat.zero_mul, Nat.add_zero] at g0 g1
  have HV := Lib.hid hv; clear h hv
  go_enter Try.func59, Try.ntmps59
  have nb0 : b ≠ w.heap.size := by omega
  have nb1 : b ≠ w.heap.size + 1 := by omega
  have nb2 : b ≠ w.heap.size + 1 + 1 := by omega
  have nb2' : b ≠ w.heap.size + 2 := by omega
  have lb1 : b < w.heap.size + 1 := by omega
  have lb2 : b < w.heap.size + 1 + 1 := by omega
  have lb2' : b < w.heap.size + 2 := by omega
  go_wp2_with fail
  go_region
  have CA := Lib.hid ((((Blk.new w [.int .i64 a] 3).alloc (.cells #[.int .i64 0, .int .i64 0, .int .i64 0, .int .i64 0, .int .i64 0, .int .i64 0] 41)).alloc (.cells #[.int .i64 a, .int .i64 0, .int .i64 0, .int .i64 xs[0].V, .int .i64 xs[0].V, .int .i64 0] 41)).drew)
  have cz := (Blk.new (w.alloc (.cells #[.int .i64 a] 3)) [.int .i64 0, .int .i64 0, .int .i64 0, .int .i64 0, .int .i64 0, .int .i64 0] 41).alloc (.cells #[.int .i64 a, .int .i64 0, .int .i64 0, .int .i64 xs[0].V, .int .i64 xs[0].V, .int .i64 0] 41)
  rw [show (w.alloc (.cells #[.int .i64 a] 3)).heap.size = w.heap.size + 1 by simp] at cz
  have CZ := Lib.hid cz.drew; clear cz
  have b3 := ((((Below.refl w.heap.size w).alloc (Nat.le_refl _) (.cells #[.int .i64 a] 3)).alloc (by simp) (.cells #[.int .i64 0, .int .i64 0, .int .i64 0, .int .i64 0, .int .i64 0, .int .i64 0] 41)).alloc (by simp; omega) (.cells #[.int .i64 a, .int .i64 0, .int .i64 0, .int .i64 xs[0].V, .int .i64 xs[0].V, .int .i64 0] 41)).drew
  go_wp2_with fail
  generalize World.drew _ = w3 at CA CZ b3 ⊢
  have HW := Lib.hid (winTo_zero (a := a) h0)
  have P1 := foldSam_calls a w.heap.size w3 (H.out.below b3) hm hc' hn h0 HV.out (CA.out.cell 0 rfl) CA.out.lt
  rw [HW.out] at P1
  refine P1.mono ?_
  rintro e w4 ⟨rfl, b4⟩
  clear P1
  have B4 := b3.trans (b4.mono b3.size)
  have HM := Lib.hid (CZ.out.below b4 CZ.out.lt)
  have hlm := HM.out.lt
  clear CA CZ b3 b4 HW
  have d0 := HM.out.cell 0 rfl; have f0 := HM.out.free 0; have d1 := HM.out.cell 1 rfl; have f1 := HM.out.free 1; have d2 := HM.out.cell 2 rfl; have f2 := HM.out.free 2; have d3 := HM.out.cell 3 rfl; have f3 := HM.out.free 3; have d4 := HM.out.cell 4 rfl; have f4 := HM.out.free 4; have d5 := HM.out.cell 5 rfl; have f5 := HM.out.free 5
  go_wp2
  exact bodyPost_ret (v := .agg #[.int .i64 (winF a xs).From, .int .i64 (winF a xs).Count, .int .i64 (winF a xs).Sum, .int .i64 (winF a xs).Low, .int .i64 (winF a xs).High, .int .i64 (winF a xs).Last]) (by simp [results, Try.results59, go_sem, *]) rfl ⟨rfl, (by repeat' (first | (with_reducible first | assumption | exact Below.refl _ _ | apply Below.drew | apply Below.alloc | apply Below.setCell) | (simp; done) | (simp; omega)))⟩
end Go.Proofs.Ytnchefajiedjiaa.AL
