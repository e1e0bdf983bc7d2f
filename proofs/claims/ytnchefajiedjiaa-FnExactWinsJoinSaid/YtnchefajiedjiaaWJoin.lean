/-
  One while of several: the program's way (a fold by a function value) and the reference's.
-/
import Derived.Test.YtnchefajiedjiaaWinOk
namespace Go.Proofs.Ytnchefajiedjiaa.AL
open Go Go.RowKit Go.Proofs
open Ty (KF)
set_option linter.unusedVariables false

def winZ : Win := ⟨0, 0, 0, 0, 0, 0⟩
def wj (a b : Win) : Win := ⟨a.From, a.Count + b.Count, a.Sum + b.Sum, min a.Low b.Low, max a.High b.High, b.Last⟩
def wfold (xs : List Win) : Nat → Win
  | 0 => xs.getD 0 winZ
  | k + 1 => wj (wfold xs k) (xs.getD (k + 1) winZ)
def WAt (xs : List Win) (k : Nat) : Prop := ∃ h : k < xs.length, WinOk xs[k] ∧ (0 < k → xs[k - 1].From < xs[k].From)
def WJOk (xs : List Win) : Prop := ∀ k, k < xs.length → WAt xs k
open Classical in
noncomputable def winsJoin (xs : List Win) : Win × Bool := if 0 < xs.length ∧ WJOk xs ∧ (wfold xs (xs.length - 1)).Count ≤ 10000 then (wfold xs (xs.length - 1), true) else (winZ, false)
theorem winsJoin_yes {xs : List Win} (h0 : 0 < xs.length) (h : WJOk xs) (hc : (wfold xs (xs.length - 1)).Count ≤ 10000) : winsJoin xs = (wfold xs (xs.length - 1), true) := by
  simp only [winsJoin]; rw [if_pos ⟨h0, h, hc⟩]
theorem winsJoin_no {xs : List Win} (h : ¬ (0 < xs.length ∧ WJOk xs ∧ (wfold xs (xs.length - 1)).Count ≤ 10000)) : winsJoin xs = (winZ, false) := by
  simp only [winsJoin]; rw [if_neg h]
theorem wfold_succ {xs : List Win} {k : Nat} (h : k + 1 < xs.length) : wfold xs (k + 1) = wj (wfold xs k) xs[k + 1] := by
  simp only [wfold, List.getD, List.getElem?_eq_getElem h, Option.getD_some]
theorem wfold_zero {xs : List Win} (h : 0 < xs.length) : wfold xs 0 = xs[0] := by
  simp only [wfold, List.getD, List.getElem?_eq_getElem h, Option.getD_some]

/-- Bounds of what is together so far. -/
def WB (n : Nat) (w : Win) : Prop := 0 ≤ w.From ∧ w.From ≤ 9999 ∧ 1 ≤ w.Count ∧ w.Count ≤ n * 10000 ∧ 0 ≤ w.Low ∧ w.Low ≤ w.High ∧ w.High ≤ 2147483647 ∧ 0 ≤ w.Sum ∧ w.Sum ≤ n * 21474836470000 ∧ w.Low ≤ w.Last ∧ w.Last ≤ w.High
theorem wb_of_ok {w : Win} (h : WinOk w) : WB 1 w := by
  obtain ⟨h1, h2, h3, h4, h5, h6, h7, h8, h9, h10⟩ := h
  obtain ⟨p1, p2⟩ := mul_bd h5 (by omega) h3 h4
  obtain ⟨p3, p4⟩ := mul_bd (show 0 ≤ w.High by omega) h8 h3 h4
  unfold WB; omega
theorem wb_wj {a b : Win} {n : Nat} (ha : WB n a) (hb : WinOk b) : WB (n + 1) (wj a b) := by
  have h1 := wb_of_ok hb
  unfold WB wj at *
  simp only
  omega
theorem wb_wfold {xs : List Win} (h : WJOk xs) : ∀ k, k < xs.length → WB (k + 1) (wfold xs k)
  | 0, hk => by rw [wfold_zero hk]; obtain ⟨_, h1, _⟩ := h 0 hk; exact wb_of_ok h1
  | k + 1, hk => by rw [wfold_succ hk]; obtain ⟨_, h1, _⟩ := h (k + 1) hk; exact wb_wj (wb_wfold h k (by omega)) h1
theorem wfold_from {xs : List Win} (h0 : 0 < xs.length) : ∀ k, k < xs.length → (wfold xs k).From = xs[0].From
  | 0, hk => by rw [wfold_zero hk]
  | k + 1, hk => by rw [wfold_succ hk]; exact wfold_from h0 k (by omega)
theorem wj_len {xs : List Win} {n : Nat} (hn : n ≤ xs.length) (h : ∀ k, k < n → WAt xs k) : n ≤ 10000 := by
  have : ∀ i (hi : i < n), (i : Int) ≤ (xs[i]'(by omega)).From := by
    intro i
    induction i with
    | zero => intro hi; obtain ⟨_, h1, _⟩ := h 0 hi; simpa using h1.1
    | succ i ih =>
      intro hi
      obtain ⟨_, _, h1⟩ := h (i + 1) hi
      have := ih (by omega)
      have := h1 (by omega)
      simp only [Nat.add_sub_cancel] at this
      push_cast
      omega
  by_cases h0 : n = 0
  · omega
  · have h1 := this (n - 1) (by omega)
    obtain ⟨_, h2, _⟩ := h (n - 1) (by omega)
    have := h2.2.1
    omega

theorem wj_calls (a b : Win) (w : World) (n : Nat) (hn : n ≤ 10000) (ha : WB n a) (hb : WinOk b) :
    Calls Try.prog 52 #[.agg #[.int .i64 a.From, .int .i64 a.Count, .int .i64 a.Sum, .int .i64 a.Low, .int .i64 a.High, .int .i64 a.Last], .agg #[.int .i64 b.From, .int .i64 b.Count, .int .i64 b.Sum, .int .i64 b.Low, .int .i64 b.High, .int .i64 b.Last]] w
      fun e w' => e = .returned (.agg #[.int .i64 (wj a b).From, .int .i64 (wj a b).Count, .int .i64 (wj a b).Sum, .int .i64 (wj a b).Low, .int .i64 (wj a b).High, .int .i64 (wj a b).Last]) ∧ Below w.heap.size w w' := by
  have h1 := wb_of_ok hb
  unfold WB at ha h1
  obtain ⟨a1, a2, a3, a4, a5, a6, a7, a8, a9, a10, a11⟩ := ha
  obtain ⟨b1, b2, b3, b4, b5, b6, b7, b8, b9, b10, b11⟩ := h1
  have s1 : a.Count + b.Count ≤ 200000000 := by omega
  have s2 : a.Sum + b.Sum ≤ 400000000000000000 := by omega
  clear hb
  go_enter Try.func52, Try.ntmps52
  go_wp2
  all_goals (refine bodyPost_ret (v := .agg #[.int .i64 (wj a b).From, .int .i64 (wj a b).Count, .int .i64 (wj a b).Sum, .int .i64 (wj a b).Low, .int .i64 (wj a b).High, .int .i64 (wj a b).Last]) ?_ rfl ⟨rfl, (by repeat' (first | (with_reducible first | assumption | exact Below.refl _ _ | apply Below.drew | apply Below.alloc | apply Below.setCell) | (simp; done) | (simp; omega)))⟩; simp [results, Try.results52, go_sem, wj]; try omega)

set_option maxHeartbeats 4000000 in
theorem foldWin_calls {A : Option Addr} {c : Nat} {xs ys : List Win} {F : Foot} (w : World) (h : KS w A ys F) (hm : ys.length ≤ c) (hc : c ≤ maxLen) (hx : ys = xs.drop 1) (h0 : 0 < xs.length) (hok : WJOk xs) :
    Calls Try.prog 51 #[.slice A ys.length c, .agg #[.int .i64 (wfold xs 0).From, .int .i64 (wfold xs 0).Count, .int .i64 (wfold xs 0).Sum, .int .i64 (wfold xs 0).Low, .int .i64 (wfold xs 0).High, .int .i64 (wfold xs 0).Last], .func (.func 52) #[] #[]] w
      fun e w' => e = .returned (.agg #[.int .i64 (wfold xs (xs.length - 1)).From, .int .i64 (wfold xs (xs.length - 1)).Count, .int .i64 (wfold xs (xs.length - 1)).Sum, .int .i64 (wfold xs (xs.length - 1)).Low, .int .i64 (wfold xs (xs.length - 1)).High, .int .i64 (wfold xs (xs.length - 1)).Last]) ∧ Below w.heap.size w w' := by
  unfold maxLen at hc
  have H := Lib.hid h; have HX := Lib.hid hx; have HK := Lib.hid hok; clear h hx hok
  have hl : ys.length + 1 = xs.length := by rw [HX.out]; simp; omega
  have HL := Lib.hid hl; clear hl
  go_enter Try.func51, Try.ntmps51
  go_wp2
  go_loopw [11] (fun i wr => ∃ k : Nat, k ≤ ys.length ∧ i = .int .i64 k ∧ Hid (Blk wr w.heap.size [.int .i64 (wfold xs k).From, .int .i64 (wfold xs k).Count, .int .i64 (wfold xs k).Sum, .int .i64 (wfold xs k).Low, .int .i64 (wfold xs k).High, .int .i64 (wfold xs k).Last] 41) ∧ Hid (Blk wr (w.heap.size + 1) [.int .i64 0, .int .i64 0, .int .i64 0, .int .i64 0, .int .i64 0, .int .i64 0] 41) ∧ Below w.heap.size w wr ∧ w.heap.size + 2 ≤ wr.heap.size) (fun i _ => ys.length - (intOf i).toNat)
  case atStart => exact ⟨0, Nat.zero_le _, rfl, Lib.hid ((Blk.new w [.int .i64 (wfold xs 0).From, .int .i64 (wfold xs 0).Count, .int .i64 (wfold xs 0).Sum, .int .i64 (wfold xs 0).Low, .int .i64 (wfold xs 0).High, .int .i64 (wfold xs 0).Last] 41).alloc _), Lib.hid (by have := Blk.new (w.alloc (.cells #[.int .i64 (wfold xs 0).From, .int .i64 (wfold xs 0).Count, .int .i64 (wfold xs 0).Sum, .int .i64 (wfold xs 0).Low, .int .i64 (wfold xs 0).High, .int .i64 (wfold xs 0).Last] 41)) [.int .i64 0, .int .i64 0, .int .i64 0, .int .i64 0, .int .i64 0, .int .i64 0] 41; simpa using this), (by repeat' (first | (with_reducible first | assumption | exact Below.refl _ _ | apply Below.drew | apply Below.alloc | apply Below.setCell) | (simp; done) | (simp; omega))), by simp⟩
  case round =>
    obtain ⟨k, hk, rfl, hB0, hB1, hb, hsz⟩ := hrel
    by_cases hlt : k < ys.length
    · have hk1 : k + 1 < xs.length := by rw [← HL.out]; omega
      obtain ⟨b, o, rfl, hb1, _, g0, g1, g2, g3, g4, g5⟩ := ks_Win (H.out.below hb) k hlt
      have hxy : ys[k] = xs[k + 1] := by have := HX.out; subst this; simp
      rw [hxy] at g0 g1 g2 g3 g4 g5
      have HS := Lib.hid (wfold_succ hk1)
      have HWJ := Lib.hid (wj_calls (wfold xs k) xs[k + 1] · (k + 1) (by have := wj_len (n := xs.length) (Nat.le_refl _) HK.out; omega) (wb_wfold HK.out k (by omega)) (HK.out (k + 1) hk1).2.1)
      clear hxy
      have c0 := hB0.out.cell 0 rfl; have c1 := hB0.out.cell 1 rfl; have c2 := hB0.out.cell 2 rfl; have c3 := hB0.out.cell 3 rfl; have c4 := hB0.out.cell 4 rfl; have c5 := hB0.out.cell 5 rfl
      have hl0 : w.heap.size < wr.heap.size := by omega
      go_wp2_with (go_at_call 52; refine (HWJ.out _).mono ?_; rintro e w3 ⟨rfl, hb3⟩; have B3 := (hB0.out.alloc _).below hb3 (by simp; omega); have d0 := B3.cell 0 rfl; have d1 := B3.cell 1 rfl; have d2 := B3.cell 2 rfl; have d3 := B3.cell 3 rfl; have d4 := B3.cell 4 rfl; have d5 := B3.cell 5 rfl; have fr := B3.free; have e0 := fr 0; have e1 := fr 1; have e2 := fr 2; have e3 := fr 3; have e4 := fr 4; have e5 := fr 5; have HB3 := Lib.hid B3; clear fr B3)
      have hz3 := hb3.size
      simp only [World.size_alloc] at hz3
      have HB4 := Lib.hid (Blk.below (hB1.out.alloc (.cells #[.int .i64 xs[k + 1].From, .int .i64 xs[k + 1].Count, .int .i64 xs[k + 1].Sum, .int .i64 xs[k + 1].Low, .int .i64 xs[k + 1].High, .int .i64 xs[k + 1].Last] 41)) hb3 (by simp; omega))
      have HBB := Lib.hid ((hb.alloc hb.size (.cells #[.int .i64 xs[k + 1].From, .int .i64 xs[k + 1].Count, .int .i64 xs[k + 1].Sum, .int .i64 xs[k + 1].Low, .int .i64 xs[k + 1].High, .int .i64 xs[k + 1].Last] 41)).trans (hb3.mono (by simp; omega)))
      go_roundw
      case rel =>
        refine ⟨k + 1, hlt, by go_num, ?_, ?_, ?_, by simp; omega⟩
        · rw [HS.out]; exact Lib.hid (HB3.out.setAll [.int .i64 (wj (wfold xs k) xs[k + 1]).From, .int .i64 (wj (wfold xs k) xs[k + 1]).Count, .int .i64 (wj (wfold xs k) xs[k + 1]).Sum, .int .i64 (wj (wfold xs k) xs[k + 1]).Low, .int .i64 (wj (wfold xs k) xs[k + 1]).High, .int .i64 (wj (wfold xs k) xs[k + 1]).Last] rfl)
        · exact Lib.hid (HB4.out.keep (setMany_block w3 w.heap.size [.int .i64 (wj (wfold xs k) xs[k + 1]).From, .int .i64 (wj (wfold xs k) xs[k + 1]).Count, .int .i64 (wj (wfold xs k) xs[k + 1]).Sum, .int .i64 (wj (wfold xs k) xs[k + 1]).Low, .int .i64 (wj (wfold xs k) xs[k + 1]).High, .int .i64 (wj (wfold xs k) xs[k + 1]).Last] 0 _ (by omega)))
        · have hbb := HBB.out; exact (by repeat' (first | (with_reducible first | assumption | exact Below.refl _ _ | apply Below.drew | apply Below.alloc | apply Below.setCell) | (simp; done) | (simp; omega)))
      case measure => simp [intOf]; omega
    · obtain rfl : k = ys.length := by omega
      have HK2 := Lib.hid (show ys.length = xs.length - 1 by rw [← HL.out]; rfl)
      have c0 := hB0.out.cell 0 rfl; have c1 := hB0.out.cell 1 rfl; have c2 := hB0.out.cell 2 rfl; have c3 := hB0.out.cell 3 rfl; have c4 := hB0.out.cell 4 rfl; have c5 := hB0.out.cell 5 rfl
      have d0 := hB1.out.cell 0 rfl; have d1 := hB1.out.cell 1 rfl; have d2 := hB1.out.cell 2 rfl; have d3 := hB1.out.cell 3 rfl; have d4 := hB1.out.cell 4 rfl; have d5 := hB1.out.cell 5 rfl
      have e0 := hB1.out.free 0; have e1 := hB1.out.free 1; have e2 := hB1.out.free 2; have e3 := hB1.out.free 3; have e4 := hB1.out.free 4; have e5 := hB1.out.free 5
      go_wp2
      rw [← HK2.out]
      exact bodyPost_ret (v := .agg #[.int .i64 (wfold xs ys.length).From, .int .i64 (wfold xs ys.length).Count, .int .i64 (wfold xs ys.length).Sum, .int .i64 (wfold xs ys.length).Low, .int .i64 (wfold xs ys.length).High, .int .i64 (wfold xs ys.length).Last]) (by simp [results, Try.results51, go_sem, *]) rfl ⟨rfl, (by repeat' (first | (with_reducible first | assumption | exact Below.refl _ _ | apply Below.drew | apply Below.alloc | apply Below.setCell) | (simp; done) | (simp; omega)))⟩
end Go.Proofs.Ytnchefajiedjiaa.AL
