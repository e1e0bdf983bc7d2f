/-
  The program's whiles of samples.
-/
import Derived.Test.YtnchefajiedjiaaICut
import Derived.Test.YtnchefajiedjiaaDraw3
import Derived.Test.YtnchefajiedjiaaIWin
import Derived.Test.YtnchefajiedjiaaSWins
import Derived.Test.YtnchefajiedjiaaThin
namespace Go.Proofs.Ytnchefajiedjiaa.AL
open Go Go.RowKit Go.Proofs
set_option linter.unusedVariables false

set_option maxRecDepth 100000 in
set_option maxHeartbeats 2000000 in
theorem clone_calls {A : Option Addr} {c : Nat} {xs : List Sample} {F : Foot} (w : World) (h : KS w A xs F) (hm : xs.length ≤ c) (hc : c ≤ maxLen) (hn : xs.length ≤ 1000000) :
    Calls Try.prog 68 #[.slice A xs.length c] w fun e w' => ∃ v, e = .returned v ∧ Own w' w.heap.size 36 v xs [] ∧ Below w.heap.size w w' := by
  obtain ⟨ii, hi, hz0, hz1, hz2⟩ := info_parts info_Sample
  unfold maxLen at hc
  cases A with
  | none =>
    have hx : xs = [] := by
      rcases h with ⟨h, _⟩ | ⟨_, _, _, _, h, _⟩
      · exact h
      · cases h
    subst hx
    clear h
    have hnil : ∀ W : World, (binOp .eql 25 (.slice none 0 c) (.slice none 0 0)).run Try.prog W = .ok (.bool true) W := fun W => Lib.run_eql_slice_nil W _ _ _ _ _ _ _ Try.underlying25
    go_enter Try.func68, Try.ntmps68
    go_wp2
    go_ret
    exact ⟨_, rfl, Own.nil _ _ _, Below.refl _ _⟩
  | some ad =>
    have HE := Lib.hid (Own.empty (α := Sample) w 36 (Nat.le_refl _))
    have hb0 : Below w.heap.size w (w.alloc (.cells #[] 36)) := (Below.refl _ _).alloc (Nat.le_refl _) _
    have hs0 := hb0.size
    rcases h with ⟨rfl, _⟩ | ⟨bk, o, css, Fs, hA, rfl, he, hcell, hb⟩
    · have hnil : ∀ W : World, (binOp .eql 25 (.slice (some ad) 0 c) (.slice none 0 0)).run Try.prog W = .ok (.bool false) W := fun W => Lib.run_eql_slice_nil W _ _ _ _ _ _ _ Try.underlying25
      go_enter Try.func68, Try.ntmps68
      go_wp2_with (at_builtin; refine wpList_append_Own rfl _ _ 25 rfl 36 ii (.agg #[.int .i64 0, .int .i64 0]) 16 Try.underlying25 hi hz0 hz1 hz2 rfl HE.out rfl (ys := []) .nil ad 0 c rfl rfl (by simp) (by simp) (by simp) (by omega) hs0 ?_)
      intro v' w' ho' hg' hv'
      have hb' := hb0.grown hg' hb0.size (fun j hj => (HE.out.ownLt j hj).1)
      have HX := Lib.hid (show ∃ v, Ending.returned v' = .returned v ∧ Own w' w.heap.size 36 v [] [] ∧ Below w.heap.size w w' from ⟨_, rfl, by simpa using ho', hb'⟩)
      clear hg' hv' ho' hb'
      go_wp2
      go_ret
      exact HX.out
    · cases hA
      have HEl := Lib.hid (he.keep (w' := w.alloc (.cells #[] 36)) fun k hk => Below.heap_alloc w _ k (he.lt k hk))
      have hfl : Fs.flatten = [] := elems_flat he
      have HC := Lib.hid (fun j u (hu : css.flatten[j]? = some u) => show (w.alloc (.cells #[] 36)).cell? ((⟨bk, o, none⟩ : Addr).add j) = some u by rw [Addr.add_lit]; exact (hb0.cell (p := ⟨bk, o + j, none⟩) hb).trans (hcell j u hu).1)
      clear he hcell
      have hnil : ∀ W : World, (binOp .eql 25 (.slice (some ⟨bk, o, none⟩) xs.length c) (.slice none 0 0)).run Try.prog W = .ok (.bool false) W := fun W => Lib.run_eql_slice_nil W _ _ _ _ _ _ _ Try.underlying25
      go_enter Try.func68, Try.ntmps68
      go_wp2_with (at_builtin; refine wpList_append_Own rfl _ _ 25 rfl 36 ii (.agg #[.int .i64 0, .int .i64 0]) 16 Try.underlying25 hi hz0 hz1 hz2 rfl HE.out rfl HEl.out ⟨bk, o, none⟩ xs.length c rfl rfl HC.out (by rw [hfl]; simp) (by simp; omega) (by omega) hs0 ?_)
      intro v' w' ho' hg' hv'
      have hb' := hb0.grown hg' hb0.size (fun j hj => (HE.out.ownLt j hj).1)
      have HX := Lib.hid (show ∃ v, Ending.returned v' = .returned v ∧ Own w' w.heap.size 36 v xs [] ∧ Below w.heap.size w w' from ⟨_, rfl, by simpa using ho', hb'⟩)
      clear hg' hv' ho' hb' HC HEl hfl
      go_wp2
      go_ret
      exact HX.out

/-- What is cut. -/
def CutPost (xs : List Sample) (a b : Int) (w : World) (e : Ending) (w' : World) : Prop := ∃ v, e = .returned v ∧ Fresh w' w.heap.size xs.length v (cutS xs a b) ∧ Below w.heap.size w w'
theorem cut_calls {A : Option Addr} {c : Nat} {xs : List Sample} {F : Foot} (a b : Int) (w : World) (h : KS w A xs F) (hm : xs.length ≤ c) (hc : c ≤ maxLen) (hn : xs.length ≤ 1000000) :
    Calls Try.prog 58 #[.slice A xs.length c, .int .i64 a, .int .i64 b] w (CutPost xs a b w) := by
  have b1 : Below w.heap.size w (w.alloc (.cells #[.int .i64 a] 3)) := (Below.refl _ _).alloc (Nat.le_refl _) _
  have b2 := b1.alloc (o := .cells #[.int .i64 b] 3) b1.size
  have P1 := Lib.hid (clone_calls ((w.alloc (.cells #[.int .i64 a] 3)).alloc (.cells #[.int .i64 b] 3)) (h.below b2) hm hc hn)
  have ca := ((Blk.new w [.int .i64 a] 3).alloc (.cells #[.int .i64 b] 3))
  have cb := (Blk.new (w.alloc (.cells #[.int .i64 a] 3)) [.int .i64 b] 3)
  rw [show (w.alloc (.cells #[.int .i64 a] 3)).heap.size = w.heap.size + 1 by simp] at cb
  have CA := Lib.hid ca; have CB := Lib.hid cb
  have hs2 : ((w.alloc (.cells #[.int .i64 a] 3)).alloc (.cells #[.int .i64 b] 3)).heap.size = w.heap.size + 2 := by simp
  have B2 := Lib.hid b2
  clear h ca cb b1 b2
  go_enter Try.func58, Try.ntmps58
  go_wp2_with fail
  generalize (w.alloc (.cells #[.int .i64 a] 3)).alloc (.cells #[.int .i64 b] 3) = w2 at P1 CA CB B2 hs2 ⊢
  refine P1.out.mono ?_
  rintro e w3 ⟨v3, rfl, o3, b3⟩
  clear P1
  obtain ⟨A8, c8, F8, rfl, m8, m8', k8, lo8⟩ := o3.out (by simp)
  have hs3 := b3.size
  have CA3 := CA.out.below b3 CA.out.lt; have CB3 := CB.out.below b3 CB.out.lt
  have P2 := Lib.hid (deleteFunc_calls a b w.heap.size (w.heap.size + 1) w3 k8 m8 m8' (CA3.cell 0 rfl) (CB3.cell 0 rfl) (by omega) (by omega) (fun hh => by have := lo8 _ hh; omega) (fun hh => by have := lo8 _ hh; omega))
  have B3 := Lib.hid (B2.out.trans (b3.mono (by omega)))
  clear CA3 CB3 o3 b3 k8
  go_wp2_with fail
  refine P2.out.mono ?_
  rintro e w4 ⟨G, rfl, k4, hG, t4⟩
  have hcl := cutS_len xs a b
  have HX := Lib.hid (show CutPost xs a b w (.returned (.slice A8 (cutS xs a b).length c8)) w4 from ⟨_, rfl, ⟨A8, c8, G, rfl, by omega, by omega, m8', k4, fun k hk => by have := lo8 k (hG k hk); omega⟩, B3.out.trans (t4.below (fun k hk => by have := lo8 k hk; omega) (by omega))⟩)
  clear k4 hG t4 P2 B3
  go_wp2
  go_ret
  exact HX.out

theorem timesOk_calls (a b : Int) (w : World) :
    Calls Try.prog 57 #[.int .i64 a, .int .i64 b] w fun e w' => e = .returned (.bool (timesB a b)) ∧ w' = w := by
  by_cases h1 : 0 ≤ a ∧ a ≤ 9999
  · have e1 : (decide (0 ≤ a) && decide (a ≤ 9999)) = true := by simp [h1]
    go_enter Try.func57, Try.ntmps57
    go_wp2_with ((go_at_call 64; refine (isTime_calls _ _).mono ?_; rintro e w1 ⟨rfl, rfl⟩))
    all_goals (
      go_ret
      refine ⟨ret_bool ?_, rfl⟩
      simp [timesB, h1]
      try omega)
  · have e1 : (decide (0 ≤ a) && decide (a ≤ 9999)) = false := by simp; omega
    go_enter Try.func57, Try.ntmps57
    go_wp2_with ((go_at_call 64; refine (isTime_calls _ _).mono ?_; rintro e w1 ⟨rfl, rfl⟩))
    go_ret
    refine ⟨ret_bool ?_, rfl⟩
    simp [timesB]
    omega

set_option maxRecDepth 100000 in
set_option maxHeartbeats 4000000 in
theorem implWins_calls {A : Option Addr} {c : Nat} {xs : List Sample} {F : Foot} (a b step : Int) (w : World) (h : KS w A xs F) (hm : xs.length ≤ c) (hc : c ≤ maxLen) :
    Calls Try.prog 31 #[.slice A xs.length c, .int .i64 a, .int .i64 b, .int .i64 step] w fun e w' => ∃ v, e = .returned v ∧ Own w' w.heap.size 41 v (winsL xs a b step) [] ∧ Below w.heap.size w w' := by
  obtain ⟨ii, hi, hz0, hz1, hz2⟩ := info_parts info_Win
  have hc' := hc
  unfold maxLen at hc
  have H := Lib.hid h; clear h
  have P0 := Lib.hid (samplesOk_calls w H.out hm hc')
  by_cases hok : SamOk xs
  · have et : samOk xs = true := samOk_true hok
    have hlen := samOk_len hok
    have HK := Lib.hid hok; clear hok
    by_cases ht : 0 ≤ a ∧ a ≤ 9999 ∧ a ≤ b ∧ b ≤ 10000
    · have e2 : timesB a b = true := decide_eq_true ht
      by_cases hs : 1 ≤ step ∧ step ≤ 9999
      · have e3 : stepB step = true := by simp [stepB, hs]
        have HR := Lib.hid (winsL_ok (show WinsOk xs a b step from ⟨HK.out, ht, hs⟩))
        go_enter Try.func31, Try.ntmps31
        go_wp2_with (first | (go_at_call 42; refine P0.out.mono ?_; rintro e w1 ⟨rfl, hq1⟩) | (go_at_call 57; refine (timesOk_calls _ _ _).mono ?_; rintro e w2 ⟨rfl, rfl⟩) | (go_at_call 45; refine (stepOk_calls _ _).mono ?_; rintro e w2 ⟨rfl, rfl⟩))
        clear et e2 e3 P0
        go_loopw [9, 10, 11] (fun v at_ _ wr => ∃ (k : Nat) (ys : List Win) (t : Int), at_ = .int .i64 t ∧ Own wr w.heap.size 41 v ys [] ∧ ys ++ winsGo xs b step (10000 - k) t = winsL xs a b step ∧ k ≤ 10000 ∧ a + k ≤ t ∧ t ≤ 20000 ∧ ys.length ≤ k ∧ Below w.heap.size w wr) (fun _ at_ _ _ => (b - intOf at_).toNat)
        case atStart => exact ⟨0, [], a, rfl, Own.nil _ _ _, by rw [HR.out]; rfl, by omega, by omega, by omega, Nat.le_refl _, hq1⟩
        case round =>
          obtain ⟨k, ys, at_, rfl, ho, hT, hk, hak, hat, hys, hb⟩ := hrel
          have HO := Lib.hid ho; have HT := Lib.hid hT; clear ho hT
          by_cases hlt : at_ < b
          · by_cases hmn : at_ + step ≤ b
            · have hmin : min (at_ + step) b = at_ + step := by omega
              have P1 := Lib.hid (cut_calls at_ (at_ + step) wr (H.out.below hb) hm hc' (by omega))
              go_wp2_with fail
              refine P1.out.mono ?_
              rintro e w1 ⟨_, rfl, ⟨A1, c1, F1, rfl, _, m1, m1', k1, _⟩, b1⟩
              clear P1
              have hcl := cutS_len xs at_ (at_ + step)
              have hb1 := hb.trans (b1.mono hb.size)
              have HO1 := Lib.hid (HO.out.below b1)
              generalize hCS : cutS xs at_ (at_ + step) = CS at *
              have hval : ValOk CS := by rw [← hCS]; exact HK.out.val.cut _ _
              have hmc : cutS xs at_ (min (at_ + step) b) = CS := by rw [hmin]; exact hCS
              have hlen : CS.length ≤ 10000 := by omega
              have n1 := m1'
              unfold maxLen at n1
              by_cases hz : 0 < CS.length
              · have HG := Lib.hid (winsGo_some (step := step) (9999 - k) hlt hmc hz)
                have P2 := Lib.hid (implWinOf_calls at_ w1 k1 m1 m1' (by omega) hz hval)
                clear b1 hCS hmc hval k1
                go_wp2_with fail
                refine P2.out.mono ?_
                rintro e w2 ⟨rfl, b2⟩
                clear P2
                have hb2 := hb1.trans (b2.mono hb1.size)
                have HO2 := Lib.hid (HO1.out.below b2)
                have hb2s := hb2.size
                obtain ⟨W2, hW2⟩ : ∃ W2, W2 = w2 := ⟨_, rfl⟩
                subst hW2
                clear b2 HO1 hb1
                go_wp2_with (at_builtin; refine wpList_push rfl _ _ 44 rfl 41 ii (.agg #[.int .i64 0, .int .i64 0, .int .i64 0, .int .i64 0, .int .i64 0, .int .i64 0]) 48 Try.underlying44 hi hz0 hz1 hz2 rfl (W := W2) HO2.out rfl (kf_Win_mk _ (winF at_ CS)) rfl (by simp) (by simp) (by omega) (by omega) hb2s ?_)
                intro v' w' ho' hg' hv'
                have hb' := hb2.grown hg' hb2.size (fun j hj => (HO2.out.ownLt j hj).1)
                clear hg' hv' hb2
                have HO' := Lib.hid ho'; clear ho'
                go_wp2
                go_roundw
                case rel =>
                  refine ⟨k + 1, ys ++ [winF at_ CS], at_ + step, rfl, by simpa using HO'.out, ?_, by omega, by omega, by omega, by simp; omega, hb'⟩
                  rw [← HT.out, show 10000 - k = (9999 - k) + 1 by omega, HG.out, show 10000 - (k + 1) = 9999 - k by omega]
                  simp
                case measure => simp [intOf]; omega
              · have HG := Lib.hid (winsGo_none (step := step) (9999 - k) hlt hmc (by omega))
                clear b1 hCS hmc hval k1
                go_wp2
                go_roundw
                case rel =>
                  refine ⟨k + 1, ys, at_ + step, rfl, HO1.out, ?_, by omega, by omega, by omega, by omega, hb1⟩
                  rw [← HT.out, show 10000 - k = (9999 - k) + 1 by omega, HG.out, show 10000 - (k + 1) = 9999 - k by omega]
                case measure => simp [intOf]; omega
            · have hmin : min (at_ + step) b = b := by omega
              have P1 := Lib.hid (cut_calls at_ (b) wr (H.out.below hb) hm hc' (by omega))
              go_wp2_with fail
              refine P1.out.mono ?_
              rintro e w1 ⟨_, rfl, ⟨A1, c1, F1, rfl, _, m1, m1', k1, _⟩, b1⟩
              clear P1
              have hcl := cutS_len xs at_ (b)
              have hb1 := hb.trans (b1.mono hb.size)
              have HO1 := Lib.hid (HO.out.below b1)
              generalize hCS : cutS xs at_ (b) = CS at *
              have hval : ValOk CS := by rw [← hCS]; exact HK.out.val.cut _ _
              have hmc : cutS xs at_ (min (at_ + step) b) = CS := by rw [hmin]; exact hCS
              have hlen : CS.length ≤ 10000 := by omega
              have n1 := m1'
              unfold maxLen at n1
              by_cases hz : 0 < CS.length
              · have HG := Lib.hid (winsGo_some (step := step) (9999 - k) hlt hmc hz)
                have P2 := Lib.hid (implWinOf_calls at_ w1 k1 m1 m1' (by omega) hz hval)
                clear b1 hCS hmc hval k1
                go_wp2_with fail
                refine P2.out.mono ?_
                rintro e w2 ⟨rfl, b2⟩
                clear P2
                have hb2 := hb1.trans (b2.mono hb1.size)
                have HO2 := Lib.hid (HO1.out.below b2)
                have hb2s := hb2.size
                obtain ⟨W2, hW2⟩ : ∃ W2, W2 = w2 := ⟨_, rfl⟩
                subst hW2
                clear b2 HO1 hb1
                go_wp2_with (at_builtin; refine wpList_push rfl _ _ 44 rfl 41 ii (.agg #[.int .i64 0, .int .i64 0, .int .i64 0, .int .i64 0, .int .i64 0, .int .i64 0]) 48 Try.underlying44 hi hz0 hz1 hz2 rfl (W := W2) HO2.out rfl (kf_Win_mk _ (winF at_ CS)) rfl (by simp) (by simp) (by omega) (by omega) hb2s ?_)
                intro v' w' ho' hg' hv'
                have hb' := hb2.grown hg' hb2.size (fun j hj => (HO2.out.ownLt j hj).1)
                clear hg' hv' hb2
                have HO' := Lib.hid ho'; clear ho'
                go_wp2
                go_roundw
                case rel =>
                  refine ⟨k + 1, ys ++ [winF at_ CS], at_ + step, rfl, by simpa using HO'.out, ?_, by omega, by omega, by omega, by simp; omega, hb'⟩
                  rw [← HT.out, show 10000 - k = (9999 - k) + 1 by omega, HG.out, show 10000 - (k + 1) = 9999 - k by omega]
                  simp
                case measure => simp [intOf]; omega
              · have HG := Lib.hid (winsGo_none (step := step) (9999 - k) hlt hmc (by omega))
                clear b1 hCS hmc hval k1
                go_wp2
                go_roundw
                case rel =>
                  refine ⟨k + 1, ys, at_ + step, rfl, HO1.out, ?_, by omega, by omega, by omega, by omega, hb1⟩
                  rw [← HT.out, show 10000 - k = (9999 - k) + 1 by omega, HG.out, show 10000 - (k + 1) = 9999 - k by omega]
                case measure => simp [intOf]; omega
          · have HG := Lib.hid (winsGo_end xs (step := step) (10000 - k) hlt)
            go_wp2
            go_ret
            refine ⟨_, rfl, ?_, hb⟩
            have := HT.out
            rw [HG.out, List.append_nil] at this
            rw [← this]; exact HO.out
      · have e3 : stepB step = false := by simp [stepB]; omega
        have HR := Lib.hid (winsL_no (show ¬ WinsOk xs a b step from fun hh => hs hh.2.2))
        go_enter Try.func31, Try.ntmps31
        go_wp2_with (first | (go_at_call 42; refine P0.out.mono ?_; rintro e w1 ⟨rfl, hq1⟩) | (go_at_call 57; refine (timesOk_calls _ _ _).mono ?_; rintro e w2 ⟨rfl, rfl⟩) | (go_at_call 45; refine (stepOk_calls _ _).mono ?_; rintro e w2 ⟨rfl, rfl⟩))
        go_ret
        exact ⟨_, rfl, by rw [HR.out]; exact Own.nil _ _ _, hq1⟩
    · have e2 : timesB a b = false := decide_eq_false ht
      have HR := Lib.hid (winsL_no (show ¬ WinsOk xs a b step from fun hh => ht hh.2.1))
      go_enter Try.func31, Try.ntmps31
      go_wp2_with (first | (go_at_call 42; refine P0.out.mono ?_; rintro e w1 ⟨rfl, hq1⟩) | (go_at_call 57; refine (timesOk_calls _ _ _).mono ?_; rintro e w2 ⟨rfl, rfl⟩) | (go_at_call 45; refine (stepOk_calls _ _).mono ?_; rintro e w2 ⟨rfl, rfl⟩))
      go_ret
      exact ⟨_, rfl, by rw [HR.out]; exact Own.nil _ _ _, hq1⟩
  · have et : samOk xs = false := by simp [samOk, hok]
    have HR := Lib.hid (winsL_no (show ¬ WinsOk xs a b step from fun hh => hok hh.1))
    go_enter Try.func31, Try.ntmps31
    go_wp2_with (first | (go_at_call 42; refine P0.out.mono ?_; rintro e w1 ⟨rfl, hq1⟩) | (go_at_call 57; refine (timesOk_calls _ _ _).mono ?_; rintro e w2 ⟨rfl, rfl⟩) | (go_at_call 45; refine (stepOk_calls _ _).mono ?_; rintro e w2 ⟨rfl, rfl⟩))
    go_ret
    exact ⟨_, rfl, by rw [HR.out]; exact Own.nil _ _ _, hq1⟩
end Go.Proofs.Ytnchefajiedjiaa.AL
