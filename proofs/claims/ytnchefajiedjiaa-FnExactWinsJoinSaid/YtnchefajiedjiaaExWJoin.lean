/-
  One while of several: the two functions, side by side.
-/
import Derived.Test.YtnchefajiedjiaaSWJoin
namespace Go.Proofs.Ytnchefajiedjiaa.AL
open Go Go.RowKit Go.Proofs
open Ty (KF)
set_option linter.unusedVariables false

set_option maxRecDepth 100000 in
set_option maxHeartbeats 4000000 in
theorem fnExactWinsJoin_calls {A : Option Addr} {c : Nat} {xs : List Win} {F : Foot} (w : World) (h : KS w A xs F) (hm : xs.length ≤ c) (hc : c ≤ maxLen) :
    Calls Try.prog 6 #[.slice A xs.length c] w fun e w' => e = .returned (.bool true) ∧ Below w.heap.size w w' := by
  by_cases hs : (xs.length : Int) ≤ 1048576
  · have hz := szWinS_calls (A := A) (c := c) (xs := xs) 1048576 w (by omega) (by omega) hm hc
    rw [if_pos hs] at hz
    have HZ := Lib.hid hz; clear hz
    have HB := Lib.hid (Below.refl w.heap.size w)
    have K_a := Lib.hid h
    have HI_a := Lib.hid h.lt; have m_a := hm; have mm_a := hc; clear h hm hc
    have et1 : decide ((winsJoin xs).1 = (winsJoin xs).1) = true := by simp
    have et2 : decide (xs = xs) = true := by simp
    have et3 : ((winsJoin xs).2 != (winsJoin xs).2) = false := by simp
    have en1 : decide (1048576 - (xs.length : Int) < 0) = false := by simp; omega
    go_enter Try.func6, Try.ntmps6
    go_wp2_with ((go_at_call 23; refine HZ.out.mono ?_; rintro e w1 ⟨rfl, rfl⟩))
    go_wp2_with fail
    refine (toWinS_calls _ K_a.out (by omega)).mono ?_
    rintro e w1 ⟨v, rfl, o, b⟩
    obtain ⟨A_p, c_p, F_p, rfl, m_p, mm_p, k, lo⟩ := o.out (by simp)
    clear o
    have TR := Turns.of_below (F := []) b
    have SZ1 : w.heap.size ≤ w1.heap.size := TR.size
    replace K_a := Lib.hid (TR.ks K_a.out (by simp))
    replace HB := Lib.hid (HB.out.trans (TR.below (B := w.heap.size) (by simp) HB.out.size))
    clear TR
    clear b
    have K_p := Lib.hid k; have LO_p := Lib.hid lo; have HI_p := Lib.hid k.lt; clear k lo
    go_wp2_with fail
    refine (specWinsJoin_calls _ K_p.out m_p mm_p).mono ?_
    rintro e w2 ⟨rfl, b⟩
    have TR := Turns.of_below (F := []) b
    have SZ2 : w1.heap.size ≤ w2.heap.size := TR.size
    replace K_a := Lib.hid (TR.ks K_a.out (by simp))
    replace K_p := Lib.hid (TR.ks K_p.out (by simp))
    replace HB := Lib.hid (HB.out.trans (TR.below (B := w.heap.size) (by simp) HB.out.size))
    clear TR
    clear b
    go_wp2_with fail
    have bx := Blk.new w2 [.int .i64 (winsJoin xs).1.From, .int .i64 (winsJoin xs).1.Count, .int .i64 (winsJoin xs).1.Sum, .int .i64 (winsJoin xs).1.Low, .int .i64 (winsJoin xs).1.High, .int .i64 (winsJoin xs).1.Last] 41
    have b : Below w2.heap.size w2 (w2.alloc (.cells #[.int .i64 (winsJoin xs).1.From, .int .i64 (winsJoin xs).1.Count, .int .i64 (winsJoin xs).1.Sum, .int .i64 (winsJoin xs).1.Low, .int .i64 (winsJoin xs).1.High, .int .i64 (winsJoin xs).1.Last] 41)) := (Below.refl _ _).alloc (Nat.le_refl _) _
    generalize hW : w2.alloc _ = w3 at bx b ⊢
    clear hW
    have TR := Turns.of_below (F := []) b
    have SZ3 : w2.heap.size ≤ w3.heap.size := TR.size
    replace K_a := Lib.hid (TR.ks K_a.out (by simp))
    replace K_p := Lib.hid (TR.ks K_p.out (by simp))
    replace HB := Lib.hid (HB.out.trans (TR.below (B := w.heap.size) (by simp) HB.out.size))
    clear TR
    have X_r := Lib.hid bx; clear bx b
    generalize har : w2.heap.size = ar at X_r ⊢
    clear K_p
    refine (toWinS_calls _ K_a.out (by omega)).mono ?_
    rintro e w4 ⟨v, rfl, o, b⟩
    obtain ⟨A_q, c_q, F_q, rfl, m_q, mm_q, k, lo⟩ := o.out (by simp)
    clear o
    have TR := Turns.of_below (F := []) b
    have SZ4 : w3.heap.size ≤ w4.heap.size := TR.size
    replace K_a := Lib.hid (TR.ks K_a.out (by simp))
    replace HB := Lib.hid (HB.out.trans (TR.below (B := w.heap.size) (by simp) HB.out.size))
    clear TR
    replace X_r := Lib.hid (X_r.out.below b X_r.out.lt)
    clear b
    have K_q := Lib.hid k; have LO_q := Lib.hid lo; have HI_q := Lib.hid k.lt; clear k lo
    go_wp2_with fail
    refine (implWinsJoin_calls _ K_q.out m_q mm_q).mono ?_
    rintro e w5 ⟨rfl, b⟩
    have TR := Turns.of_below (F := []) b
    have SZ5 : w4.heap.size ≤ w5.heap.size := TR.size
    replace K_a := Lib.hid (TR.ks K_a.out (by simp))
    replace K_q := Lib.hid (TR.ks K_q.out (by simp))
    replace HB := Lib.hid (HB.out.trans (TR.below (B := w.heap.size) (by simp) HB.out.size))
    clear TR
    replace X_r := Lib.hid (X_r.out.below b X_r.out.lt)
    clear b
    have r0 := X_r.out.cell 0 rfl; have r1 := X_r.out.cell 1 rfl; have r2 := X_r.out.cell 2 rfl; have r3 := X_r.out.cell 3 rfl; have r4 := X_r.out.cell 4 rfl; have r5 := X_r.out.cell 5 rfl
    have rl := X_r.out.lt; have rn := Nat.ne_of_lt rl
    go_wp2_with fail
    have bx := Blk.new w5 [.int .i64 (winsJoin xs).1.From, .int .i64 (winsJoin xs).1.Count, .int .i64 (winsJoin xs).1.Sum, .int .i64 (winsJoin xs).1.Low, .int .i64 (winsJoin xs).1.High, .int .i64 (winsJoin xs).1.Last] 41
    have b : Below w5.heap.size w5 (w5.alloc (.cells #[.int .i64 (winsJoin xs).1.From, .int .i64 (winsJoin xs).1.Count, .int .i64 (winsJoin xs).1.Sum, .int .i64 (winsJoin xs).1.Low, .int .i64 (winsJoin xs).1.High, .int .i64 (winsJoin xs).1.Last] 41)) := (Below.refl _ _).alloc (Nat.le_refl _) _
    generalize hW : w5.alloc _ = w6 at bx b ⊢
    clear hW
    have TR := Turns.of_below (F := []) b
    have SZ6 : w5.heap.size ≤ w6.heap.size := TR.size
    replace K_a := Lib.hid (TR.ks K_a.out (by simp))
    replace K_q := Lib.hid (TR.ks K_q.out (by simp))
    replace HB := Lib.hid (HB.out.trans (TR.below (B := w.heap.size) (by simp) HB.out.size))
    clear TR
    replace X_r := Lib.hid (X_r.out.below b X_r.out.lt)
    have X_v := Lib.hid bx; clear bx b
    generalize hav : w5.heap.size = av at X_v ⊢
    clear X_r X_v r0 r1 r2 r3 r4 r5 rl rn
    refine (eqWin_calls _ _ _).mono ?_
    rintro e w7 ⟨rfl, b⟩
    have TR := Turns.of_below (F := []) b
    have SZ7 : w6.heap.size ≤ w7.heap.size := TR.size
    replace K_a := Lib.hid (TR.ks K_a.out (by simp))
    replace K_q := Lib.hid (TR.ks K_q.out (by simp))
    replace HB := Lib.hid (HB.out.trans (TR.below (B := w.heap.size) (by simp) HB.out.size))
    clear TR
    clear b
    go_wp2_with fail
    refine (toWinS_calls _ K_a.out (by omega)).mono ?_
    rintro e w8 ⟨v, rfl, o, b⟩
    obtain ⟨A_y, c_y, F_y, rfl, m_y, mm_y, k, lo⟩ := o.out (by simp)
    clear o
    have TR := Turns.of_below (F := []) b
    have SZ8 : w7.heap.size ≤ w8.heap.size := TR.size
    replace K_a := Lib.hid (TR.ks K_a.out (by simp))
    replace K_q := Lib.hid (TR.ks K_q.out (by simp))
    replace HB := Lib.hid (HB.out.trans (TR.below (B := w.heap.size) (by simp) HB.out.size))
    clear TR
    clear b
    have K_y := Lib.hid k; have LO_y := Lib.hid lo; have HI_y := Lib.hid k.lt; clear k lo
    go_wp2_with fail
    refine (eqWinS_calls _ K_q.out m_q mm_q K_y.out m_y mm_y).mono ?_
    rintro e w9 ⟨rfl, b⟩
    have TR := Turns.of_below (F := []) b
    have SZ9 : w8.heap.size ≤ w9.heap.size := TR.size
    replace K_a := Lib.hid (TR.ks K_a.out (by simp))
    replace K_q := Lib.hid (TR.ks K_q.out (by simp))
    replace K_y := Lib.hid (TR.ks K_y.out (by simp))
    replace HB := Lib.hid (HB.out.trans (TR.below (B := w.heap.size) (by simp) HB.out.size))
    clear TR
    clear b
    go_wp2
    go_ret
    exact ⟨rfl, HB.out⟩
  · have hz := szWinS_calls (A := A) (c := c) (xs := xs) 1048576 w (by omega) (by omega) hm hc
    rw [if_neg hs] at hz
    have HZ := Lib.hid hz; clear hz h
    go_enter Try.func6, Try.ntmps6
    go_wp2_with ((go_at_call 23; refine HZ.out.mono ?_; rintro e w1 ⟨rfl, rfl⟩))
    go_ret
    exact ⟨rfl, Below.refl _ _⟩

end Go.Proofs.Ytnchefajiedjiaa.AL
