/-
  The law of Thin, as a call.
-/
import Derived.Test.YtnchefajiedjiaaThin
namespace Go.Proofs.Ytnchefajiedjiaa.AL
open Go Go.RowKit Go.Proofs
open Ty (KF)
set_option linter.unusedVariables false

theorem FnExactThin_len {xs : List Sample} (step : Int) (hs : xs.length ≤ 1048576) : (thinL xs step).length ≤ 1048576 := by
  simp only [thinL]; split
  · exact Nat.le_trans (thinTo_len xs step _) hs
  · simp
set_option maxRecDepth 100000 in
set_option maxHeartbeats 4000000 in
theorem FnExactThin_calls {A : Option Addr} {c : Nat} {xs : List Sample} {F : Foot} (step : Int) (w : World) (h : KS w A xs F) (hm : xs.length ≤ c) (hc : c ≤ maxLen) :
    Calls Try.prog 4 #[.slice A xs.length c, .int .i64 step] w fun e w' => e = .returned (.bool true) ∧ Below w.heap.size w w' := by
  by_cases hs : (xs.length : Int) ≤ 1048576
  · have hz := szSampleS_calls (A := A) (c := c) (xs := xs) 1048576 w (by omega) (by omega) hm hc
    rw [if_pos hs] at hz
    have HZ := Lib.hid hz; clear hz
    have hnn := FnExactThin_len (xs := xs) (step := step) (by omega)
    have HB := Lib.hid (Below.refl w.heap.size w)
    have K_a := Lib.hid h
    have HI_a := Lib.hid h.lt; have m_a := hm; have mm_a := hc; clear h hm hc
    have et1 : decide (thinL xs step = thinL xs step) = true := by simp
    have et2 : decide (xs = xs) = true := by simp
    have en1 : decide (1 + 2 * (xs.length : Int) < 0) = false := by simp; omega
    have en2 : ((1 + 2 * ((thinL xs step).length : Int)) != (1 + 2 * ((thinL xs step).length : Int))) = false := by simp
    go_enter Try.func4, Try.ntmps4
    go_wp2_with ((go_at_call 12; refine HZ.out.mono ?_; rintro e w1 ⟨rfl, rfl⟩))
    go_wp2_with fail
    refine (toSampleS_calls _ K_a.out (by omega)).mono ?_
    rintro e w1 ⟨v, rfl, o, b⟩
    obtain ⟨A_p, c_p, F_p, rfl, m_p, mm_p, k, lo⟩ := o.out (by simp)
    clear o
    have TR := Turns.of_below (F := []) b
    have SZ1 : w.heap.size ≤ w1.heap.size := TR.size
    replace K_a := Lib.hid (TR.ks K_a.out (by simp))
    replace HB := Lib.hid (HB.out.trans (TR.below (B := w.heap.size) (by simp) HB.out.size))
    clear TR
    clear b
    have K_p := Lib.hid k; have LO_p := Lib.hid lo; have HI_p := Lib.hid k.lt; clear k lo
    go_wp2_with fail
    refine (specThin_calls step _ K_p.out m_p mm_p).mono ?_
    rintro e w2 ⟨v, rfl, o, b⟩
    obtain ⟨A_q, c_q, F_q, rfl, m_q, mm_q, k, lo⟩ := o.out (by simp)
    clear o
    have TR := Turns.of_below (F := []) b
    have SZ2 : w1.heap.size ≤ w2.heap.size := TR.size
    replace K_a := Lib.hid (TR.ks K_a.out (by simp))
    replace K_p := Lib.hid (TR.ks K_p.out (by simp))
    replace HB := Lib.hid (HB.out.trans (TR.below (B := w.heap.size) (by simp) HB.out.size))
    clear TR
    clear b
    have K_q := Lib.hid k; have LO_q := Lib.hid lo; have HI_q := Lib.hid k.lt; clear k lo
    clear K_p
    go_wp2_with fail
    refine (toSampleS_calls _ K_a.out (by omega)).mono ?_
    rintro e w3 ⟨v, rfl, o, b⟩
    obtain ⟨A_x, c_x, F_x, rfl, m_x, mm_x, k, lo⟩ := o.out (by simp)
    clear o
    have TR := Turns.of_below (F := []) b
    have SZ3 : w2.heap.size ≤ w3.heap.size := TR.size
    replace K_a := Lib.hid (TR.ks K_a.out (by simp))
    replace K_q := Lib.hid (TR.ks K_q.out (by simp))
    replace HB := Lib.hid (HB.out.trans (TR.below (B := w.heap.size) (by simp) HB.out.size))
    clear TR
    clear b
    have K_x := Lib.hid k; have LO_x := Lib.hid lo; have HI_x := Lib.hid k.lt; clear k lo
    go_wp2_with fail
    refine (implThin_calls step _ K_x.out m_x mm_x).mono ?_
    rintro e w4 ⟨v, rfl, o, b⟩
    obtain ⟨A_g, c_g, F_g, rfl, m_g, mm_g, k, lo⟩ := o.out (by simp)
    clear o
    have TR := Turns.of_below (F := []) b
    have SZ4 : w3.heap.size ≤ w4.heap.size := TR.size
    replace K_a := Lib.hid (TR.ks K_a.out (by simp))
    replace K_q := Lib.hid (TR.ks K_q.out (by simp))
    replace K_x := Lib.hid (TR.ks K_x.out (by simp))
    replace HB := Lib.hid (HB.out.trans (TR.below (B := w.heap.size) (by simp) HB.out.size))
    clear TR
    clear b
    have K_g := Lib.hid k; have LO_g := Lib.hid lo; have HI_g := Lib.hid k.lt; clear k lo
    go_wp2_with fail
    refine (eqSampleS_calls _ K_g.out m_g mm_g K_q.out m_q mm_q).mono ?_
    rintro e w5 ⟨rfl, b⟩
    have TR := Turns.of_below (F := []) b
    have SZ5 : w4.heap.size ≤ w5.heap.size := TR.size
    replace K_a := Lib.hid (TR.ks K_a.out (by simp))
    replace K_q := Lib.hid (TR.ks K_q.out (by simp))
    replace K_x := Lib.hid (TR.ks K_x.out (by simp))
    replace K_g := Lib.hid (TR.ks K_g.out (by simp))
    replace HB := Lib.hid (HB.out.trans (TR.below (B := w.heap.size) (by simp) HB.out.size))
    clear TR
    clear b
    go_wp2_with fail
    refine (toSampleS_calls _ K_a.out (by omega)).mono ?_
    rintro e w6 ⟨v, rfl, o, b⟩
    obtain ⟨A_y, c_y, F_y, rfl, m_y, mm_y, k, lo⟩ := o.out (by simp)
    clear o
    have TR := Turns.of_below (F := []) b
    have SZ6 : w5.heap.size ≤ w6.heap.size := TR.size
    replace K_a := Lib.hid (TR.ks K_a.out (by simp))
    replace K_q := Lib.hid (TR.ks K_q.out (by simp))
    replace K_x := Lib.hid (TR.ks K_x.out (by simp))
    replace K_g := Lib.hid (TR.ks K_g.out (by simp))
    replace HB := Lib.hid (HB.out.trans (TR.below (B := w.heap.size) (by simp) HB.out.size))
    clear TR
    clear b
    have K_y := Lib.hid k; have LO_y := Lib.hid lo; have HI_y := Lib.hid k.lt; clear k lo
    go_wp2_with fail
    refine (eqSampleS_calls _ K_x.out m_x mm_x K_y.out m_y mm_y).mono ?_
    rintro e w7 ⟨rfl, b⟩
    have TR := Turns.of_below (F := []) b
    have SZ7 : w6.heap.size ≤ w7.heap.size := TR.size
    replace K_a := Lib.hid (TR.ks K_a.out (by simp))
    replace K_q := Lib.hid (TR.ks K_q.out (by simp))
    replace K_x := Lib.hid (TR.ks K_x.out (by simp))
    replace K_g := Lib.hid (TR.ks K_g.out (by simp))
    replace K_y := Lib.hid (TR.ks K_y.out (by simp))
    replace HB := Lib.hid (HB.out.trans (TR.below (B := w.heap.size) (by simp) HB.out.size))
    clear TR
    clear b
    clear K_y
    go_wp2_with fail
    refine (markSampleS_calls 1 _ K_x.out m_x mm_x (by omega) (by omega) (by omega)).mono ?_
    rintro e w8 ⟨rfl, k, t⟩
    have TR := t
    have SZ8 : w7.heap.size ≤ w8.heap.size := TR.size
    replace K_a := Lib.hid (TR.ks K_a.out (fun k h1 h2 => by have := LO_x.out k h2; have := HI_a.out k h1; have := HI_x.out k h2; omega))
    replace K_q := Lib.hid (TR.ks K_q.out (fun k h1 h2 => by have := LO_q.out k h1; have := LO_x.out k h2; have := HI_q.out k h1; have := HI_x.out k h2; omega))
    replace K_g := Lib.hid (TR.ks K_g.out (fun k h1 h2 => by have := LO_g.out k h1; have := LO_x.out k h2; have := HI_g.out k h1; have := HI_x.out k h2; omega))
    replace HB := Lib.hid (HB.out.trans (TR.below (B := w.heap.size) (fun k hk => by have := LO_x.out k hk; omega) HB.out.size))
    clear TR
    clear t
    replace K_x := Lib.hid k; clear k
    clear K_x
    go_wp2_with fail
    refine (eqSampleS_calls _ K_g.out m_g mm_g K_q.out m_q mm_q).mono ?_
    rintro e w9 ⟨rfl, b⟩
    have TR := Turns.of_below (F := []) b
    have SZ9 : w8.heap.size ≤ w9.heap.size := TR.size
    replace K_a := Lib.hid (TR.ks K_a.out (by simp))
    replace K_q := Lib.hid (TR.ks K_q.out (by simp))
    replace K_g := Lib.hid (TR.ks K_g.out (by simp))
    replace HB := Lib.hid (HB.out.trans (TR.below (B := w.heap.size) (by simp) HB.out.size))
    clear TR
    clear b
    go_wp2_with fail
    refine (markSampleS_calls 1 _ K_g.out m_g mm_g (by omega) (by omega) (by omega)).mono ?_
    rintro e w10 ⟨rfl, k, t⟩
    have TR := t
    have SZ10 : w9.heap.size ≤ w10.heap.size := TR.size
    replace K_a := Lib.hid (TR.ks K_a.out (fun k h1 h2 => by have := LO_g.out k h2; have := HI_a.out k h1; have := HI_g.out k h2; omega))
    replace K_q := Lib.hid (TR.ks K_q.out (fun k h1 h2 => by have := LO_q.out k h1; have := LO_g.out k h2; have := HI_q.out k h1; have := HI_g.out k h2; omega))
    replace HB := Lib.hid (HB.out.trans (TR.below (B := w.heap.size) (fun k hk => by have := LO_g.out k hk; omega) HB.out.size))
    clear TR
    clear t
    replace K_g := Lib.hid k; clear k
    go_wp2_with fail
    refine (heldSampleS_calls (n := (thinL xs step).length) 1 _ K_g.out m_g mm_g (by omega) (by omega) (by omega)).mono ?_
    rintro e w11 ⟨rfl, b⟩
    have TR := Turns.of_q b
    have SZ11 : w10.heap.size ≤ w11.heap.size := TR.size
    replace K_a := Lib.hid (TR.ks K_a.out (by simp))
    replace K_q := Lib.hid (TR.ks K_q.out (by simp))
    replace K_g := Lib.hid (TR.ks K_g.out (by simp))
    replace HB := Lib.hid (HB.out.trans (TR.below (B := w.heap.size) (by simp) HB.out.size))
    clear TR
    clear b
    go_wp2_with fail
    refine (toSampleS_calls _ K_a.out (by omega)).mono ?_
    rintro e w12 ⟨v, rfl, o, b⟩
    obtain ⟨A_z, c_z, F_z, rfl, m_z, mm_z, k, lo⟩ := o.out (by simp)
    clear o
    have TR := Turns.of_below (F := []) b
    have SZ12 : w11.heap.size ≤ w12.heap.size := TR.size
    replace K_a := Lib.hid (TR.ks K_a.out (by simp))
    replace K_q := Lib.hid (TR.ks K_q.out (by simp))
    replace K_g := Lib.hid (TR.ks K_g.out (by simp))
    replace HB := Lib.hid (HB.out.trans (TR.below (B := w.heap.size) (by simp) HB.out.size))
    clear TR
    clear b
    have K_z := Lib.hid k; have LO_z := Lib.hid lo; have HI_z := Lib.hid k.lt; clear k lo
    go_wp2_with fail
    refine (implThin_calls step _ K_z.out m_z mm_z).mono ?_
    rintro e w13 ⟨v, rfl, o, b⟩
    obtain ⟨A_u, c_u, F_u, rfl, m_u, mm_u, k, lo⟩ := o.out (by simp)
    clear o
    have TR := Turns.of_below (F := []) b
    have SZ13 : w12.heap.size ≤ w13.heap.size := TR.size
    replace K_a := Lib.hid (TR.ks K_a.out (by simp))
    replace K_q := Lib.hid (TR.ks K_q.out (by simp))
    replace K_g := Lib.hid (TR.ks K_g.out (by simp))
    replace K_z := Lib.hid (TR.ks K_z.out (by simp))
    replace HB := Lib.hid (HB.out.trans (TR.below (B := w.heap.size) (by simp) HB.out.size))
    clear TR
    clear b
    have K_u := Lib.hid k; have LO_u := Lib.hid lo; have HI_u := Lib.hid k.lt; clear k lo
    go_wp2_with fail
    refine (eqSampleS_calls _ K_u.out m_u mm_u K_q.out m_q mm_q).mono ?_
    rintro e w14 ⟨rfl, b⟩
    have TR := Turns.of_below (F := []) b
    have SZ14 : w13.heap.size ≤ w14.heap.size := TR.size
    replace K_a := Lib.hid (TR.ks K_a.out (by simp))
    replace K_q := Lib.hid (TR.ks K_q.out (by simp))
    replace K_g := Lib.hid (TR.ks K_g.out (by simp))
    replace K_z := Lib.hid (TR.ks K_z.out (by simp))
    replace K_u := Lib.hid (TR.ks K_u.out (by simp))
    replace HB := Lib.hid (HB.out.trans (TR.below (B := w.heap.size) (by simp) HB.out.size))
    clear TR
    clear b
    clear K_z
    clear K_u
    clear K_q
    go_wp2_with fail
    refine (heldSampleS_calls (n := (thinL xs step).length) 1 _ K_g.out m_g mm_g (by omega) (by omega) (by omega)).mono ?_
    rintro e w15 ⟨rfl, b⟩
    have TR := Turns.of_q b
    have SZ15 : w14.heap.size ≤ w15.heap.size := TR.size
    replace K_a := Lib.hid (TR.ks K_a.out (by simp))
    replace K_g := Lib.hid (TR.ks K_g.out (by simp))
    replace HB := Lib.hid (HB.out.trans (TR.below (B := w.heap.size) (by simp) HB.out.size))
    clear TR
    clear b
    go_wp2
    go_ret
    exact ⟨rfl, HB.out⟩
  · have hz := szSampleS_calls (A := A) (c := c) (xs := xs) 1048576 w (by omega) (by omega) hm hc
    rw [if_neg hs] at hz
    have HZ := Lib.hid hz; clear hz h
    go_enter Try.func4, Try.ntmps4
    go_wp2_with ((go_at_call 12; refine HZ.out.mono ?_; rintro e w1 ⟨rfl, rfl⟩))
    go_ret
    exact ⟨rfl, Below.refl _ _⟩

end Go.Proofs.Ytnchefajiedjiaa.AL
