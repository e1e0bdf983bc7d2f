/-
  Samples, times and a step, drawn.
-/
import Derived.Test.YtnchefajiedjiaaDraw3
import Derived.Test.YtnchefajiedjiaaIWins
import Derived.Deep.RegionHeld3
namespace Go.Proofs.Ytnchefajiedjiaa.AL
open Go Go.RowKit Go.Proofs
set_option linter.unusedVariables false

/-- Two times, drawn. -/
def SpanPost (B a p : Nat) (w : World) (e : Ending) (w' : World) : Prop := ∃ x y : Int, e = .returned (.tuple #[.int .i64 x, .int .i64 y]) ∧ -1 ≤ x ∧ x ≤ 1000 ∧ -10 ≤ y ∧ y ≤ 30000 ∧ Rd B w' a (p + 5) ∧ Turns [a] w w'
set_option maxHeartbeats 1000000 in
theorem l13Span_calls {B a p : Nat} (w : World) (h : Rd B w a p) (hB : B ≤ w.heap.size) (hp : p + 6 ≤ 1099511627776) :
    Calls Try.prog 56 #[.pointer (some ⟨a, 0, none⟩)] w (SpanPost B a p w) := by
  have P1 := Lib.hid (pick_calls 256 w h (by omega) (by omega) (by omega)); clear h
  go_enter Try.func56, Try.ntmps56
  go_wp2_with fail
  refine P1.out.mono ?_
  rintro e w1 ⟨v1, rfl, ⟨a1, b1, _⟩, r1, t1⟩
  have P2 := Lib.hid (pick_calls 256 w1 r1 (by omega) (by omega) (by omega)); clear r1 P1
  have d1 := b1 (by omega); clear b1
  go_wp2_with fail
  refine P2.out.mono ?_
  rintro e w2 ⟨v2, rfl, ⟨a2, b2, _⟩, r2, t2⟩
  have d2 := b2 (by omega); clear b2 P2
  have T2 := Lib.hid (t1.trans t2)
  have hB2 := Nat.le_trans hB T2.out.size
  clear t1 t2
  go_wp2_with fail
  refine (one_lit [0, v1, v2 * 2, 100, -1] w2 r2 hB2 (by omega) (by simp) (by simp)).mono ?_
  rintro e w3 ⟨x, rfl, hv, r3, t3⟩
  have hx : -1 ≤ x ∧ x ≤ 1000 := by simp only [List.mem_cons, List.not_mem_nil, or_false] at hv; omega
  have T3 := Lib.hid (T2.out.trans t3)
  have hB3 := Nat.le_trans hB T3.out.size
  have P3 := Lib.hid (pick_calls 256 w3 r3 (by omega) (by omega) (by omega)); clear r3 t3 T2 r2 hv hB2
  go_wp2_with fail
  refine P3.out.mono ?_
  rintro e w4 ⟨v3, rfl, ⟨a3, b3, _⟩, r4, t4⟩
  have d3 := b3 (by omega); clear b3 P3
  have T4 := Lib.hid (T3.out.trans t4)
  have hB4 := Nat.le_trans hB T4.out.size
  clear t4 T3
  go_wp2_with fail
  refine (one_lit [0, 1, 100, v3 * 3, 10000 - x, -1] w4 r4 hB4 (by omega) (by simp) (by simp)).mono ?_
  rintro e w5 ⟨y, rfl, hv, r5, t5⟩
  have hy : -1 ≤ y ∧ y ≤ 20000 := by simp only [List.mem_cons, List.not_mem_nil, or_false] at hv; omega
  have HX := Lib.hid (show SpanPost B a p w (.returned (.tuple #[.int .i64 x, .int .i64 (x + y)])) w5 from ⟨x, x + y, rfl, by omega, by omega, by omega, by omega, r5, T4.out.trans t5⟩)
  clear r5 r4 t5 T4 hv
  go_wp2
  refine bodyPost_ret (v := .tuple #[.int .i64 x, .int .i64 (x + y)]) ?_ rfl HX.out
  simp [results, Try.results56, go_sem]

/-- Samples, times and a step. -/
def DrawWPost (w : World) (e : Ending) (w' : World) : Prop := ∃ (v : Value) (xs : List Sample) (a b st : Int), e = .returned (.tuple #[v, .int .i64 a, .int .i64 b, .int .i64 st]) ∧ Fresh w' w.heap.size 9 v xs ∧ Below w.heap.size w w'

theorem drawW_end {B r p : Nat} {w wr : World} {A1 : Option Addr} {c1 : Nat} {F1 : Foot} {xs : List Sample} (x y : Int) (hR : Rd B wr r p) (hB : B ≤ wr.heap.size) (hp : p ≤ 100000) (ha : w.heap.size ≤ r) (hs : w.heap.size ≤ wr.heap.size) (x1 : xs.length ≤ 9) (x2 : xs.length ≤ c1) (x3 : c1 ≤ maxLen) (hk : KS wr A1 xs F1) (hl : ∀ k ∈ F1, w.heap.size ≤ k) (hr : ∀ k ∈ F1, k ∉ [r]) (hb : Below w.heap.size w wr) :
    Calls Try.prog 54 #[.pointer (some ⟨r, 0, none⟩), .slice (some ⟨wr.heap.size, 0, none⟩) 12 12] (wr.alloc (.cells #[.int .i64 1, .int .i64 10, .int .i64 60, .int .i64 100, .int .i64 7, .int .i64 1000, .int .i64 60, .int .i64 100, .int .i64 0, .int .i64 9999, .int .i64 10000, .int .i64 300] 3))
      fun e w' => ∃ v : Int, e = .returned (.int .i64 v) ∧ DrawWPost w (.returned (.tuple #[.slice A1 xs.length c1, .int .i64 x, .int .i64 y, .int .i64 v])) w' :=
  (one_lit [1, 10, 60, 100, 7, 1000, 60, 100, 0, 9999, 10000, 300] wr hR hB (by omega) (by simp) (by simp)).mono
    fun e w' ⟨v, he, _, _, t⟩ => ⟨v, he, _, xs, x, y, v, rfl, ⟨A1, c1, F1, rfl, x1, x2, x3, t.ks hk hr, hl⟩, hb.trans (t.below (by simpa using ha) hs)⟩

set_option maxRecDepth 100000 in
set_option maxHeartbeats 4000000 in
theorem drawWins_calls {A : Option Addr} {c : Nat} {cs : List UInt8} {F : Foot} (w : World) (h : KS w A cs F) (hm : cs.length ≤ c) (hc : c ≤ maxLen) :
    Calls Try.prog 30 #[.slice A cs.length c] w (DrawWPost w) := by
  have P1 := Lib.hid (l1Open_calls w h hm hc); clear h
  go_enter Try.func30, Try.ntmps30
  go_wp2_with fail
  refine P1.out.mono ?_
  rintro e w1 ⟨a, rfl, r1, b1, ha⟩
  clear P1
  have hs1 := b1.size
  have haw := r1.at
  obtain ⟨B, hB⟩ : ∃ B, B = w1.heap.size := ⟨_, rfl⟩
  rw [← hB] at r1 haw
  have hB1 : B ≤ w1.heap.size := by omega
  have P2 := Lib.hid (l13AnySamples_calls 9 w1 r1 (by omega) (by omega) (by omega)); clear r1
  have T1 := Lib.hid b1; clear b1
  go_wp2_with fail
  refine P2.out.mono ?_
  rintro e w2 ⟨_, xs, p2, rfl, ⟨A1, c1, F1, rfl, x1, x2, x3, k2, k2'⟩, _, q2, r2, t2, sb⟩
  clear P2
  have x4 := x3
  unfold maxLen at x4
  have hB2 := Nat.le_trans hB1 t2.size
  have hF := Lib.hid (show ∀ k ∈ F1, k ∉ [a] from fun k hk => by have := k2' k hk; simp; omega)
  have hL := Lib.hid (show ∀ k ∈ F1, w.heap.size ≤ k from fun k hk => by have := k2' k hk; omega)
  have hSB := Lib.hid sb
  have B2 := Lib.hid (T1.out.trans (t2.below (B := w.heap.size) (by simpa using ha) hs1)); clear T1 t2 sb
  have K2 := Lib.hid k2; clear k2 k2'
  have P3 := Lib.hid (l13Span_calls w2 r2 hB2 (by omega)); clear r2
  go_wp2_with fail
  refine P3.out.mono ?_
  rintro e w3 ⟨x, y, rfl, _, _, _, _, r3, t3⟩
  clear P3
  have hB3 := Nat.le_trans hB2 t3.size
  have K3 := Lib.hid (t3.ks K2.out hF.out)
  have B3 := Lib.hid (B2.out.trans (t3.below (B := w.heap.size) (by simpa using ha) B2.out.size)); clear B2 K2 t3
  have P4 := Lib.hid (pick_calls 4 w3 r3 (by omega) (by omega) (by omega)); clear r3
  go_wp2_with fail
  refine P4.out.mono ?_
  rintro e w4 ⟨v4, rfl, ⟨a4, _, _⟩, r4, t4⟩
  clear P4
  have hB4 := Nat.le_trans hB3 t4.size
  have K4 := Lib.hid (t4.ks K3.out hF.out)
  have B4 := Lib.hid (B3.out.trans (t4.below (B := w.heap.size) (by simpa using ha) B3.out.size)); clear B3 K3 t4
  by_cases hv4 : 0 < v4
  · have P5 := Lib.hid (pick_calls 100 w4 r4 (by omega) (by omega) (by omega)); clear r4
    go_wp2_with fail
    refine P5.out.mono ?_
    rintro e w5 ⟨v5, rfl, ⟨a5, b5, _⟩, r5, t5⟩
    clear P5
    have hB5 := Nat.le_trans hB4 t5.size
    have K5 := Lib.hid (t5.ks K4.out hF.out)
    have B5 := Lib.hid (B4.out.trans (t5.below (B := w.heap.size) (by simpa using ha) B4.out.size)); clear B4 K4 t5
    have P6 := Lib.hid (pick_calls 60 w5 r5 (by omega) (by omega) (by omega)); clear r5
    go_wp2_with fail
    refine P6.out.mono ?_
    rintro e w6 ⟨v6, rfl, ⟨a6, b6, _⟩, r6, t6⟩
    clear P6
    have d6 := b6 (by omega)
    have hB6 := Nat.le_trans hB5 t6.size
    have K6 := Lib.hid (t6.ks K5.out hF.out)
    have B6 := Lib.hid (B5.out.trans (t6.below (B := w.heap.size) (by simpa using ha) B5.out.size)); clear B5 K5 t6 b6
    by_cases h0 : 0 < xs.length
    · have P7 := Lib.hid (pick_calls 2 w6 r6 (by omega) (by omega) (by omega)); clear r6
      go_wp2_with fail
      refine P7.out.mono ?_
      rintro e w7 ⟨v7, rfl, ⟨a7, _, _⟩, r7, t7⟩
      clear P7
      have hB7 := Nat.le_trans hB6 t7.size
      have K7 := Lib.hid (t7.ks K6.out hF.out)
      have B7 := Lib.hid (B6.out.trans (t7.below (B := w.heap.size) (by simpa using ha) B6.out.size)); clear B6 K6 t7
      by_cases hv7 : v7 = 0
      · subst hv7
        have rd := r7.below' ((Q.drew w7).below _)
        have P8 := Lib.hid (pick_calls 9 w7.drew rd (by omega) (by omega) (by omega)); clear r7 rd
        obtain ⟨m, hm'⟩ : ∃ m, xs.length = m + 1 := ⟨xs.length - 1, by omega⟩
        obtain ⟨bk, o, rfl, hbk, hbkF, g0, _⟩ := ks_Sample K7.out m (by omega)
        have hne : bk ∉ [a] := hF.out bk hbkF
        have hTb := hSB.out.at m (by omega)
        obtain ⟨tb1, tb2, _⟩ := hTb
        generalize xs[m].T = TT at g0 tb1 tb2
        have i1 : (0 : Int) ≤ (m : Int) := by omega
        have i2 : (m : Int) < (m : Int) + 1 := by omega
        have i3 : IntKind.i64.wrap ((m : Int) + 1 - 1) = (m : Int) := by rw [show (m : Int) + 1 - 1 = m by omega]; simp [IntKind.wrap, IntKind.bits, IntKind.signed]; omega
        have i4 : IntKind.i64.wrap (m : Int) = (m : Int) := by simp [IntKind.wrap, IntKind.bits, IntKind.signed]; omega
        have i5 : (m : Int) + 1 - 1 = m := by omega
        go_wp2_with fail
        go_region_held3 (fun w' => w'.cell? ⟨bk, o + m * 2, none⟩ = some (.int .i64 TT)) (first | (with_reducible assumption) | go_keep)
          (first | (go_at_call 55; refine P8.out.mono ?_; rintro e w8 ⟨v8, rfl, ⟨a8, b8, _⟩, r8, t8⟩; have q8 := (World.cell?_of_block (w := w7.drew) (w' := w8) (a := ⟨bk, o + m * 2, none⟩) (t8.block bk hbk hne)).trans g0))
        all_goals (
          rename_i hHH
          clear hHH i1 i2 i3 i4 i5
          have d8 := b8 (by omega)
          have hB8 := Nat.le_trans hB7 t8.size
          have K8 := Lib.hid (t8.ks (K7.out.q (Q.drew _)) hF.out)
          have B8 := Lib.hid ((B7.out.trans (((Q.drew w7).below _).mono B7.out.size)).trans (t8.below (B := w.heap.size) (by simpa using ha) B7.out.size))
          by_cases hcmp : TT + v8 < v5 ∨ 10000 < TT + v8
          · have PE := Lib.hid (drawW_end v5 v5 r8 hB8 (by omega) ha B8.out.size x1 x2 x3 K8.out hL.out hF.out B8.out)
            clear b8 hSB
            rcases hcmp with hcmp | hcmp
            · go_wp2_with fail
              refine PE.out.mono ?_
              rintro e w9 ⟨v9, rfl, hx⟩
              go_wp2
              refine bodyPost_ret (v := .tuple #[_, _, _, _]) ?_ rfl hx
              simp [results, Try.results30, go_sem, hm']
            · have hcmp2 : ¬ TT + v8 < v5 := by have := b5 (by omega); omega
              go_wp2_with fail
              refine PE.out.mono ?_
              rintro e w9 ⟨v9, rfl, hx⟩
              go_wp2
              refine bodyPost_ret (v := .tuple #[_, _, _, _]) ?_ rfl hx
              simp [results, Try.results30, go_sem, hm']
          · have PE := Lib.hid (drawW_end v5 (TT + v8) r8 hB8 (by omega) ha B8.out.size x1 x2 x3 K8.out hL.out hF.out B8.out)
            go_wp2_with fail
            refine PE.out.mono ?_
            rintro e w9 ⟨v9, rfl, hx⟩
            go_wp2
            refine bodyPost_ret (v := .tuple #[_, _, _, _]) ?_ rfl hx
            simp [results, Try.results30, go_sem, hm'])
      · have PE := Lib.hid (drawW_end v5 (10000 - v6) r7 hB7 (by omega) ha B7.out.size x1 x2 x3 K7.out hL.out hF.out B7.out)
        have d5 := b5 (by omega)
        go_wp2_with fail
        refine PE.out.mono ?_
        rintro e w9 ⟨v9, rfl, hx⟩
        go_wp2
        refine bodyPost_ret (v := .tuple #[_, _, _, _]) ?_ rfl hx
        simp [results, Try.results30, go_sem]
    · have PE := Lib.hid (drawW_end v5 (10000 - v6) r6 hB6 (by omega) ha B6.out.size x1 x2 x3 K6.out hL.out hF.out B6.out)
      have d5 := b5 (by omega)
      go_wp2_with fail
      refine PE.out.mono ?_
      rintro e w9 ⟨v9, rfl, hx⟩
      go_wp2
      refine bodyPost_ret (v := .tuple #[_, _, _, _]) ?_ rfl hx
      simp [results, Try.results30, go_sem]
  · have PE := Lib.hid (drawW_end x y r4 hB4 (by omega) ha B4.out.size x1 x2 x3 K4.out hL.out hF.out B4.out)
    go_wp2_with fail
    refine PE.out.mono ?_
    rintro e w9 ⟨v9, rfl, hx⟩
    go_wp2
    refine bodyPost_ret (v := .tuple #[_, _, _, _]) ?_ rfl hx
    simp [results, Try.results30, go_sem]

theorem implSamplesCut_calls {A : Option Addr} {c : Nat} {xs : List Sample} {F : Foot} (a b : Int) (w : World) (h : KS w A xs F) (hm : xs.length ≤ c) (hc : c ≤ maxLen) (hok : SamOk xs) :
    Calls Try.prog 34 #[.slice A xs.length c, .int .i64 a, .int .i64 b] w (CutPost xs a b w) := by
  have et : samOk xs = true := samOk_true hok
  have hl := samOk_len hok
  have P0 := Lib.hid (samplesOk_calls w h hm hc)
  have H := Lib.hid h; clear h
  go_enter Try.func34, Try.ntmps34
  go_wp2_with fail
  refine P0.out.mono ?_
  rintro e w1 ⟨rfl, b1⟩
  clear P0
  have P1 := Lib.hid (cut_calls a b w1 (H.out.below b1) hm hc (by omega))
  go_wp2_with fail
  refine P1.out.mono ?_
  rintro e w2 ⟨_, rfl, ⟨A2, c2, F2, rfl, y1, y2, y3, k2, k2'⟩, b2⟩
  have hb := b1.size
  have HX := Lib.hid (show CutPost xs a b w (.returned (.slice A2 (cutS xs a b).length c2)) w2 from ⟨_, rfl, ⟨A2, c2, F2, rfl, y1, y2, y3, k2, fun k hk => by have := k2' k hk; omega⟩, b1.trans (b2.mono b1.size)⟩)
  clear k2 k2' b2 b1 P1
  go_wp2
  go_ret
  exact HX.out
end Go.Proofs.Ytnchefajiedjiaa.AL
