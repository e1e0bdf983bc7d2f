/-
  FnWinsParts, walked.
-/
import Derived.Test.YtnchefajiedjiaaDWins
import Derived.Test.YtnchefajiedjiaaPartsPlain
namespace Go.Proofs.Ytnchefajiedjiaa.AL
open Go Go.RowKit Go.Proofs
set_option linter.unusedVariables false

theorem elems_wins {w : World} : ∀ xs : List Win, Elems w xs (xs.map fun x => [.int .i64 x.From, .int .i64 x.Count, .int .i64 x.Sum, .int .i64 x.Low, .int .i64 x.High, .int .i64 x.Last]) (xs.map fun _ => [])
  | [] => .nil
  | x :: xs => .cons (kf_Win_mk w x) (elems_wins xs)
theorem ks_wins2 (w : World) (x y : Win) (t : TypeId) : KS (w.alloc (.cells #[.int .i64 x.From, .int .i64 x.Count, .int .i64 x.Sum, .int .i64 x.Low, .int .i64 x.High, .int .i64 x.Last, .int .i64 y.From, .int .i64 y.Count, .int .i64 y.Sum, .int .i64 y.Low, .int .i64 y.High, .int .i64 y.Last] t)) (some ⟨w.heap.size, 0, none⟩) [x, y] [w.heap.size] := by
  refine .inr ⟨w.heap.size, 0, _, _, rfl, rfl, elems_wins [x, y], fun j u hu => ?_, by simp⟩
  have hb := Blk.new w [.int .i64 x.From, .int .i64 x.Count, .int .i64 x.Sum, .int .i64 x.Low, .int .i64 x.High, .int .i64 x.Last, .int .i64 y.From, .int .i64 y.Count, .int .i64 y.Sum, .int .i64 y.Low, .int .i64 y.High, .int .i64 y.Last] t
  rw [Nat.zero_add]
  exact ⟨hb.cell j hu, hb.free j⟩

set_option maxRecDepth 100000 in
set_option maxHeartbeats 4000000 in
theorem fnWinsParts_calls {A A' : Option Addr} {c c' : Nat} {cs ds : List UInt8} {F F' : Foot} (w : World) (h : KS w A cs F) (hm : cs.length ≤ c) (hc : c ≤ maxLen) (h' : KS w A' ds F') (hm' : ds.length ≤ c') (hc' : c' ≤ maxLen) :
    Calls Try.prog 7 #[.slice A cs.length c, .slice A' ds.length c'] w fun e w' => e = .returned (.bool true) ∧ Below w.heap.size w w' := by
  have n1 := hc; have n2 := hc'
  unfold maxLen at n1 n2
  by_cases hs : cs.length ≤ 1048576
  · by_cases hs' : ds.length ≤ 1048576
    · have P1 := Lib.hid (drawWinsJoin_calls w h hm hc); clear h h'
      go_enter Try.func7, Try.ntmps7
      go_wp2_with fail
      refine P1.out.mono ?_
      rintro e w1 ⟨_, xs, rfl, ⟨A1, c1, F1, rfl, x1, x2, x3, k1, k1'⟩, b1⟩
      have x4 := x3
      unfold maxLen at x4
      clear P1
      have K := Lib.hid k1; have HB := Lib.hid b1; clear k1 b1
      go_wp2_with fail
      have P := Lib.hid (implWinsJoin_calls w1 K.out x2 x3)
      refine P.out.mono ?_
      rintro e w2 ⟨rfl, b⟩
      clear P
      replace K := Lib.hid (K.out.below b)
      replace HB := Lib.hid (HB.out.trans (b.mono HB.out.size))
      clear b
      go_wp2_with fail
      have bx := Blk.new w2 [.int .i64 (winsJoin xs).1.From, .int .i64 (winsJoin xs).1.Count, .int .i64 (winsJoin xs).1.Sum, .int .i64 (winsJoin xs).1.Low, .int .i64 (winsJoin xs).1.High, .int .i64 (winsJoin xs).1.Last] 41
      have b := (Below.refl w2.heap.size w2).alloc (Nat.le_refl _) (.cells #[.int .i64 (winsJoin xs).1.From, .int .i64 (winsJoin xs).1.Count, .int .i64 (winsJoin xs).1.Sum, .int .i64 (winsJoin xs).1.Low, .int .i64 (winsJoin xs).1.High, .int .i64 (winsJoin xs).1.Last] 41)
      replace K := Lib.hid (K.out.below b)
      replace HB := Lib.hid (HB.out.trans (b.mono HB.out.size))
      generalize hW : w2.alloc _ = w3 at bx HB K ⊢
      clear hW b
      generalize hA : w2.heap.size = a_p at bx ⊢
      have X_p := Lib.hid bx; clear bx hA
      have P := Lib.hid (specWinsJoin_calls w3 K.out x2 x3)
      refine P.out.mono ?_
      rintro e w4 ⟨rfl, b⟩
      clear P
      replace K := Lib.hid (K.out.below b)
      replace X_p := Lib.hid (X_p.out.below b X_p.out.lt)
      replace HB := Lib.hid (HB.out.trans (b.mono HB.out.size))
      clear b
      have r0 := X_p.out.cell 0 rfl; have r1 := X_p.out.cell 1 rfl; have r2 := X_p.out.cell 2 rfl; have r3 := X_p.out.cell 3 rfl; have r4 := X_p.out.cell 4 rfl; have r5 := X_p.out.cell 5 rfl; have rl := X_p.out.lt; have rn : a_p ≠ w4.heap.size := Nat.ne_of_lt X_p.out.lt
      have en : ((winsJoin xs).2 != (winsJoin xs).2) = false := by simp
      have ee : ((winsJoin xs).2 == (winsJoin xs).2) = true := by simp
      by_cases ht : (winsJoin xs).2 = true
      · by_cases h2 : 2 ≤ xs.length
        · obtain ⟨k, hk⟩ : ∃ k, k = 1 + ds.length % (xs.length - 1) := ⟨_, rfl⟩
          have hk1 : 1 ≤ k := by omega
          have hk2 : k < xs.length := by have := Nat.mod_lt ds.length (show 0 < xs.length - 1 by omega); omega
          have ek : (ds.length : Int) % ((xs.length : Int) - 1) = (k : Int) - 1 := by
            rw [show (xs.length : Int) - 1 = ((xs.length - 1 : Nat) : Int) by omega, ← Int.natCast_emod, hk]; push_cast; omega
          obtain ⟨m, rfl⟩ : ∃ m, k = 1 + m := ⟨k - 1, by omega⟩
          obtain ⟨p1, p2, p3⟩ := winsJoin_parts hk1 hk2 ht
          obtain ⟨b, o, rfl⟩ := ks_some K.out (by omega)
          have PP := Lib.hid p3; clear p3 hk
          have l1 : (xs.take (1 + m)).length = 1 + m := by simp; omega
          have l2 : (xs.drop (1 + m)).length = xs.length - (1 + m) := by simp
          go_wp2_with fail
          clear r0 r1 r2 r3 r4 r5 rl rn
          have bx := Blk.new w4 [.int .i64 (winsJoin xs).1.From, .int .i64 (winsJoin xs).1.Count, .int .i64 (winsJoin xs).1.Sum, .int .i64 (winsJoin xs).1.Low, .int .i64 (winsJoin xs).1.High, .int .i64 (winsJoin xs).1.Last] 41
          have b := (Below.refl w4.heap.size w4).alloc (Nat.le_refl _) (.cells #[.int .i64 (winsJoin xs).1.From, .int .i64 (winsJoin xs).1.Count, .int .i64 (winsJoin xs).1.Sum, .int .i64 (winsJoin xs).1.Low, .int .i64 (winsJoin xs).1.High, .int .i64 (winsJoin xs).1.Last] 41)
          replace K := Lib.hid (K.out.below b)
          replace X_p := Lib.hid (X_p.out.below b X_p.out.lt)
          replace HB := Lib.hid (HB.out.trans (b.mono HB.out.size))
          generalize hW : w4.alloc _ = w5 at bx HB K X_p ⊢
          clear hW b
          generalize hA : w4.heap.size = a_q at bx ⊢
          have X_q := Lib.hid bx; clear bx hA
          clear X_q
          obtain ⟨G1, _, g1⟩ := ks_take K.out (1 + m)
          have C1 := implWinsJoin_calls w5 g1 (c := c1) (by omega) x3; rw [l1] at C1
          have P := Lib.hid (C1)
          refine P.out.mono ?_
          rintro e w6 ⟨rfl, b⟩
          clear P
          replace K := Lib.hid (K.out.below b)
          replace X_p := Lib.hid (X_p.out.below b X_p.out.lt)
          replace HB := Lib.hid (HB.out.trans (b.mono HB.out.size))
          clear b
          clear C1 g1
          go_wp2_with fail
          have bx := Blk.new w6 [.int .i64 (winsJoin (xs.take (1 + m))).1.From, .int .i64 (winsJoin (xs.take (1 + m))).1.Count, .int .i64 (winsJoin (xs.take (1 + m))).1.Sum, .int .i64 (winsJoin (xs.take (1 + m))).1.Low, .int .i64 (winsJoin (xs.take (1 + m))).1.High, .int .i64 (winsJoin (xs.take (1 + m))).1.Last] 41
          have b := (Below.refl w6.heap.size w6).alloc (Nat.le_refl _) (.cells #[.int .i64 (winsJoin (xs.take (1 + m))).1.From, .int .i64 (winsJoin (xs.take (1 + m))).1.Count, .int .i64 (winsJoin (xs.take (1 + m))).1.Sum, .int .i64 (winsJoin (xs.take (1 + m))).1.Low, .int .i64 (winsJoin (xs.take (1 + m))).1.High, .int .i64 (winsJoin (xs.take (1 + m))).1.Last] 41)
          replace K := Lib.hid (K.out.below b)
          replace X_p := Lib.hid (X_p.out.below b X_p.out.lt)
          replace HB := Lib.hid (HB.out.trans (b.mono HB.out.size))
          generalize hW : w6.alloc _ = w7 at bx HB K X_p ⊢
          clear hW b
          generalize hA : w6.heap.size = a_u at bx ⊢
          have X_u := Lib.hid bx; clear bx hA
          obtain ⟨G2, _, g2⟩ := ks_drop K.out (1 + m)
          have C2 := implWinsJoin_calls w7 g2 (c := c1 - (1 + m)) (by omega) (by unfold maxLen; omega); rw [l2] at C2
          change Calls _ _ #[.slice (some ⟨b, o + (1 + m) * 6, none⟩) _ _] _ _ at C2
          have P := Lib.hid (C2)
          refine P.out.mono ?_
          rintro e w8 ⟨rfl, b⟩
          clear P
          replace K := Lib.hid (K.out.below b)
          replace X_p := Lib.hid (X_p.out.below b X_p.out.lt)
          replace X_u := Lib.hid (X_u.out.below b X_u.out.lt)
          replace HB := Lib.hid (HB.out.trans (b.mono HB.out.size))
          clear b
          clear C2 g2 K
          have r0 := X_u.out.cell 0 rfl; have r1 := X_u.out.cell 1 rfl; have r2 := X_u.out.cell 2 rfl; have r3 := X_u.out.cell 3 rfl; have r4 := X_u.out.cell 4 rfl; have r5 := X_u.out.cell 5 rfl; have rl := X_u.out.lt; have rn : a_u ≠ w8.heap.size := Nat.ne_of_lt X_u.out.lt
          go_wp2_with fail
          clear r0 r1 r2 r3 r4 r5 rl rn X_u
          have C3 := implWinsJoin_calls _ (ks_wins2 (w8.alloc (.cells #[.int .i64 (winsJoin (xs.drop (1 + m))).1.From, .int .i64 (winsJoin (xs.drop (1 + m))).1.Count, .int .i64 (winsJoin (xs.drop (1 + m))).1.Sum, .int .i64 (winsJoin (xs.drop (1 + m))).1.Low, .int .i64 (winsJoin (xs.drop (1 + m))).1.High, .int .i64 (winsJoin (xs.drop (1 + m))).1.Last] 41)) (winsJoin (xs.take (1 + m))).1 (winsJoin (xs.drop (1 + m))).1 41) (c := 2) (by simp) (by unfold maxLen; omega)
          rw [show (w8.alloc (.cells #[.int .i64 (winsJoin (xs.drop (1 + m))).1.From, .int .i64 (winsJoin (xs.drop (1 + m))).1.Count, .int .i64 (winsJoin (xs.drop (1 + m))).1.Sum, .int .i64 (winsJoin (xs.drop (1 + m))).1.Low, .int .i64 (winsJoin (xs.drop (1 + m))).1.High, .int .i64 (winsJoin (xs.drop (1 + m))).1.Last] 41)).heap.size = w8.heap.size + 1 by simp] at C3
          rw [PP.out] at C3
          have P := Lib.hid C3; clear C3
          refine P.out.mono ?_
          rintro e w9 ⟨rfl, b⟩
          clear P
          have b0 := ((Below.refl w8.heap.size w8).alloc (Nat.le_refl _) (.cells #[.int .i64 (winsJoin (xs.drop (1 + m))).1.From, .int .i64 (winsJoin (xs.drop (1 + m))).1.Count, .int .i64 (winsJoin (xs.drop (1 + m))).1.Sum, .int .i64 (winsJoin (xs.drop (1 + m))).1.Low, .int .i64 (winsJoin (xs.drop (1 + m))).1.High, .int .i64 (winsJoin (xs.drop (1 + m))).1.Last] 41)).alloc (by simp) (.cells #[.int .i64 (winsJoin (xs.take (1 + m))).1.From, .int .i64 (winsJoin (xs.take (1 + m))).1.Count, .int .i64 (winsJoin (xs.take (1 + m))).1.Sum, .int .i64 (winsJoin (xs.take (1 + m))).1.Low, .int .i64 (winsJoin (xs.take (1 + m))).1.High, .int .i64 (winsJoin (xs.take (1 + m))).1.Last, .int .i64 (winsJoin (xs.drop (1 + m))).1.From, .int .i64 (winsJoin (xs.drop (1 + m))).1.Count, .int .i64 (winsJoin (xs.drop (1 + m))).1.Sum, .int .i64 (winsJoin (xs.drop (1 + m))).1.Low, .int .i64 (winsJoin (xs.drop (1 + m))).1.High, .int .i64 (winsJoin (xs.drop (1 + m))).1.Last] 41)
          replace b := b0.trans (b.mono b0.size); clear b0
          replace X_p := Lib.hid (X_p.out.below b X_p.out.lt)
          replace HB := Lib.hid (HB.out.trans (b.mono HB.out.size))
          clear b
          have r0 := X_p.out.cell 0 rfl; have r1 := X_p.out.cell 1 rfl; have r2 := X_p.out.cell 2 rfl; have r3 := X_p.out.cell 3 rfl; have r4 := X_p.out.cell 4 rfl; have r5 := X_p.out.cell 5 rfl; have rl := X_p.out.lt; have rn : a_p ≠ w9.heap.size := Nat.ne_of_lt X_p.out.lt
          go_wp2
          go_ret
          exact ⟨rfl, HB.out.trans ((Below.refl _ _).alloc HB.out.size _)⟩
        · go_wp2
          go_ret
          exact ⟨rfl, HB.out.trans ((Below.refl _ _).alloc HB.out.size _)⟩
      · go_wp2
        go_ret
        exact ⟨rfl, HB.out.trans ((Below.refl _ _).alloc HB.out.size _)⟩
    · clear h h'
      go_enter Try.func7, Try.ntmps7
      go_wp2
      go_ret
      exact ⟨rfl, Below.refl _ _⟩
  · clear h h'
    go_enter Try.func7, Try.ntmps7
    go_wp2
    go_ret
    exact ⟨rfl, Below.refl _ _⟩
end Go.Proofs.Ytnchefajiedjiaa.AL
