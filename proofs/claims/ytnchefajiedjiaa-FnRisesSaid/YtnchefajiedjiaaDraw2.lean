/-
  A reader's greater numbers, and a sample's number.
-/
import Derived.Test.YtnchefajiedjiaaDraw
import Derived.Test.YtnchefajiedjiaaHSam
namespace Go.Proofs.Ytnchefajiedjiaa.AL
open Go Go.RowKit Go.Proofs
open Ty (KF)

theorem elems_map {w : World} : ∀ xs : List Int, Elems w xs (xs.map fun x => [Value.int .i64 x]) (xs.map fun _ => [])
  | [] => .nil
  | _ :: xs => .cons ⟨rfl, rfl⟩ (elems_map xs)
/-- A slice of numbers, written out. -/
theorem ks_build (w : World) (xs : List Int) (t : TypeId) : KS (w.alloc (.cells (xs.map fun x => Value.int .i64 x).toArray t)) (some ⟨w.heap.size, 0, none⟩) xs [w.heap.size] := by
  refine .inr ⟨w.heap.size, 0, _, _, rfl, ?_, elems_map xs, fun j u hu => ?_, by simp⟩
  · congr 1; induction xs with
    | nil => rfl
    | cons x xs ih => simp only [List.map_cons, List.flatten_cons, List.nil_append]; exact ih
  · have hb := Blk.new w (xs.map fun x => Value.int .i64 x) t
    have e : (xs.map fun x => [Value.int .i64 x]).flatten = xs.map fun x => Value.int .i64 x := by
      clear hu hb; induction xs with
      | nil => rfl
      | cons x xs ih => simp [ih]
    rw [e] at hu
    rw [Nat.zero_add]
    exact ⟨hb.cell j hu, hb.free j⟩

theorem big_calls {B a p : Nat} (n : Int) (w : World) (h : Rd B w a p) (hp : p + 3 ≤ 1099511627776) (hn0 : 1 ≤ n) (hn1 : n ≤ 9223372036854775807) :
    Calls Try.prog 76 #[.pointer (some ⟨a, 0, none⟩), .int .i64 n] w fun e w' => ∃ v : Int, e = .returned (.int .i64 v) ∧ 0 ≤ v ∧ v < n ∧ Rd B w' a (p + 3) ∧ Turns [a] w w' := by
  have P1 := Lib.hid (pick_calls 256 w h (by omega) (by omega) (by omega)); clear h
  go_enter Try.func76, Try.ntmps76
  go_wp2_with fail
  refine P1.out.mono ?_
  rintro e w1 ⟨v1, rfl, ⟨a1, b1, _⟩, r1, t1⟩
  have P2 := Lib.hid (pick_calls 256 w1 r1 (by omega) (by omega) (by omega)); clear r1 P1
  have d1 := b1 (by omega); clear b1
  go_wp2_with fail
  refine P2.out.mono ?_
  rintro e w2 ⟨v2, rfl, ⟨a2, b2, _⟩, r2, t2⟩
  have P3 := Lib.hid (pick_calls 256 w2 r2 (by omega) (by omega) (by omega)); clear r2 P2
  have d2 := b2 (by omega); clear b2
  go_wp2_with fail
  refine P3.out.mono ?_
  rintro e w3 ⟨v3, rfl, ⟨a3, b3, _⟩, r3, t3⟩
  have d3 := b3 (by omega); clear b3
  have HX := Lib.hid (show Rd B w3 a (p + 3) ∧ Turns [a] w w3 from ⟨r3, (t1.trans t2).trans t3⟩)
  clear r3 t1 t2 t3 P3
  go_wp2
  go_ret
  have hx : 0 ≤ v1 * 65536 + v2 * 256 + v3 := by omega
  refine ⟨_, rfl, ?_, ?_, HX.out⟩
  · exact Int.emod_nonneg _ (by omega)
  · exact Int.emod_lt_of_pos _ (by omega)

theorem one_lit {B a p : Nat} (xs : List Int) (w : World) (h : Rd B w a p) (hB : B ≤ w.heap.size) (hp : p ≤ 1099511627776) (h0 : 0 < xs.length) (hx : xs.length ≤ 1000) :
    Calls Try.prog 54 #[.pointer (some ⟨a, 0, none⟩), .slice (some ⟨w.heap.size, 0, none⟩) xs.length xs.length] (w.alloc (.cells (xs.map fun x => Value.int .i64 x).toArray 3))
      fun e w' => ∃ v : Int, e = .returned (.int .i64 v) ∧ v ∈ xs ∧ Rd B w' a (p + 1) ∧ Turns [a] w w' :=
  (one_calls _ (h.below' ((Below.refl _ _).alloc (Nat.le_refl _) _)) hp (ks_build w xs 3) (Nat.le_refl _) (by unfold maxLen; omega) h0 (by have := h.at; simp; omega)).mono
    fun _ _ ⟨v, he, hv, hr, ht⟩ => ⟨v, he, hv, hr, (Turns.of_below ((Below.refl _ _).alloc (Nat.le_refl _) _)).trans ht⟩
theorem Turns.grown {F : Foot} {w wr w' : World} {row : Option Nat} (h : Turns F w wr) (g : wr.grownBy w' row) (hr : ∀ j, row = some j → w.heap.size ≤ j) : Turns F w w' :=
  ⟨g.os.trans h.os, g.tape.trans h.tape, g.output.trans h.output, Nat.le_trans h.size g.size, fun k hk hn => (g.block k (Nat.lt_of_lt_of_le hk h.size) (fun e => by have := hr k e.symm; omega)).trans (h.block k hk hn)⟩
theorem Own.turns {α : Type} [Ty α] {w w' : World} {base : Nat} {e : TypeId} {v : Value} {xs : List α} {G F : Foot} (h : Own w base e v xs G) (t : Turns F w w') (hF : ∀ k ∈ F, k < base) (hG : ∀ k ∈ G, k ∉ F) : Own w' base e v xs G :=
  h.keep (fun k hk => t.block k (h.ownLt k hk).2 fun hm => by have := hF k hm; have := (h.ownLt k hk).1; omega) (fun k hk => t.block k (h.lt k hk) (hG k hk))
theorem Rd.grown {B : Nat} {w w' : World} {a p : Nat} {row : Option Nat} (h : Rd B w a p) (g : w.grownBy w' row) (hr : ∀ j, row = some j → B ≤ j) : Rd B w' a p := by
  obtain ⟨A, c, bs, F, h1, h2, h3, h4, h5, h6, h7, h8⟩ := h
  exact ⟨A, c, bs, F, h1.keep (g.block _ h1.lt fun e => by have := hr _ e.symm; omega), h2.keep fun k hk => g.block k (h2.lt k hk) (fun e => by have := hr _ e.symm; have := h8 k hk; omega), h3, h4, h5, h6, h7, h8⟩

theorem l13Value_calls {B a p : Nat} (w : World) (h : Rd B w a p) (hB : B ≤ w.heap.size) (hp : p + 6 ≤ 1099511627776) :
    Calls Try.prog 66 #[.pointer (some ⟨a, 0, none⟩)] w fun e w' => ∃ v : Int, e = .returned (.int .i64 v) ∧ 0 ≤ v ∧ v ≤ 2147483647 ∧ Rd B w' a (p + 6) ∧ Turns [a] w w' := by
  have P1 := Lib.hid (pick_calls 10 w h (by omega) (by omega) (by omega)); clear h
  go_enter Try.func66, Try.ntmps66
  go_wp2_with fail
  refine P1.out.mono ?_
  rintro e w1 ⟨v1, rfl, ⟨a1, b1, _⟩, r1, t1⟩
  have P2 := Lib.hid (big_calls 16777216 w1 r1 (by omega) (by omega) (by omega)); clear r1 P1
  have d1 := b1 (by omega); clear b1
  go_wp2_with fail
  refine P2.out.mono ?_
  rintro e w2 ⟨v2, rfl, a2, d2, r2, t2⟩
  have P3 := Lib.hid (pick_calls 4 w2 r2 (by omega) (by omega) (by omega)); clear r2 P2
  go_wp2_with fail
  refine P3.out.mono ?_
  rintro e w3 ⟨v3, rfl, ⟨a3, b3, _⟩, r3, t3⟩
  have d3 := b3 (by omega); clear b3 P3
  have T3 := Lib.hid ((t1.trans t2).trans t3)
  have hB3 := Nat.le_trans hB T3.out.size
  clear t1 t2 t3
  go_wp2_with fail
  refine (one_lit [v1, v2, 2147483647, 0, 1073741824, v3 * 1000] w3 r3 hB3 (by omega) (by simp) (by simp)).mono ?_
  rintro e w4 ⟨v, rfl, hv, r4, t4⟩
  have hv' : 0 ≤ v ∧ v ≤ 2147483647 := by simp only [List.mem_cons, List.not_mem_nil, or_false] at hv; omega
  have HX := Lib.hid (show ∃ v' : Int, Ending.returned (.int .i64 v) = .returned (.int .i64 v') ∧ 0 ≤ v' ∧ v' ≤ 2147483647 ∧ Rd B w4 a (p + 6) ∧ Turns [a] w w4 from ⟨v, rfl, hv'.1, hv'.2, r4, T3.out.trans t4⟩)
  clear r3 r4 t4 T3 hv hv'
  go_wp2
  go_ret
  exact HX.out

/-- A slice of at most m elements, all its memory at base or behind. -/
def Fresh {α : Type} [Ty α] (w : World) (base m : Nat) (v : Value) (xs : List α) : Prop := ∃ A c F, v = .slice A xs.length c ∧ xs.length ≤ m ∧ xs.length ≤ c ∧ c ≤ maxLen ∧ KS w A xs F ∧ ∀ k ∈ F, base ≤ k
theorem Own.fresh {α : Type} [Ty α] {w : World} {base m : Nat} {e : TypeId} {v : Value} {xs : List α} {G : Foot} (h : Own w base e v xs G) (hG : ∀ k ∈ G, base ≤ k) (hm : xs.length ≤ m) : Fresh w base m v xs := by
  obtain ⟨A, c, F, h1, h2, h3, h4, h5⟩ := h.out hG
  exact ⟨A, c, F, h1, hm, h2, h3, h4, h5⟩

/-- Drawn samples have small numbers. -/
def SamB (xs : List Sample) : Prop := ∀ x ∈ xs, -1 ≤ x.T ∧ x.T ≤ 20000 ∧ -1 ≤ x.V ∧ x.V ≤ 2147483648
theorem SamB.nil : SamB [] := by intro x hx; simp at hx
theorem SamB.push {xs : List Sample} (h : SamB xs) {x : Sample} (hx : -1 ≤ x.T ∧ x.T ≤ 20000 ∧ -1 ≤ x.V ∧ x.V ≤ 2147483648) : SamB (xs ++ [x]) := by
  intro y hy
  rcases List.mem_append.1 hy with hy | hy
  · exact h y hy
  · rw [List.mem_singleton.1 hy]; exact hx
theorem SamB.set {xs : List Sample} (h : SamB xs) (i : Nat) {x : Sample} (hx : -1 ≤ x.T ∧ x.T ≤ 20000 ∧ -1 ≤ x.V ∧ x.V ≤ 2147483648) : SamB (xs.set i x) := by
  intro y hy
  rcases List.mem_or_eq_of_mem_set hy with hy | hy
  · exact h y hy
  · rw [hy]; exact hx
theorem SamB.at {xs : List Sample} (h : SamB xs) (k : Nat) (hk : k < xs.length) : -1 ≤ xs[k].T ∧ xs[k].T ≤ 20000 ∧ -1 ≤ xs[k].V ∧ xs[k].V ≤ 2147483648 := h _ (List.getElem_mem hk)

/-- Some samples, drawn: fresh memory, no more than most; the reader has gone on by some steps. -/
def SamPost (B a p most steps : Nat) (w : World) (e : Ending) (w' : World) : Prop :=
  ∃ (v : Value) (xs : List Sample) (p' : Nat), e = .returned v ∧ Fresh w' w.heap.size most v xs ∧ p ≤ p' ∧ p' ≤ p + steps ∧ Rd B w' a p' ∧ Turns [a] w w' ∧ SamB xs

set_option maxRecDepth 100000 in
set_option maxHeartbeats 2000000 in
theorem l13Samples_calls {B a p : Nat} (most : Nat) (w : World) (h : Rd B w a p) (hB : B ≤ w.heap.size) (hm : most ≤ 1000) (hp : p + 10000 ≤ 1099511627776) :
    Calls Try.prog 53 #[.pointer (some ⟨a, 0, none⟩), .int .i64 most] w (SamPost B a p most (9 + 8 * most) w) := by
  obtain ⟨ii, hi, hz0, hz1, hz2⟩ := info_parts info_Sample
  have haB := h.at
  have hE := Own.empty (α := Sample) w 36 (Nat.le_refl _)
  have hb0 : Below w.heap.size w (w.alloc (.cells #[] 36)) := (Below.refl _ _).alloc (Nat.le_refl _) _
  obtain ⟨w0, hw0⟩ : ∃ w0, w0 = w.alloc (.cells #[] 36) := ⟨_, rfl⟩
  rw [← hw0] at hE hb0
  have r0 := h.below' hb0
  have t0 : Turns [a] w w0 := Turns.of_below hb0
  have hB0 : B ≤ w0.heap.size := Nat.le_trans hB hb0.size
  have P1 := Lib.hid (pick_calls 300 w0 r0 (by omega) (by omega) (by omega)); clear r0 hb0
  have HE := Lib.hid hE; clear hE
  have T0 := Lib.hid t0; clear t0
  have EQ := Lib.hid hw0
  go_enter Try.func53, Try.ntmps53
  go_wp2_with fail
  rw [← EQ.out]
  refine P1.out.mono ?_
  rintro e w1 ⟨v1, rfl, ⟨a1, b1, _⟩, r1, t1⟩
  clear P1 EQ hw0
  have d1 := b1 (by omega); clear b1
  have hB1 := Nat.le_trans hB0 t1.size
  have T1 := Lib.hid (T0.out.trans t1); have HE1 := Lib.hid (HE.out.turns t1 (by simp; omega) (by simp)); clear t1 T0 HE
  go_wp2_with fail
  refine (one_lit [0, v1, 9000, 5000] w1 r1 hB1 (by omega) (by simp) (by simp)).mono ?_
  rintro e w2 ⟨tt, rfl, hv, r2, t2⟩
  have htt : 0 ≤ tt ∧ tt ≤ 9000 := by simp only [List.mem_cons, List.not_mem_nil, or_false] at hv; omega
  have hB2 := Nat.le_trans hB1 t2.size
  have T2 := Lib.hid (T1.out.trans t2); have HE2 := Lib.hid (HE1.out.turns t2 (by simp; omega) (by simp)); clear t2 T1 HE1 r1 hv
  have P2 := Lib.hid (l13Value_calls w2 r2 hB2 (by omega)); clear r2
  go_wp2_with fail
  refine P2.out.mono ?_
  rintro e w3 ⟨vv, rfl, va, vb, r3, t3⟩
  have hB3 := Nat.le_trans hB2 t3.size
  have T3 := Lib.hid (T2.out.trans t3); have HE3 := Lib.hid (HE2.out.turns t3 (by simp; omega) (by simp)); clear t3 T2 HE2 P2
  have P3 := Lib.hid (pick_calls ((most : Int) + 1) w3 r3 (by omega) (by omega) (by omega)); clear r3
  go_wp2_with fail
  refine P3.out.mono ?_
  rintro e w4 ⟨kk, rfl, ⟨a4, b4, _⟩, r4, t4⟩
  have d4 := b4 (by omega); clear b4 P3
  obtain ⟨k0, rfl⟩ := Int.eq_ofNat_of_zero_le a4
  have hB4 := Nat.le_trans hB3 t4.size
  have T4 := Lib.hid (T3.out.trans t4); have HE4 := Lib.hid (HE3.out.turns t4 (by simp; omega) (by simp)); clear t4 T3 HE3
  have R4 := Lib.hid r4; clear r4
  clear hB0 hB1 hB2 hB3
  go_wp2
  go_loopw [5, 6, 7, 8] (fun out t v n wr => ∃ (xs : List Sample) (p' k : Nat) (tt vv : Int), t = .int .i64 tt ∧ v = .int .i64 vv ∧ n = .int .i64 k ∧ 0 ≤ tt ∧ tt ≤ 20000 ∧ 0 ≤ vv ∧ vv ≤ 2147483647 ∧ xs.length + k ≤ most ∧ p ≤ p' ∧ p' + 8 * k ≤ p + 9 + 8 * most ∧ Own wr w.heap.size 36 out xs [] ∧ Rd B wr a p' ∧ Turns [a] w wr ∧ Hid (SamB xs)) (fun _ _ _ n _ => (intOf n).toNat)
  case atStart => exact ⟨[], p + 9, k0, tt, vv, rfl, rfl, rfl, by omega, by omega, va, vb, by simp; omega, by omega, by omega, HE4.out, R4.out, T4.out, Lib.hid SamB.nil⟩
  case round =>
    obtain ⟨xs, p', k, tt', vv', rfl, rfl, rfl, c1, c2, c3, c4, c5, c6, c7, o, r, t, HSB⟩ := hrel
    have HO := Lib.hid o; have HR := Lib.hid r; have HT := Lib.hid t; clear o r t
    have hBr := Nat.le_trans hB HT.out.size
    by_cases hk : 0 < k
    · by_cases ht : tt' ≤ 9999
      · have hbase := HT.out.size
        go_wp2_with (at_builtin; refine wpList_push rfl _ _ 25 rfl 36 ii (.agg #[.int .i64 0, .int .i64 0]) 16 Try.underlying25 hi hz0 hz1 hz2 rfl (W := wr) HO.out rfl (kf_Sample_mk _ ⟨tt', vv'⟩) rfl (by simp) (by simp) (by omega) (by omega) hbase ?_)
        intro v' w' ho' hg' hv'
        have hown := fun j hj => (HO.out.ownLt j hj).1
        have r5 := HR.out.grown hg' (fun j hj => by have := hown j hj; omega)
        have T5 := Lib.hid (HT.out.grown hg' hown)
        have HO5 := Lib.hid ho'
        have hB5 := Nat.le_trans hBr hg'.size
        clear hg' hv' ho' HO HR HT hown hbase
        go_wp2_with fail
        refine (one_lit [1, 1, 10, 10, 10, 63, 64, 65, 130, 700] w' r5 hB5 (by omega) (by simp) (by simp)).mono ?_
        rintro e w6 ⟨dt, rfl, hv, r6, t6⟩
        have hdt : 1 ≤ dt ∧ dt ≤ 700 := by simp only [List.mem_cons, List.not_mem_nil, or_false] at hv; omega
        have hB6 := Nat.le_trans hB5 t6.size
        have T6 := Lib.hid (T5.out.trans t6); have HO6 := Lib.hid (HO5.out.turns t6 (by simp; omega) (by simp)); clear t6 T5 HO5 r5 hv
        have P6 := Lib.hid (pick_calls 3 w6 r6 (by omega) (by omega) (by omega)); clear r6
        go_wp2_with fail
        refine P6.out.mono ?_
        rintro e w7 ⟨k3, rfl, ⟨a7, _, _⟩, r7, t7⟩
        have hB7 := Nat.le_trans hB6 t7.size
        have T7 := Lib.hid (T6.out.trans t7); have HO7 := Lib.hid (HO6.out.turns t7 (by simp; omega) (by simp)); clear t7 T6 HO6 P6
        obtain ⟨m, rfl⟩ : ∃ m, k = m + 1 := ⟨k - 1, by omega⟩
        by_cases h3 : 0 < k3
        · have P7 := Lib.hid (l13Value_calls w7 r7 hB7 (by omega)); clear r7
          go_wp2_with fail
          refine P7.out.mono ?_
          rintro e w8 ⟨nv, rfl, n1, n2, r8, t8⟩
          have HO8 := Lib.hid (HO7.out.turns t8 (by simp; omega) (by simp))
          have T8 := Lib.hid (T7.out.trans t8); clear t8 P7 T7 HO7
          have HR8 := Lib.hid r8; clear r8
          go_wp2
          go_roundw
          case rel => exact ⟨xs ++ [⟨tt', vv'⟩], p' + 1 + 1 + 6, m, tt' + dt, nv, rfl, rfl, by go_num, by omega, by omega, n1, n2, by simp; omega, by omega, by omega, by simpa using HO8.out, HR8.out, T8.out, Lib.hid (HSB.out.push (x := ⟨tt', vv'⟩) ⟨by show -1 ≤ tt'; omega, by show tt' ≤ 20000; omega, by show -1 ≤ vv'; omega, by show vv' ≤ 2147483648; omega⟩)⟩
          case measure => simp [intOf]
        · have HR8 := Lib.hid r7; clear r7
          go_wp2
          go_roundw
          case rel => exact ⟨xs ++ [⟨tt', vv'⟩], p' + 1 + 1, m, tt' + dt, vv', rfl, rfl, by go_num, by omega, by omega, c3, c4, by simp; omega, by omega, by omega, by simpa using HO7.out, HR8.out, T7.out, Lib.hid (HSB.out.push (x := ⟨tt', vv'⟩) ⟨by show -1 ≤ tt'; omega, by show tt' ≤ 20000; omega, by show -1 ≤ vv'; omega, by show vv' ≤ 2147483648; omega⟩)⟩
          case measure => simp [intOf]
      · have HX := Lib.hid (show SamPost B a p most (9 + 8 * most) w (.returned _) wr from
          ⟨_, xs, p', rfl, HO.out.fresh (by simp) (by omega), by omega, by omega, HR.out, HT.out, HSB.out⟩)
        clear HO HR HT
        go_wp2
        go_ret
        exact HX.out
    · have HX := Lib.hid (show SamPost B a p most (9 + 8 * most) w (.returned _) wr from
        ⟨_, xs, p', rfl, HO.out.fresh (by simp) (by omega), by omega, by omega, HR.out, HT.out, HSB.out⟩)
      clear HO HR HT
      go_wp2
      go_ret
      exact HX.out
end Go.Proofs.Ytnchefajiedjiaa.AL
