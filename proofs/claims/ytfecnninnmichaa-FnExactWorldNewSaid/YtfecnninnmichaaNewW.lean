/-
  A new world: the program's and the reference's, and what the law does with them (all lists are nil).
-/
import Derived.Test.YtfecnninnmichaaProg
import Derived.Test.YtfecnninnmichaaOver
import Derived.Lib.Hide
namespace Go.Proofs.Ytfecnninnmichaa.AL
open Go Go.RowKit Go.Proofs
open Ty (KF)
set_option linter.unusedVariables false

theorem eqFileTextS_nil (w : World) : Calls Try.prog 22 #[.slice none 0 0, .slice none 0 0] w fun e w' => e = .returned (.bool true) ∧ Below w.heap.size w w' := by
  go_enter Try.func22, Try.ntmps22
  go_wp2
  go_loopw [5] (fun i wr => i = .int .i64 0 ∧ w = wr) (fun _ _ => 0)
  case atStart => exact ⟨rfl, rfl⟩
  case round =>
    obtain ⟨rfl, rfl⟩ := hrel
    go_wp2
    go_ret
    exact ⟨rfl, Below.refl _ _⟩
theorem markFileTextS_nil (k : Int) (w : World) : Calls Try.prog 26 #[.slice none 0 0, .int .i64 k] w fun e w' => e = .returned (.int .i64 k) ∧ Below w.heap.size w w' := by
  go_enter Try.func26, Try.ntmps26
  go_wp2
  go_loopw [1, 5] (fun v i wr => v = .int .i64 k ∧ i = .int .i64 0 ∧ w = wr) (fun _ _ _ => 0)
  case atStart => exact ⟨rfl, rfl, rfl⟩
  case round =>
    obtain ⟨rfl, rfl, rfl⟩ := hrel
    go_wp2
    go_ret
    exact ⟨rfl, Below.refl _ _⟩
theorem heldFileTextS_nil (k : Int) (w : World) : Calls Try.prog 30 #[.slice none 0 0, .int .i64 k] w fun e w' => e = .returned (.int .i64 k) ∧ Below w.heap.size w w' := by
  go_enter Try.func30, Try.ntmps30
  go_wp2
  go_loopw [1, 5] (fun v i wr => v = .int .i64 k ∧ i = .int .i64 0 ∧ w = wr) (fun _ _ _ => 0)
  case atStart => exact ⟨rfl, rfl, rfl⟩
  case round =>
    obtain ⟨rfl, rfl, rfl⟩ := hrel
    go_wp2
    go_ret
    exact ⟨rfl, Below.refl _ _⟩
theorem eqRowS_nil (w : World) : Calls Try.prog 25 #[.slice none 0 0, .slice none 0 0] w fun e w' => e = .returned (.bool true) ∧ Below w.heap.size w w' := by
  go_enter Try.func25, Try.ntmps25
  go_wp2
  go_loopw [5] (fun i wr => i = .int .i64 0 ∧ w = wr) (fun _ _ => 0)
  case atStart => exact ⟨rfl, rfl⟩
  case round =>
    obtain ⟨rfl, rfl⟩ := hrel
    go_wp2
    go_ret
    exact ⟨rfl, Below.refl _ _⟩
theorem markRowS_nil (k : Int) (w : World) : Calls Try.prog 29 #[.slice none 0 0, .int .i64 k] w fun e w' => e = .returned (.int .i64 k) ∧ Below w.heap.size w w' := by
  go_enter Try.func29, Try.ntmps29
  go_wp2
  go_loopw [1, 5] (fun v i wr => v = .int .i64 k ∧ i = .int .i64 0 ∧ w = wr) (fun _ _ _ => 0)
  case atStart => exact ⟨rfl, rfl, rfl⟩
  case round =>
    obtain ⟨rfl, rfl, rfl⟩ := hrel
    go_wp2
    go_ret
    exact ⟨rfl, Below.refl _ _⟩
theorem heldRowS_nil (k : Int) (w : World) : Calls Try.prog 33 #[.slice none 0 0, .int .i64 k] w fun e w' => e = .returned (.int .i64 k) ∧ Below w.heap.size w w' := by
  go_enter Try.func33, Try.ntmps33
  go_wp2
  go_loopw [1, 5] (fun v i wr => v = .int .i64 k ∧ i = .int .i64 0 ∧ w = wr) (fun _ _ _ => 0)
  case atStart => exact ⟨rfl, rfl, rfl⟩
  case round =>
    obtain ⟨rfl, rfl, rfl⟩ := hrel
    go_wp2
    go_ret
    exact ⟨rfl, Below.refl _ _⟩
theorem eqHeldS_nil (w : World) : Calls Try.prog 23 #[.slice none 0 0, .slice none 0 0] w fun e w' => e = .returned (.bool true) ∧ Below w.heap.size w w' := by
  go_enter Try.func23, Try.ntmps23
  go_wp2
  go_loopw [5] (fun i wr => i = .int .i64 0 ∧ w = wr) (fun _ _ => 0)
  case atStart => exact ⟨rfl, rfl⟩
  case round =>
    obtain ⟨rfl, rfl⟩ := hrel
    go_wp2
    go_ret
    exact ⟨rfl, Below.refl _ _⟩
theorem markHeldS_nil (k : Int) (w : World) : Calls Try.prog 27 #[.slice none 0 0, .int .i64 k] w fun e w' => e = .returned (.int .i64 k) ∧ Below w.heap.size w w' := by
  go_enter Try.func27, Try.ntmps27
  go_wp2
  go_loopw [1, 5] (fun v i wr => v = .int .i64 k ∧ i = .int .i64 0 ∧ w = wr) (fun _ _ _ => 0)
  case atStart => exact ⟨rfl, rfl, rfl⟩
  case round =>
    obtain ⟨rfl, rfl, rfl⟩ := hrel
    go_wp2
    go_ret
    exact ⟨rfl, Below.refl _ _⟩
theorem heldHeldS_nil (k : Int) (w : World) : Calls Try.prog 31 #[.slice none 0 0, .int .i64 k] w fun e w' => e = .returned (.int .i64 k) ∧ Below w.heap.size w w' := by
  go_enter Try.func31, Try.ntmps31
  go_wp2
  go_loopw [1, 5] (fun v i wr => v = .int .i64 k ∧ i = .int .i64 0 ∧ w = wr) (fun _ _ _ => 0)
  case atStart => exact ⟨rfl, rfl, rfl⟩
  case round =>
    obtain ⟨rfl, rfl, rfl⟩ := hrel
    go_wp2
    go_ret
    exact ⟨rfl, Below.refl _ _⟩
theorem eqTombS_nil (w : World) : Calls Try.prog 24 #[.slice none 0 0, .slice none 0 0] w fun e w' => e = .returned (.bool true) ∧ Below w.heap.size w w' := by
  go_enter Try.func24, Try.ntmps24
  go_wp2
  go_loopw [5] (fun i wr => i = .int .i64 0 ∧ w = wr) (fun _ _ => 0)
  case atStart => exact ⟨rfl, rfl⟩
  case round =>
    obtain ⟨rfl, rfl⟩ := hrel
    go_wp2
    go_ret
    exact ⟨rfl, Below.refl _ _⟩
theorem markTombS_nil (k : Int) (w : World) : Calls Try.prog 28 #[.slice none 0 0, .int .i64 k] w fun e w' => e = .returned (.int .i64 k) ∧ Below w.heap.size w w' := by
  go_enter Try.func28, Try.ntmps28
  go_wp2
  go_loopw [1, 5] (fun v i wr => v = .int .i64 k ∧ i = .int .i64 0 ∧ w = wr) (fun _ _ _ => 0)
  case atStart => exact ⟨rfl, rfl, rfl⟩
  case round =>
    obtain ⟨rfl, rfl, rfl⟩ := hrel
    go_wp2
    go_ret
    exact ⟨rfl, Below.refl _ _⟩
theorem heldTombS_nil (k : Int) (w : World) : Calls Try.prog 32 #[.slice none 0 0, .int .i64 k] w fun e w' => e = .returned (.int .i64 k) ∧ Below w.heap.size w w' := by
  go_enter Try.func32, Try.ntmps32
  go_wp2
  go_loopw [1, 5] (fun v i wr => v = .int .i64 k ∧ i = .int .i64 0 ∧ w = wr) (fun _ _ _ => 0)
  case atStart => exact ⟨rfl, rfl, rfl⟩
  case round =>
    obtain ⟨rfl, rfl, rfl⟩ := hrel
    go_wp2
    go_ret
    exact ⟨rfl, Below.refl _ _⟩
theorem specTableNew_calls (w : World) : Calls Try.prog 10 #[] w fun e w' => e = .returned (.agg #[.slice none 0 0, .int .i64 (-1), .int .i64 0]) ∧ Below w.heap.size w w' := by
  go_enter Try.func10, Try.ntmps10
  go_wp2
  exact bodyPost_ret (v := .agg #[.slice none 0 0, .int .i64 (-1), .int .i64 0]) (by simp [results, Try.results10, go_sem]) rfl ⟨rfl, (by repeat' (first | (with_reducible first | assumption | exact Below.refl _ _ | apply Below.drew | apply Below.alloc | apply Below.setCell) | (simp; done) | (simp; omega)))⟩
set_option maxRecDepth 100000 in
theorem specStoreNew_calls (w : World) : Calls Try.prog 9 #[] w fun e w' => e = .returned (.agg #[.int .i64 0, .int .i64 0, .slice none 0 0, .int .i64 (-1), .int .i64 0, .slice none 0 0, .slice none 0 0]) ∧ Below w.heap.size w w' := by
  have X0 := Lib.hid (Blk.new w [.int .i64 0, .int .i64 0, .slice none 0 0, .int .i64 0, .int .i64 0, .slice none 0 0, .slice none 0 0] 31)
  have B := Lib.hid ((Below.refl w.heap.size w).alloc (by simp) (.cells #[.int .i64 0, .int .i64 0, .slice none 0 0, .int .i64 0, .int .i64 0, .slice none 0 0, .slice none 0 0] 31))
  go_enter Try.func9, Try.ntmps9
  go_wp2_with fail
  generalize w.alloc _ = w0 at B X0 ⊢
  refine (specTableNew_calls w0).mono ?_
  rintro e w1 ⟨rfl, b⟩
  replace B := Lib.hid (B.out.trans (b.mono B.out.size))
  replace X0 := Lib.hid (X0.out.below b X0.out.lt)
  clear b
  have c0 := X0.out.cell 0 rfl; have f0 := X0.out.free 0; have c1 := X0.out.cell 1 rfl; have f1 := X0.out.free 1; have c2 := X0.out.cell 2 rfl; have f2 := X0.out.free 2; have c3 := X0.out.cell 3 rfl; have f3 := X0.out.free 3; have c4 := X0.out.cell 4 rfl; have f4 := X0.out.free 4; have c5 := X0.out.cell 5 rfl; have f5 := X0.out.free 5; have c6 := X0.out.cell 6 rfl; have f6 := X0.out.free 6
  have bb := B.out
  go_wp2
  exact bodyPost_ret (v := .agg #[.int .i64 0, .int .i64 0, .slice none 0 0, .int .i64 (-1), .int .i64 0, .slice none 0 0, .slice none 0 0]) (by simp [results, Try.results9, go_sem, *]) rfl ⟨rfl, (by repeat' (first | (with_reducible first | assumption | exact Below.refl _ _ | apply Below.drew | apply Below.alloc | apply Below.setCell) | (simp; done) | (simp; omega)))⟩
set_option maxRecDepth 100000 in
theorem specWorldNew_calls (w : World) : Calls Try.prog 4 #[] w fun e w' => e = .returned (.agg #[.string ⟨#[]⟩, .string ⟨#[]⟩, .slice none 0 0, .bool true, .int .i64 0, .int .i64 0, .slice none 0 0, .int .i64 (-1), .int .i64 0, .slice none 0 0, .slice none 0 0, .slice none 0 0, .int .i64 (-1), .int .i64 0]) ∧ Below w.heap.size w w' := by
  have X0 := Lib.hid (Blk.new w [.string ⟨#[]⟩, .string ⟨#[]⟩, .slice none 0 0, .bool false, .int .i64 0, .int .i64 0, .slice none 0 0, .int .i64 0, .int .i64 0, .slice none 0 0, .slice none 0 0, .slice none 0 0, .int .i64 0, .int .i64 0] 33)
  have B := Lib.hid ((Below.refl w.heap.size w).alloc (by simp) (.cells #[.string ⟨#[]⟩, .string ⟨#[]⟩, .slice none 0 0, .bool false, .int .i64 0, .int .i64 0, .slice none 0 0, .int .i64 0, .int .i64 0, .slice none 0 0, .slice none 0 0, .slice none 0 0, .int .i64 0, .int .i64 0] 33))
  go_enter Try.func4, Try.ntmps4
  go_wp2_with fail
  generalize w.alloc _ = w0 at B X0 ⊢
  refine (specStoreNew_calls w0).mono ?_
  rintro e w1 ⟨rfl, b⟩
  replace B := Lib.hid (B.out.trans (b.mono B.out.size))
  replace X0 := Lib.hid (X0.out.below b X0.out.lt)
  clear b
  go_wp2_with fail
  refine (specTableNew_calls w1).mono ?_
  rintro e w2 ⟨rfl, b⟩
  replace B := Lib.hid (B.out.trans (b.mono B.out.size))
  replace X0 := Lib.hid (X0.out.below b X0.out.lt)
  clear b
  have c0 := X0.out.cell 0 rfl; have f0 := X0.out.free 0; have c1 := X0.out.cell 1 rfl; have f1 := X0.out.free 1; have c2 := X0.out.cell 2 rfl; have f2 := X0.out.free 2; have c3 := X0.out.cell 3 rfl; have f3 := X0.out.free 3; have c4 := X0.out.cell 4 rfl; have f4 := X0.out.free 4; have c5 := X0.out.cell 5 rfl; have f5 := X0.out.free 5; have c6 := X0.out.cell 6 rfl; have f6 := X0.out.free 6; have c7 := X0.out.cell 7 rfl; have f7 := X0.out.free 7; have c8 := X0.out.cell 8 rfl; have f8 := X0.out.free 8; have c9 := X0.out.cell 9 rfl; have f9 := X0.out.free 9; have c10 := X0.out.cell 10 rfl; have f10 := X0.out.free 10; have c11 := X0.out.cell 11 rfl; have f11 := X0.out.free 11; have c12 := X0.out.cell 12 rfl; have f12 := X0.out.free 12; have c13 := X0.out.cell 13 rfl; have f13 := X0.out.free 13
  have bb := B.out
  go_wp2
  exact bodyPost_ret (v := .agg #[.string ⟨#[]⟩, .string ⟨#[]⟩, .slice none 0 0, .bool true, .int .i64 0, .int .i64 0, .slice none 0 0, .int .i64 (-1), .int .i64 0, .slice none 0 0, .slice none 0 0, .slice none 0 0, .int .i64 (-1), .int .i64 0]) (by simp [results, Try.results4, go_sem, *]) rfl ⟨rfl, (by repeat' (first | (with_reducible first | assumption | exact Below.refl _ _ | apply Below.drew | apply Below.alloc | apply Below.setCell) | (simp; done) | (simp; omega)))⟩
theorem implTableNew_calls (w : World) : Calls Try.prog 12 #[] w fun e w' => e = .returned (.agg #[.slice none 0 0, .int .i64 (-1), .int .i64 0]) ∧ Below w.heap.size w w' := by
  go_enter Try.func12, Try.ntmps12
  go_wp2
  exact bodyPost_ret (v := .agg #[.slice none 0 0, .int .i64 (-1), .int .i64 0]) (by simp [results, Try.results12, go_sem]) rfl ⟨rfl, (by repeat' (first | (with_reducible first | assumption | exact Below.refl _ _ | apply Below.drew | apply Below.alloc | apply Below.setCell) | (simp; done) | (simp; omega)))⟩
set_option maxRecDepth 100000 in
theorem implStoreNew_calls (w : World) : Calls Try.prog 11 #[] w fun e w' => e = .returned (.agg #[.int .i64 0, .int .i64 0, .slice none 0 0, .int .i64 (-1), .int .i64 0, .slice none 0 0, .slice none 0 0]) ∧ Below w.heap.size w w' := by
  have X0 := Lib.hid (Blk.new w [.int .i64 0, .int .i64 0, .slice none 0 0, .int .i64 0, .int .i64 0, .slice none 0 0, .slice none 0 0] 31)
  have B := Lib.hid ((Below.refl w.heap.size w).alloc (by simp) (.cells #[.int .i64 0, .int .i64 0, .slice none 0 0, .int .i64 0, .int .i64 0, .slice none 0 0, .slice none 0 0] 31))
  go_enter Try.func11, Try.ntmps11
  go_wp2_with fail
  generalize w.alloc _ = w0 at B X0 ⊢
  refine (implTableNew_calls w0).mono ?_
  rintro e w1 ⟨rfl, b⟩
  replace B := Lib.hid (B.out.trans (b.mono B.out.size))
  replace X0 := Lib.hid (X0.out.below b X0.out.lt)
  clear b
  have c0 := X0.out.cell 0 rfl; have f0 := X0.out.free 0; have c1 := X0.out.cell 1 rfl; have f1 := X0.out.free 1; have c2 := X0.out.cell 2 rfl; have f2 := X0.out.free 2; have c3 := X0.out.cell 3 rfl; have f3 := X0.out.free 3; have c4 := X0.out.cell 4 rfl; have f4 := X0.out.free 4; have c5 := X0.out.cell 5 rfl; have f5 := X0.out.free 5; have c6 := X0.out.cell 6 rfl; have f6 := X0.out.free 6
  have bb := B.out
  go_wp2
  exact bodyPost_ret (v := .agg #[.int .i64 0, .int .i64 0, .slice none 0 0, .int .i64 (-1), .int .i64 0, .slice none 0 0, .slice none 0 0]) (by simp [results, Try.results11, go_sem, *]) rfl ⟨rfl, (by repeat' (first | (with_reducible first | assumption | exact Below.refl _ _ | apply Below.drew | apply Below.alloc | apply Below.setCell) | (simp; done) | (simp; omega)))⟩
set_option maxRecDepth 100000 in
theorem implWorldNew_calls (w : World) : Calls Try.prog 5 #[] w fun e w' => e = .returned (.agg #[.string ⟨#[]⟩, .string ⟨#[]⟩, .slice none 0 0, .bool true, .int .i64 0, .int .i64 0, .slice none 0 0, .int .i64 (-1), .int .i64 0, .slice none 0 0, .slice none 0 0, .slice none 0 0, .int .i64 (-1), .int .i64 0]) ∧ Below w.heap.size w w' := by
  have X0 := Lib.hid (Blk.new w [.string ⟨#[]⟩, .string ⟨#[]⟩, .slice none 0 0, .bool false, .int .i64 0, .int .i64 0, .slice none 0 0, .int .i64 0, .int .i64 0, .slice none 0 0, .slice none 0 0, .slice none 0 0, .int .i64 0, .int .i64 0] 33)
  have B := Lib.hid ((Below.refl w.heap.size w).alloc (by simp) (.cells #[.string ⟨#[]⟩, .string ⟨#[]⟩, .slice none 0 0, .bool false, .int .i64 0, .int .i64 0, .slice none 0 0, .int .i64 0, .int .i64 0, .slice none 0 0, .slice none 0 0, .slice none 0 0, .int .i64 0, .int .i64 0] 33))
  go_enter Try.func5, Try.ntmps5
  go_wp2_with fail
  generalize w.alloc _ = w0 at B X0 ⊢
  refine (implStoreNew_calls w0).mono ?_
  rintro e w1 ⟨rfl, b⟩
  replace B := Lib.hid (B.out.trans (b.mono B.out.size))
  replace X0 := Lib.hid (X0.out.below b X0.out.lt)
  clear b
  go_wp2_with fail
  refine (implTableNew_calls w1).mono ?_
  rintro e w2 ⟨rfl, b⟩
  replace B := Lib.hid (B.out.trans (b.mono B.out.size))
  replace X0 := Lib.hid (X0.out.below b X0.out.lt)
  clear b
  have c0 := X0.out.cell 0 rfl; have f0 := X0.out.free 0; have c1 := X0.out.cell 1 rfl; have f1 := X0.out.free 1; have c2 := X0.out.cell 2 rfl; have f2 := X0.out.free 2; have c3 := X0.out.cell 3 rfl; have f3 := X0.out.free 3; have c4 := X0.out.cell 4 rfl; have f4 := X0.out.free 4; have c5 := X0.out.cell 5 rfl; have f5 := X0.out.free 5; have c6 := X0.out.cell 6 rfl; have f6 := X0.out.free 6; have c7 := X0.out.cell 7 rfl; have f7 := X0.out.free 7; have c8 := X0.out.cell 8 rfl; have f8 := X0.out.free 8; have c9 := X0.out.cell 9 rfl; have f9 := X0.out.free 9; have c10 := X0.out.cell 10 rfl; have f10 := X0.out.free 10; have c11 := X0.out.cell 11 rfl; have f11 := X0.out.free 11; have c12 := X0.out.cell 12 rfl; have f12 := X0.out.free 12; have c13 := X0.out.cell 13 rfl; have f13 := X0.out.free 13
  have bb := B.out
  go_wp2
  exact bodyPost_ret (v := .agg #[.string ⟨#[]⟩, .string ⟨#[]⟩, .slice none 0 0, .bool true, .int .i64 0, .int .i64 0, .slice none 0 0, .int .i64 (-1), .int .i64 0, .slice none 0 0, .slice none 0 0, .slice none 0 0, .int .i64 (-1), .int .i64 0]) (by simp [results, Try.results5, go_sem, *]) rfl ⟨rfl, (by repeat' (first | (with_reducible first | assumption | exact Below.refl _ _ | apply Below.drew | apply Below.alloc | apply Below.setCell) | (simp; done) | (simp; omega)))⟩
set_option maxRecDepth 100000 in
set_option maxHeartbeats 2000000 in
theorem eqTable_new (w : World) : Calls Try.prog 15 #[.agg #[.slice none 0 0, .int .i64 (-1), .int .i64 0], .agg #[.slice none 0 0, .int .i64 (-1), .int .i64 0]] w fun e w' => e = .returned (.bool true) ∧ Below w.heap.size w w' := by
  have X0 := Blk.new w [.slice none 0 0, .int .i64 (-1), .int .i64 0] 27
  replace X0 := X0.alloc (.cells #[.slice none 0 0, .int .i64 (-1), .int .i64 0] 27)
  have X1 := Blk.new ((w).alloc (.cells #[.slice none 0 0, .int .i64 (-1), .int .i64 0] 27)) [.slice none 0 0, .int .i64 (-1), .int .i64 0] 27
  rw [show ((w).alloc (.cells #[.slice none 0 0, .int .i64 (-1), .int .i64 0] 27)).heap.size = w.heap.size + 1 by simp] at X1
  have B : Below w.heap.size w (((w).alloc (.cells #[.slice none 0 0, .int .i64 (-1), .int .i64 0] 27)).alloc (.cells #[.slice none 0 0, .int .i64 (-1), .int .i64 0] 27)) := (((Below.refl w.heap.size w).alloc (by simp) (.cells #[.slice none 0 0, .int .i64 (-1), .int .i64 0] 27)).alloc (by simp) (.cells #[.slice none 0 0, .int .i64 (-1), .int .i64 0] 27))
  replace X0 := Lib.hid X0
  replace X1 := Lib.hid X1
  replace B := Lib.hid B
  go_enter Try.func15, Try.ntmps15
  go_wp2_with fail
  generalize ((w).alloc (.cells #[.slice none 0 0, .int .i64 (-1), .int .i64 0] 27)).alloc (.cells #[.slice none 0 0, .int .i64 (-1), .int .i64 0] 27) = w0 at B X0 X1 ⊢
  refine (eqRowS_nil w0).mono ?_
  rintro e w1 ⟨rfl, b⟩
  replace B := Lib.hid (B.out.trans (b.mono B.out.size))
  replace X0 := Lib.hid (X0.out.below b X0.out.lt)
  replace X1 := Lib.hid (X1.out.below b X1.out.lt)
  clear b
  have c0_0 := X0.out.cell 0 rfl; have c0_1 := X0.out.cell 1 rfl; have c0_2 := X0.out.cell 2 rfl
  have c1_0 := X1.out.cell 0 rfl; have c1_1 := X1.out.cell 1 rfl; have c1_2 := X1.out.cell 2 rfl
  go_wp2
  go_ret
  exact ⟨rfl, B.out⟩
set_option maxRecDepth 100000 in
set_option maxHeartbeats 2000000 in
theorem eqDisk_new (w : World) : Calls Try.prog 13 #[.agg #[.string ⟨#[]⟩, .string ⟨#[]⟩, .slice none 0 0], .agg #[.string ⟨#[]⟩, .string ⟨#[]⟩, .slice none 0 0]] w fun e w' => e = .returned (.bool true) ∧ Below w.heap.size w w' := by
  have X0 := Blk.new w [.string ⟨#[]⟩, .string ⟨#[]⟩, .slice none 0 0] 24
  replace X0 := X0.alloc (.cells #[.string ⟨#[]⟩, .string ⟨#[]⟩, .slice none 0 0] 24)
  have X1 := Blk.new ((w).alloc (.cells #[.string ⟨#[]⟩, .string ⟨#[]⟩, .slice none 0 0] 24)) [.string ⟨#[]⟩, .string ⟨#[]⟩, .slice none 0 0] 24
  rw [show ((w).alloc (.cells #[.string ⟨#[]⟩, .string ⟨#[]⟩, .slice none 0 0] 24)).heap.size = w.heap.size + 1 by simp] at X1
  have B : Below w.heap.size w (((w).alloc (.cells #[.string ⟨#[]⟩, .string ⟨#[]⟩, .slice none 0 0] 24)).alloc (.cells #[.string ⟨#[]⟩, .string ⟨#[]⟩, .slice none 0 0] 24)) := (((Below.refl w.heap.size w).alloc (by simp) (.cells #[.string ⟨#[]⟩, .string ⟨#[]⟩, .slice none 0 0] 24)).alloc (by simp) (.cells #[.string ⟨#[]⟩, .string ⟨#[]⟩, .slice none 0 0] 24))
  replace X0 := Lib.hid X0
  replace X1 := Lib.hid X1
  replace B := Lib.hid B
  go_enter Try.func13, Try.ntmps13
  go_wp2_with fail
  generalize ((w).alloc (.cells #[.string ⟨#[]⟩, .string ⟨#[]⟩, .slice none 0 0] 24)).alloc (.cells #[.string ⟨#[]⟩, .string ⟨#[]⟩, .slice none 0 0] 24) = w0 at B X0 X1 ⊢
  refine (eqFileTextS_nil w0).mono ?_
  rintro e w1 ⟨rfl, b⟩
  replace B := Lib.hid (B.out.trans (b.mono B.out.size))
  replace X0 := Lib.hid (X0.out.below b X0.out.lt)
  replace X1 := Lib.hid (X1.out.below b X1.out.lt)
  clear b
  have c0_0 := X0.out.cell 0 rfl; have c0_1 := X0.out.cell 1 rfl; have c0_2 := X0.out.cell 2 rfl
  have c1_0 := X1.out.cell 0 rfl; have c1_1 := X1.out.cell 1 rfl; have c1_2 := X1.out.cell 2 rfl
  go_wp2
  go_ret
  exact ⟨rfl, B.out⟩
set_option maxRecDepth 100000 in
set_option maxHeartbeats 2000000 in
theorem eqStore_new (w : World) : Calls Try.prog 14 #[.agg #[.int .i64 0, .int .i64 0, .slice none 0 0, .int .i64 (-1), .int .i64 0, .slice none 0 0, .slice none 0 0], .agg #[.int .i64 0, .int .i64 0, .slice none 0 0, .int .i64 (-1), .int .i64 0, .slice none 0 0, .slice none 0 0]] w fun e w' => e = .returned (.bool true) ∧ Below w.heap.size w w' := by
  have X0 := Blk.new w [.int .i64 0, .int .i64 0, .slice none 0 0, .int .i64 (-1), .int .i64 0, .slice none 0 0, .slice none 0 0] 31
  replace X0 := X0.alloc (.cells #[.int .i64 0, .int .i64 0, .slice none 0 0, .int .i64 (-1), .int .i64 0, .slice none 0 0, .slice none 0 0] 31)
  have X1 := Blk.new ((w).alloc (.cells #[.int .i64 0, .int .i64 0, .slice none 0 0, .int .i64 (-1), .int .i64 0, .slice none 0 0, .slice none 0 0] 31)) [.int .i64 0, .int .i64 0, .slice none 0 0, .int .i64 (-1), .int .i64 0, .slice none 0 0, .slice none 0 0] 31
  rw [show ((w).alloc (.cells #[.int .i64 0, .int .i64 0, .slice none 0 0, .int .i64 (-1), .int .i64 0, .slice none 0 0, .slice none 0 0] 31)).heap.size = w.heap.size + 1 by simp] at X1
  have B : Below w.heap.size w (((w).alloc (.cells #[.int .i64 0, .int .i64 0, .slice none 0 0, .int .i64 (-1), .int .i64 0, .slice none 0 0, .slice none 0 0] 31)).alloc (.cells #[.int .i64 0, .int .i64 0, .slice none 0 0, .int .i64 (-1), .int .i64 0, .slice none 0 0, .slice none 0 0] 31)) := (((Below.refl w.heap.size w).alloc (by simp) (.cells #[.int .i64 0, .int .i64 0, .slice none 0 0, .int .i64 (-1), .int .i64 0, .slice none 0 0, .slice none 0 0] 31)).alloc (by simp) (.cells #[.int .i64 0, .int .i64 0, .slice none 0 0, .int .i64 (-1), .int .i64 0, .slice none 0 0, .slice none 0 0] 31))
  replace X0 := Lib.hid X0
  replace X1 := Lib.hid X1
  replace B := Lib.hid B
  go_enter Try.func14, Try.ntmps14
  go_wp2_with fail
  generalize ((w).alloc (.cells #[.int .i64 0, .int .i64 0, .slice none 0 0, .int .i64 (-1), .int .i64 0, .slice none 0 0, .slice none 0 0] 31)).alloc (.cells #[.int .i64 0, .int .i64 0, .slice none 0 0, .int .i64 (-1), .int .i64 0, .slice none 0 0, .slice none 0 0] 31) = w0 at B X0 X1 ⊢
  refine (eqTable_new w0).mono ?_
  rintro e w1 ⟨rfl, b⟩
  replace B := Lib.hid (B.out.trans (b.mono B.out.size))
  replace X0 := Lib.hid (X0.out.below b X0.out.lt)
  replace X1 := Lib.hid (X1.out.below b X1.out.lt)
  clear b
  have c0_0 := X0.out.cell 0 rfl; have c0_1 := X0.out.cell 1 rfl; have c0_2 := X0.out.cell 2 rfl; have c0_3 := X0.out.cell 3 rfl; have c0_4 := X0.out.cell 4 rfl; have c0_5 := X0.out.cell 5 rfl; have c0_6 := X0.out.cell 6 rfl
  have c1_0 := X1.out.cell 0 rfl; have c1_1 := X1.out.cell 1 rfl; have c1_2 := X1.out.cell 2 rfl; have c1_3 := X1.out.cell 3 rfl; have c1_4 := X1.out.cell 4 rfl; have c1_5 := X1.out.cell 5 rfl; have c1_6 := X1.out.cell 6 rfl
  go_wp2_with fail
  clear c0_0 c0_1 c0_2 c0_3 c0_4 c0_5 c0_6
  clear c1_0 c1_1 c1_2 c1_3 c1_4 c1_5 c1_6
  refine (eqHeldS_nil w1).mono ?_
  rintro e w2 ⟨rfl, b⟩
  replace B := Lib.hid (B.out.trans (b.mono B.out.size))
  replace X0 := Lib.hid (X0.out.below b X0.out.lt)
  replace X1 := Lib.hid (X1.out.below b X1.out.lt)
  clear b
  have c0_0 := X0.out.cell 0 rfl; have c0_1 := X0.out.cell 1 rfl; have c0_2 := X0.out.cell 2 rfl; have c0_3 := X0.out.cell 3 rfl; have c0_4 := X0.out.cell 4 rfl; have c0_5 := X0.out.cell 5 rfl; have c0_6 := X0.out.cell 6 rfl
  have c1_0 := X1.out.cell 0 rfl; have c1_1 := X1.out.cell 1 rfl; have c1_2 := X1.out.cell 2 rfl; have c1_3 := X1.out.cell 3 rfl; have c1_4 := X1.out.cell 4 rfl; have c1_5 := X1.out.cell 5 rfl; have c1_6 := X1.out.cell 6 rfl
  go_wp2_with fail
  clear c0_0 c0_1 c0_2 c0_3 c0_4 c0_5 c0_6
  clear c1_0 c1_1 c1_2 c1_3 c1_4 c1_5 c1_6
  refine (eqTombS_nil w2).mono ?_
  rintro e w3 ⟨rfl, b⟩
  replace B := Lib.hid (B.out.trans (b.mono B.out.size))
  replace X0 := Lib.hid (X0.out.below b X0.out.lt)
  replace X1 := Lib.hid (X1.out.below b X1.out.lt)
  clear b
  have c0_0 := X0.out.cell 0 rfl; have c0_1 := X0.out.cell 1 rfl; have c0_2 := X0.out.cell 2 rfl; have c0_3 := X0.out.cell 3 rfl; have c0_4 := X0.out.cell 4 rfl; have c0_5 := X0.out.cell 5 rfl; have c0_6 := X0.out.cell 6 rfl
  have c1_0 := X1.out.cell 0 rfl; have c1_1 := X1.out.cell 1 rfl; have c1_2 := X1.out.cell 2 rfl; have c1_3 := X1.out.cell 3 rfl; have c1_4 := X1.out.cell 4 rfl; have c1_5 := X1.out.cell 5 rfl; have c1_6 := X1.out.cell 6 rfl
  go_wp2
  go_ret
  exact ⟨rfl, B.out⟩
set_option maxRecDepth 100000 in
set_option maxHeartbeats 2000000 in
theorem eqWorld_new (w : World) : Calls Try.prog 6 #[.agg #[.string ⟨#[]⟩, .string ⟨#[]⟩, .slice none 0 0, .bool true, .int .i64 0, .int .i64 0, .slice none 0 0, .int .i64 (-1), .int .i64 0, .slice none 0 0, .slice none 0 0, .slice none 0 0, .int .i64 (-1), .int .i64 0], .agg #[.string ⟨#[]⟩, .string ⟨#[]⟩, .slice none 0 0, .bool true, .int .i64 0, .int .i64 0, .slice none 0 0, .int .i64 (-1), .int .i64 0, .slice none 0 0, .slice none 0 0, .slice none 0 0, .int .i64 (-1), .int .i64 0]] w fun e w' => e = .returned (.bool true) ∧ Below w.heap.size w w' := by
  have X0 := Blk.new w [.string ⟨#[]⟩, .string ⟨#[]⟩, .slice none 0 0, .bool true, .int .i64 0, .int .i64 0, .slice none 0 0, .int .i64 (-1), .int .i64 0, .slice none 0 0, .slice none 0 0, .slice none 0 0, .int .i64 (-1), .int .i64 0] 33
  replace X0 := X0.alloc (.cells #[.string ⟨#[]⟩, .string ⟨#[]⟩, .slice none 0 0, .bool true, .int .i64 0, .int .i64 0, .slice none 0 0, .int .i64 (-1), .int .i64 0, .slice none 0 0, .slice none 0 0, .slice none 0 0, .int .i64 (-1), .int .i64 0] 33)
  have X1 := Blk.new ((w).alloc (.cells #[.string ⟨#[]⟩, .string ⟨#[]⟩, .slice none 0 0, .bool true, .int .i64 0, .int .i64 0, .slice none 0 0, .int .i64 (-1), .int .i64 0, .slice none 0 0, .slice none 0 0, .slice none 0 0, .int .i64 (-1), .int .i64 0] 33)) [.string ⟨#[]⟩, .string ⟨#[]⟩, .slice none 0 0, .bool true, .int .i64 0, .int .i64 0, .slice none 0 0, .int .i64 (-1), .int .i64 0, .slice none 0 0, .slice none 0 0, .slice none 0 0, .int .i64 (-1), .int .i64 0] 33
  rw [show ((w).alloc (.cells #[.string ⟨#[]⟩, .string ⟨#[]⟩, .slice none 0 0, .bool true, .int .i64 0, .int .i64 0, .slice none 0 0, .int .i64 (-1), .int .i64 0, .slice none 0 0, .slice none 0 0, .slice none 0 0, .int .i64 (-1), .int .i64 0] 33)).heap.size = w.heap.size + 1 by simp] at X1
  have B : Below w.heap.size w (((w).alloc (.cells #[.string ⟨#[]⟩, .string ⟨#[]⟩, .slice none 0 0, .bool true, .int .i64 0, .int .i64 0, .slice none 0 0, .int .i64 (-1), .int .i64 0, .slice none 0 0, .slice none 0 0, .slice none 0 0, .int .i64 (-1), .int .i64 0] 33)).alloc (.cells #[.string ⟨#[]⟩, .string ⟨#[]⟩, .slice none 0 0, .bool true, .int .i64 0, .int .i64 0, .slice none 0 0, .int .i64 (-1), .int .i64 0, .slice none 0 0, .slice none 0 0, .slice none 0 0, .int .i64 (-1), .int .i64 0] 33)) := (((Below.refl w.heap.size w).alloc (by simp) (.cells #[.string ⟨#[]⟩, .string ⟨#[]⟩, .slice none 0 0, .bool true, .int .i64 0, .int .i64 0, .slice none 0 0, .int .i64 (-1), .int .i64 0, .slice none 0 0, .slice none 0 0, .slice none 0 0, .int .i64 (-1), .int .i64 0] 33)).alloc (by simp) (.cells #[.string ⟨#[]⟩, .string ⟨#[]⟩, .slice none 0 0, .bool true, .int .i64 0, .int .i64 0, .slice none 0 0, .int .i64 (-1), .int .i64 0, .slice none 0 0, .slice none 0 0, .slice none 0 0, .int .i64 (-1), .int .i64 0] 33))
  replace X0 := Lib.hid X0
  replace X1 := Lib.hid X1
  replace B := Lib.hid B
  go_enter Try.func6, Try.ntmps6
  go_wp2_with fail
  generalize ((w).alloc (.cells #[.string ⟨#[]⟩, .string ⟨#[]⟩, .slice none 0 0, .bool true, .int .i64 0, .int .i64 0, .slice none 0 0, .int .i64 (-1), .int .i64 0, .slice none 0 0, .slice none 0 0, .slice none 0 0, .int .i64 (-1), .int .i64 0] 33)).alloc (.cells #[.string ⟨#[]⟩, .string ⟨#[]⟩, .slice none 0 0, .bool true, .int .i64 0, .int .i64 0, .slice none 0 0, .int .i64 (-1), .int .i64 0, .slice none 0 0, .slice none 0 0, .slice none 0 0, .int .i64 (-1), .int .i64 0] 33) = w0 at B X0 X1 ⊢
  refine (eqDisk_new w0).mono ?_
  rintro e w1 ⟨rfl, b⟩
  replace B := Lib.hid (B.out.trans (b.mono B.out.size))
  replace X0 := Lib.hid (X0.out.below b X0.out.lt)
  replace X1 := Lib.hid (X1.out.below b X1.out.lt)
  clear b
  have c0_0 := X0.out.cell 0 rfl; have c0_1 := X0.out.cell 1 rfl; have c0_2 := X0.out.cell 2 rfl; have c0_3 := X0.out.cell 3 rfl; have c0_4 := X0.out.cell 4 rfl; have c0_5 := X0.out.cell 5 rfl; have c0_6 := X0.out.cell 6 rfl; have c0_7 := X0.out.cell 7 rfl; have c0_8 := X0.out.cell 8 rfl; have c0_9 := X0.out.cell 9 rfl; have c0_10 := X0.out.cell 10 rfl; have c0_11 := X0.out.cell 11 rfl; have c0_12 := X0.out.cell 12 rfl; have c0_13 := X0.out.cell 13 rfl
  have c1_0 := X1.out.cell 0 rfl; have c1_1 := X1.out.cell 1 rfl; have c1_2 := X1.out.cell 2 rfl; have c1_3 := X1.out.cell 3 rfl; have c1_4 := X1.out.cell 4 rfl; have c1_5 := X1.out.cell 5 rfl; have c1_6 := X1.out.cell 6 rfl; have c1_7 := X1.out.cell 7 rfl; have c1_8 := X1.out.cell 8 rfl; have c1_9 := X1.out.cell 9 rfl; have c1_10 := X1.out.cell 10 rfl; have c1_11 := X1.out.cell 11 rfl; have c1_12 := X1.out.cell 12 rfl; have c1_13 := X1.out.cell 13 rfl
  go_wp2_with fail
  clear c0_0 c0_1 c0_2 c0_3 c0_4 c0_5 c0_6 c0_7 c0_8 c0_9 c0_10 c0_11 c0_12 c0_13
  clear c1_0 c1_1 c1_2 c1_3 c1_4 c1_5 c1_6 c1_7 c1_8 c1_9 c1_10 c1_11 c1_12 c1_13
  refine (eqStore_new w1).mono ?_
  rintro e w2 ⟨rfl, b⟩
  replace B := Lib.hid (B.out.trans (b.mono B.out.size))
  replace X0 := Lib.hid (X0.out.below b X0.out.lt)
  replace X1 := Lib.hid (X1.out.below b X1.out.lt)
  clear b
  have c0_0 := X0.out.cell 0 rfl; have c0_1 := X0.out.cell 1 rfl; have c0_2 := X0.out.cell 2 rfl; have c0_3 := X0.out.cell 3 rfl; have c0_4 := X0.out.cell 4 rfl; have c0_5 := X0.out.cell 5 rfl; have c0_6 := X0.out.cell 6 rfl; have c0_7 := X0.out.cell 7 rfl; have c0_8 := X0.out.cell 8 rfl; have c0_9 := X0.out.cell 9 rfl; have c0_10 := X0.out.cell 10 rfl; have c0_11 := X0.out.cell 11 rfl; have c0_12 := X0.out.cell 12 rfl; have c0_13 := X0.out.cell 13 rfl
  have c1_0 := X1.out.cell 0 rfl; have c1_1 := X1.out.cell 1 rfl; have c1_2 := X1.out.cell 2 rfl; have c1_3 := X1.out.cell 3 rfl; have c1_4 := X1.out.cell 4 rfl; have c1_5 := X1.out.cell 5 rfl; have c1_6 := X1.out.cell 6 rfl; have c1_7 := X1.out.cell 7 rfl; have c1_8 := X1.out.cell 8 rfl; have c1_9 := X1.out.cell 9 rfl; have c1_10 := X1.out.cell 10 rfl; have c1_11 := X1.out.cell 11 rfl; have c1_12 := X1.out.cell 12 rfl; have c1_13 := X1.out.cell 13 rfl
  go_wp2_with fail
  clear c0_0 c0_1 c0_2 c0_3 c0_4 c0_5 c0_6 c0_7 c0_8 c0_9 c0_10 c0_11 c0_12 c0_13
  clear c1_0 c1_1 c1_2 c1_3 c1_4 c1_5 c1_6 c1_7 c1_8 c1_9 c1_10 c1_11 c1_12 c1_13
  refine (eqTable_new w2).mono ?_
  rintro e w3 ⟨rfl, b⟩
  replace B := Lib.hid (B.out.trans (b.mono B.out.size))
  replace X0 := Lib.hid (X0.out.below b X0.out.lt)
  replace X1 := Lib.hid (X1.out.below b X1.out.lt)
  clear b
  have c0_0 := X0.out.cell 0 rfl; have c0_1 := X0.out.cell 1 rfl; have c0_2 := X0.out.cell 2 rfl; have c0_3 := X0.out.cell 3 rfl; have c0_4 := X0.out.cell 4 rfl; have c0_5 := X0.out.cell 5 rfl; have c0_6 := X0.out.cell 6 rfl; have c0_7 := X0.out.cell 7 rfl; have c0_8 := X0.out.cell 8 rfl; have c0_9 := X0.out.cell 9 rfl; have c0_10 := X0.out.cell 10 rfl; have c0_11 := X0.out.cell 11 rfl; have c0_12 := X0.out.cell 12 rfl; have c0_13 := X0.out.cell 13 rfl
  have c1_0 := X1.out.cell 0 rfl; have c1_1 := X1.out.cell 1 rfl; have c1_2 := X1.out.cell 2 rfl; have c1_3 := X1.out.cell 3 rfl; have c1_4 := X1.out.cell 4 rfl; have c1_5 := X1.out.cell 5 rfl; have c1_6 := X1.out.cell 6 rfl; have c1_7 := X1.out.cell 7 rfl; have c1_8 := X1.out.cell 8 rfl; have c1_9 := X1.out.cell 9 rfl; have c1_10 := X1.out.cell 10 rfl; have c1_11 := X1.out.cell 11 rfl; have c1_12 := X1.out.cell 12 rfl; have c1_13 := X1.out.cell 13 rfl
  go_wp2
  go_ret
  exact ⟨rfl, B.out⟩
set_option maxRecDepth 100000 in
set_option maxHeartbeats 2000000 in
theorem markTable_new (k : Int) (w : World) (hk : 0 ≤ k) : Calls Try.prog 18 #[.agg #[.slice none 0 0, .int .i64 (-1), .int .i64 0], .int .i64 k] w fun e w' => e = .returned (.int .i64 k) ∧ Below w.heap.size w w' := by
  have X0 := Blk.new w [.slice none 0 0, .int .i64 (-1), .int .i64 0] 27
  have B : Below w.heap.size w ((w).alloc (.cells #[.slice none 0 0, .int .i64 (-1), .int .i64 0] 27)) := ((Below.refl w.heap.size w).alloc (by simp) (.cells #[.slice none 0 0, .int .i64 (-1), .int .i64 0] 27))
  replace X0 := Lib.hid X0
  replace B := Lib.hid B
  go_enter Try.func18, Try.ntmps18
  go_wp2_with fail
  generalize (w).alloc (.cells #[.slice none 0 0, .int .i64 (-1), .int .i64 0] 27) = w0 at B X0 ⊢
  refine (markRowS_nil k w0).mono ?_
  rintro e w1 ⟨rfl, b⟩
  replace B := Lib.hid (B.out.trans (b.mono B.out.size))
  replace X0 := Lib.hid (X0.out.below b X0.out.lt)
  clear b
  have c0_0 := X0.out.cell 0 rfl; have c0_1 := X0.out.cell 1 rfl; have c0_2 := X0.out.cell 2 rfl
  go_wp2
  go_ret
  exact ⟨rfl, B.out⟩
set_option maxRecDepth 100000 in
set_option maxHeartbeats 2000000 in
theorem markDisk_new (k : Int) (w : World) (hk : 0 ≤ k) : Calls Try.prog 16 #[.agg #[.string ⟨#[]⟩, .string ⟨#[]⟩, .slice none 0 0], .int .i64 k] w fun e w' => e = .returned (.int .i64 k) ∧ Below w.heap.size w w' := by
  have X0 := Blk.new w [.string ⟨#[]⟩, .string ⟨#[]⟩, .slice none 0 0] 24
  have B : Below w.heap.size w ((w).alloc (.cells #[.string ⟨#[]⟩, .string ⟨#[]⟩, .slice none 0 0] 24)) := ((Below.refl w.heap.size w).alloc (by simp) (.cells #[.string ⟨#[]⟩, .string ⟨#[]⟩, .slice none 0 0] 24))
  replace X0 := Lib.hid X0
  replace B := Lib.hid B
  go_enter Try.func16, Try.ntmps16
  go_wp2_with fail
  generalize (w).alloc (.cells #[.string ⟨#[]⟩, .string ⟨#[]⟩, .slice none 0 0] 24) = w0 at B X0 ⊢
  refine (markFileTextS_nil k w0).mono ?_
  rintro e w1 ⟨rfl, b⟩
  replace B := Lib.hid (B.out.trans (b.mono B.out.size))
  replace X0 := Lib.hid (X0.out.below b X0.out.lt)
  clear b
  have c0_0 := X0.out.cell 0 rfl; have c0_1 := X0.out.cell 1 rfl; have c0_2 := X0.out.cell 2 rfl
  go_wp2
  go_ret
  exact ⟨rfl, B.out⟩
set_option maxRecDepth 100000 in
set_option maxHeartbeats 2000000 in
theorem markStore_new (k : Int) (w : World) (hk : 0 ≤ k) : Calls Try.prog 17 #[.agg #[.int .i64 0, .int .i64 0, .slice none 0 0, .int .i64 (-1), .int .i64 0, .slice none 0 0, .slice none 0 0], .int .i64 k] w fun e w' => e = .returned (.int .i64 k) ∧ Below w.heap.size w w' := by
  have X0 := Blk.new w [.int .i64 0, .int .i64 0, .slice none 0 0, .int .i64 (-1), .int .i64 0, .slice none 0 0, .slice none 0 0] 31
  have B : Below w.heap.size w ((w).alloc (.cells #[.int .i64 0, .int .i64 0, .slice none 0 0, .int .i64 (-1), .int .i64 0, .slice none 0 0, .slice none 0 0] 31)) := ((Below.refl w.heap.size w).alloc (by simp) (.cells #[.int .i64 0, .int .i64 0, .slice none 0 0, .int .i64 (-1), .int .i64 0, .slice none 0 0, .slice none 0 0] 31))
  replace X0 := Lib.hid X0
  replace B := Lib.hid B
  go_enter Try.func17, Try.ntmps17
  go_wp2_with fail
  generalize (w).alloc (.cells #[.int .i64 0, .int .i64 0, .slice none 0 0, .int .i64 (-1), .int .i64 0, .slice none 0 0, .slice none 0 0] 31) = w0 at B X0 ⊢
  refine (markTable_new k w0 hk).mono ?_
  rintro e w1 ⟨rfl, b⟩
  replace B := Lib.hid (B.out.trans (b.mono B.out.size))
  replace X0 := Lib.hid (X0.out.below b X0.out.lt)
  clear b
  have c0_0 := X0.out.cell 0 rfl; have c0_1 := X0.out.cell 1 rfl; have c0_2 := X0.out.cell 2 rfl; have c0_3 := X0.out.cell 3 rfl; have c0_4 := X0.out.cell 4 rfl; have c0_5 := X0.out.cell 5 rfl; have c0_6 := X0.out.cell 6 rfl
  go_wp2_with fail
  clear c0_0 c0_1 c0_2 c0_3 c0_4 c0_5 c0_6
  refine (markHeldS_nil k w1).mono ?_
  rintro e w2 ⟨rfl, b⟩
  replace B := Lib.hid (B.out.trans (b.mono B.out.size))
  replace X0 := Lib.hid (X0.out.below b X0.out.lt)
  clear b
  have c0_0 := X0.out.cell 0 rfl; have c0_1 := X0.out.cell 1 rfl; have c0_2 := X0.out.cell 2 rfl; have c0_3 := X0.out.cell 3 rfl; have c0_4 := X0.out.cell 4 rfl; have c0_5 := X0.out.cell 5 rfl; have c0_6 := X0.out.cell 6 rfl
  go_wp2_with fail
  clear c0_0 c0_1 c0_2 c0_3 c0_4 c0_5 c0_6
  refine (markTombS_nil k w2).mono ?_
  rintro e w3 ⟨rfl, b⟩
  replace B := Lib.hid (B.out.trans (b.mono B.out.size))
  replace X0 := Lib.hid (X0.out.below b X0.out.lt)
  clear b
  have c0_0 := X0.out.cell 0 rfl; have c0_1 := X0.out.cell 1 rfl; have c0_2 := X0.out.cell 2 rfl; have c0_3 := X0.out.cell 3 rfl; have c0_4 := X0.out.cell 4 rfl; have c0_5 := X0.out.cell 5 rfl; have c0_6 := X0.out.cell 6 rfl
  go_wp2
  go_ret
  exact ⟨rfl, B.out⟩
set_option maxRecDepth 100000 in
set_option maxHeartbeats 2000000 in
theorem markWorld_new (k : Int) (w : World) (hk : 0 ≤ k) : Calls Try.prog 7 #[.agg #[.string ⟨#[]⟩, .string ⟨#[]⟩, .slice none 0 0, .bool true, .int .i64 0, .int .i64 0, .slice none 0 0, .int .i64 (-1), .int .i64 0, .slice none 0 0, .slice none 0 0, .slice none 0 0, .int .i64 (-1), .int .i64 0], .int .i64 k] w fun e w' => e = .returned (.int .i64 k) ∧ Below w.heap.size w w' := by
  have X0 := Blk.new w [.string ⟨#[]⟩, .string ⟨#[]⟩, .slice none 0 0, .bool true, .int .i64 0, .int .i64 0, .slice none 0 0, .int .i64 (-1), .int .i64 0, .slice none 0 0, .slice none 0 0, .slice none 0 0, .int .i64 (-1), .int .i64 0] 33
  have B : Below w.heap.size w ((w).alloc (.cells #[.string ⟨#[]⟩, .string ⟨#[]⟩, .slice none 0 0, .bool true, .int .i64 0, .int .i64 0, .slice none 0 0, .int .i64 (-1), .int .i64 0, .slice none 0 0, .slice none 0 0, .slice none 0 0, .int .i64 (-1), .int .i64 0] 33)) := ((Below.refl w.heap.size w).alloc (by simp) (.cells #[.string ⟨#[]⟩, .string ⟨#[]⟩, .slice none 0 0, .bool true, .int .i64 0, .int .i64 0, .slice none 0 0, .int .i64 (-1), .int .i64 0, .slice none 0 0, .slice none 0 0, .slice none 0 0, .int .i64 (-1), .int .i64 0] 33))
  replace X0 := Lib.hid X0
  replace B := Lib.hid B
  go_enter Try.func7, Try.ntmps7
  go_wp2_with fail
  generalize (w).alloc (.cells #[.string ⟨#[]⟩, .string ⟨#[]⟩, .slice none 0 0, .bool true, .int .i64 0, .int .i64 0, .slice none 0 0, .int .i64 (-1), .int .i64 0, .slice none 0 0, .slice none 0 0, .slice none 0 0, .int .i64 (-1), .int .i64 0] 33) = w0 at B X0 ⊢
  refine (markDisk_new k w0 hk).mono ?_
  rintro e w1 ⟨rfl, b⟩
  replace B := Lib.hid (B.out.trans (b.mono B.out.size))
  replace X0 := Lib.hid (X0.out.below b X0.out.lt)
  clear b
  have c0_0 := X0.out.cell 0 rfl; have c0_1 := X0.out.cell 1 rfl; have c0_2 := X0.out.cell 2 rfl; have c0_3 := X0.out.cell 3 rfl; have c0_4 := X0.out.cell 4 rfl; have c0_5 := X0.out.cell 5 rfl; have c0_6 := X0.out.cell 6 rfl; have c0_7 := X0.out.cell 7 rfl; have c0_8 := X0.out.cell 8 rfl; have c0_9 := X0.out.cell 9 rfl; have c0_10 := X0.out.cell 10 rfl; have c0_11 := X0.out.cell 11 rfl; have c0_12 := X0.out.cell 12 rfl; have c0_13 := X0.out.cell 13 rfl
  go_wp2_with fail
  clear c0_0 c0_1 c0_2 c0_3 c0_4 c0_5 c0_6 c0_7 c0_8 c0_9 c0_10 c0_11 c0_12 c0_13
  refine (markStore_new k w1 hk).mono ?_
  rintro e w2 ⟨rfl, b⟩
  replace B := Lib.hid (B.out.trans (b.mono B.out.size))
  replace X0 := Lib.hid (X0.out.below b X0.out.lt)
  clear b
  have c0_0 := X0.out.cell 0 rfl; have c0_1 := X0.out.cell 1 rfl; have c0_2 := X0.out.cell 2 rfl; have c0_3 := X0.out.cell 3 rfl; have c0_4 := X0.out.cell 4 rfl; have c0_5 := X0.out.cell 5 rfl; have c0_6 := X0.out.cell 6 rfl; have c0_7 := X0.out.cell 7 rfl; have c0_8 := X0.out.cell 8 rfl; have c0_9 := X0.out.cell 9 rfl; have c0_10 := X0.out.cell 10 rfl; have c0_11 := X0.out.cell 11 rfl; have c0_12 := X0.out.cell 12 rfl; have c0_13 := X0.out.cell 13 rfl
  go_wp2_with fail
  clear c0_0 c0_1 c0_2 c0_3 c0_4 c0_5 c0_6 c0_7 c0_8 c0_9 c0_10 c0_11 c0_12 c0_13
  refine (markTable_new k w2 hk).mono ?_
  rintro e w3 ⟨rfl, b⟩
  replace B := Lib.hid (B.out.trans (b.mono B.out.size))
  replace X0 := Lib.hid (X0.out.below b X0.out.lt)
  clear b
  have c0_0 := X0.out.cell 0 rfl; have c0_1 := X0.out.cell 1 rfl; have c0_2 := X0.out.cell 2 rfl; have c0_3 := X0.out.cell 3 rfl; have c0_4 := X0.out.cell 4 rfl; have c0_5 := X0.out.cell 5 rfl; have c0_6 := X0.out.cell 6 rfl; have c0_7 := X0.out.cell 7 rfl; have c0_8 := X0.out.cell 8 rfl; have c0_9 := X0.out.cell 9 rfl; have c0_10 := X0.out.cell 10 rfl; have c0_11 := X0.out.cell 11 rfl; have c0_12 := X0.out.cell 12 rfl; have c0_13 := X0.out.cell 13 rfl
  go_wp2
  go_ret
  exact ⟨rfl, B.out⟩
set_option maxRecDepth 100000 in
set_option maxHeartbeats 2000000 in
theorem heldTable_new (k : Int) (w : World) (hk : 0 ≤ k) : Calls Try.prog 21 #[.agg #[.slice none 0 0, .int .i64 (-1), .int .i64 0], .int .i64 k] w fun e w' => e = .returned (.int .i64 k) ∧ Below w.heap.size w w' := by
  have X0 := Blk.new w [.slice none 0 0, .int .i64 (-1), .int .i64 0] 27
  have B : Below w.heap.size w ((w).alloc (.cells #[.slice none 0 0, .int .i64 (-1), .int .i64 0] 27)) := ((Below.refl w.heap.size w).alloc (by simp) (.cells #[.slice none 0 0, .int .i64 (-1), .int .i64 0] 27))
  replace X0 := Lib.hid X0
  replace B := Lib.hid B
  go_enter Try.func21, Try.ntmps21
  go_wp2_with fail
  generalize (w).alloc (.cells #[.slice none 0 0, .int .i64 (-1), .int .i64 0] 27) = w0 at B X0 ⊢
  refine (heldRowS_nil k w0).mono ?_
  rintro e w1 ⟨rfl, b⟩
  replace B := Lib.hid (B.out.trans (b.mono B.out.size))
  replace X0 := Lib.hid (X0.out.below b X0.out.lt)
  clear b
  have c0_0 := X0.out.cell 0 rfl; have c0_1 := X0.out.cell 1 rfl; have c0_2 := X0.out.cell 2 rfl
  go_wp2
  go_ret
  exact ⟨rfl, B.out⟩
set_option maxRecDepth 100000 in
set_option maxHeartbeats 2000000 in
theorem heldDisk_new (k : Int) (w : World) (hk : 0 ≤ k) : Calls Try.prog 19 #[.agg #[.string ⟨#[]⟩, .string ⟨#[]⟩, .slice none 0 0], .int .i64 k] w fun e w' => e = .returned (.int .i64 k) ∧ Below w.heap.size w w' := by
  have X0 := Blk.new w [.string ⟨#[]⟩, .string ⟨#[]⟩, .slice none 0 0] 24
  have B : Below w.heap.size w ((w).alloc (.cells #[.string ⟨#[]⟩, .string ⟨#[]⟩, .slice none 0 0] 24)) := ((Below.refl w.heap.size w).alloc (by simp) (.cells #[.string ⟨#[]⟩, .string ⟨#[]⟩, .slice none 0 0] 24))
  replace X0 := Lib.hid X0
  replace B := Lib.hid B
  go_enter Try.func19, Try.ntmps19
  go_wp2_with fail
  generalize (w).alloc (.cells #[.string ⟨#[]⟩, .string ⟨#[]⟩, .slice none 0 0] 24) = w0 at B X0 ⊢
  refine (heldFileTextS_nil k w0).mono ?_
  rintro e w1 ⟨rfl, b⟩
  replace B := Lib.hid (B.out.trans (b.mono B.out.size))
  replace X0 := Lib.hid (X0.out.below b X0.out.lt)
  clear b
  have c0_0 := X0.out.cell 0 rfl; have c0_1 := X0.out.cell 1 rfl; have c0_2 := X0.out.cell 2 rfl
  go_wp2
  go_ret
  exact ⟨rfl, B.out⟩
set_option maxRecDepth 100000 in
set_option maxHeartbeats 2000000 in
theorem heldStore_new (k : Int) (w : World) (hk : 0 ≤ k) : Calls Try.prog 20 #[.agg #[.int .i64 0, .int .i64 0, .slice none 0 0, .int .i64 (-1), .int .i64 0, .slice none 0 0, .slice none 0 0], .int .i64 k] w fun e w' => e = .returned (.int .i64 k) ∧ Below w.heap.size w w' := by
  have X0 := Blk.new w [.int .i64 0, .int .i64 0, .slice none 0 0, .int .i64 (-1), .int .i64 0, .slice none 0 0, .slice none 0 0] 31
  have B : Below w.heap.size w ((w).alloc (.cells #[.int .i64 0, .int .i64 0, .slice none 0 0, .int .i64 (-1), .int .i64 0, .slice none 0 0, .slice none 0 0] 31)) := ((Below.refl w.heap.size w).alloc (by simp) (.cells #[.int .i64 0, .int .i64 0, .slice none 0 0, .int .i64 (-1), .int .i64 0, .slice none 0 0, .slice none 0 0] 31))
  replace X0 := Lib.hid X0
  replace B := Lib.hid B
  go_enter Try.func20, Try.ntmps20
  go_wp2_with fail
  generalize (w).alloc (.cells #[.int .i64 0, .int .i64 0, .slice none 0 0, .int .i64 (-1), .int .i64 0, .slice none 0 0, .slice none 0 0] 31) = w0 at B X0 ⊢
  refine (heldTable_new k w0 hk).mono ?_
  rintro e w1 ⟨rfl, b⟩
  replace B := Lib.hid (B.out.trans (b.mono B.out.size))
  replace X0 := Lib.hid (X0.out.below b X0.out.lt)
  clear b
  have c0_0 := X0.out.cell 0 rfl; have c0_1 := X0.out.cell 1 rfl; have c0_2 := X0.out.cell 2 rfl; have c0_3 := X0.out.cell 3 rfl; have c0_4 := X0.out.cell 4 rfl; have c0_5 := X0.out.cell 5 rfl; have c0_6 := X0.out.cell 6 rfl
  go_wp2_with fail
  clear c0_0 c0_1 c0_2 c0_3 c0_4 c0_5 c0_6
  refine (heldHeldS_nil k w1).mono ?_
  rintro e w2 ⟨rfl, b⟩
  replace B := Lib.hid (B.out.trans (b.mono B.out.size))
  replace X0 := Lib.hid (X0.out.below b X0.out.lt)
  clear b
  have c0_0 := X0.out.cell 0 rfl; have c0_1 := X0.out.cell 1 rfl; have c0_2 := X0.out.cell 2 rfl; have c0_3 := X0.out.cell 3 rfl; have c0_4 := X0.out.cell 4 rfl; have c0_5 := X0.out.cell 5 rfl; have c0_6 := X0.out.cell 6 rfl
  go_wp2_with fail
  clear c0_0 c0_1 c0_2 c0_3 c0_4 c0_5 c0_6
  refine (heldTombS_nil k w2).mono ?_
  rintro e w3 ⟨rfl, b⟩
  replace B := Lib.hid (B.out.trans (b.mono B.out.size))
  replace X0 := Lib.hid (X0.out.below b X0.out.lt)
  clear b
  have c0_0 := X0.out.cell 0 rfl; have c0_1 := X0.out.cell 1 rfl; have c0_2 := X0.out.cell 2 rfl; have c0_3 := X0.out.cell 3 rfl; have c0_4 := X0.out.cell 4 rfl; have c0_5 := X0.out.cell 5 rfl; have c0_6 := X0.out.cell 6 rfl
  go_wp2
  go_ret
  exact ⟨rfl, B.out⟩
set_option maxRecDepth 100000 in
set_option maxHeartbeats 2000000 in
theorem heldWorld_new (k : Int) (w : World) (hk : 0 ≤ k) : Calls Try.prog 8 #[.agg #[.string ⟨#[]⟩, .string ⟨#[]⟩, .slice none 0 0, .bool true, .int .i64 0, .int .i64 0, .slice none 0 0, .int .i64 (-1), .int .i64 0, .slice none 0 0, .slice none 0 0, .slice none 0 0, .int .i64 (-1), .int .i64 0], .int .i64 k] w fun e w' => e = .returned (.int .i64 k) ∧ Below w.heap.size w w' := by
  have X0 := Blk.new w [.string ⟨#[]⟩, .string ⟨#[]⟩, .slice none 0 0, .bool true, .int .i64 0, .int .i64 0, .slice none 0 0, .int .i64 (-1), .int .i64 0, .slice none 0 0, .slice none 0 0, .slice none 0 0, .int .i64 (-1), .int .i64 0] 33
  have B : Below w.heap.size w ((w).alloc (.cells #[.string ⟨#[]⟩, .string ⟨#[]⟩, .slice none 0 0, .bool true, .int .i64 0, .int .i64 0, .slice none 0 0, .int .i64 (-1), .int .i64 0, .slice none 0 0, .slice none 0 0, .slice none 0 0, .int .i64 (-1), .int .i64 0] 33)) := ((Below.refl w.heap.size w).alloc (by simp) (.cells #[.string ⟨#[]⟩, .string ⟨#[]⟩, .slice none 0 0, .bool true, .int .i64 0, .int .i64 0, .slice none 0 0, .int .i64 (-1), .int .i64 0, .slice none 0 0, .slice none 0 0, .slice none 0 0, .int .i64 (-1), .int .i64 0] 33))
  replace X0 := Lib.hid X0
  replace B := Lib.hid B
  go_enter Try.func8, Try.ntmps8
  go_wp2_with fail
  generalize (w).alloc (.cells #[.string ⟨#[]⟩, .string ⟨#[]⟩, .slice none 0 0, .bool true, .int .i64 0, .int .i64 0, .slice none 0 0, .int .i64 (-1), .int .i64 0, .slice none 0 0, .slice none 0 0, .slice none 0 0, .int .i64 (-1), .int .i64 0] 33) = w0 at B X0 ⊢
  refine (heldDisk_new k w0 hk).mono ?_
  rintro e w1 ⟨rfl, b⟩
  replace B := Lib.hid (B.out.trans (b.mono B.out.size))
  replace X0 := Lib.hid (X0.out.below b X0.out.lt)
  clear b
  have c0_0 := X0.out.cell 0 rfl; have c0_1 := X0.out.cell 1 rfl; have c0_2 := X0.out.cell 2 rfl; have c0_3 := X0.out.cell 3 rfl; have c0_4 := X0.out.cell 4 rfl; have c0_5 := X0.out.cell 5 rfl; have c0_6 := X0.out.cell 6 rfl; have c0_7 := X0.out.cell 7 rfl; have c0_8 := X0.out.cell 8 rfl; have c0_9 := X0.out.cell 9 rfl; have c0_10 := X0.out.cell 10 rfl; have c0_11 := X0.out.cell 11 rfl; have c0_12 := X0.out.cell 12 rfl; have c0_13 := X0.out.cell 13 rfl
  go_wp2_with fail
  clear c0_0 c0_1 c0_2 c0_3 c0_4 c0_5 c0_6 c0_7 c0_8 c0_9 c0_10 c0_11 c0_12 c0_13
  refine (heldStore_new k w1 hk).mono ?_
  rintro e w2 ⟨rfl, b⟩
  replace B := Lib.hid (B.out.trans (b.mono B.out.size))
  replace X0 := Lib.hid (X0.out.below b X0.out.lt)
  clear b
  have c0_0 := X0.out.cell 0 rfl; have c0_1 := X0.out.cell 1 rfl; have c0_2 := X0.out.cell 2 rfl; have c0_3 := X0.out.cell 3 rfl; have c0_4 := X0.out.cell 4 rfl; have c0_5 := X0.out.cell 5 rfl; have c0_6 := X0.out.cell 6 rfl; have c0_7 := X0.out.cell 7 rfl; have c0_8 := X0.out.cell 8 rfl; have c0_9 := X0.out.cell 9 rfl; have c0_10 := X0.out.cell 10 rfl; have c0_11 := X0.out.cell 11 rfl; have c0_12 := X0.out.cell 12 rfl; have c0_13 := X0.out.cell 13 rfl
  go_wp2_with fail
  clear c0_0 c0_1 c0_2 c0_3 c0_4 c0_5 c0_6 c0_7 c0_8 c0_9 c0_10 c0_11 c0_12 c0_13
  refine (heldTable_new k w2 hk).mono ?_
  rintro e w3 ⟨rfl, b⟩
  replace B := Lib.hid (B.out.trans (b.mono B.out.size))
  replace X0 := Lib.hid (X0.out.below b X0.out.lt)
  clear b
  have c0_0 := X0.out.cell 0 rfl; have c0_1 := X0.out.cell 1 rfl; have c0_2 := X0.out.cell 2 rfl; have c0_3 := X0.out.cell 3 rfl; have c0_4 := X0.out.cell 4 rfl; have c0_5 := X0.out.cell 5 rfl; have c0_6 := X0.out.cell 6 rfl; have c0_7 := X0.out.cell 7 rfl; have c0_8 := X0.out.cell 8 rfl; have c0_9 := X0.out.cell 9 rfl; have c0_10 := X0.out.cell 10 rfl; have c0_11 := X0.out.cell 11 rfl; have c0_12 := X0.out.cell 12 rfl; have c0_13 := X0.out.cell 13 rfl
  go_wp2
  go_ret
  exact ⟨rfl, B.out⟩
set_option maxRecDepth 100000 in
set_option maxHeartbeats 4000000 in
theorem fnExactWorldNew_calls (w0 : World) : Calls Try.prog 3 #[] w0 fun e w' => e = .returned (.bool true) ∧ Below w0.heap.size w0 w' := by
  have B := Lib.hid (Below.refl w0.heap.size w0)
  go_enter Try.func3, Try.ntmps3
  go_wp2_with fail
  refine (specWorldNew_calls w0).mono ?_
  rintro e w1 ⟨rfl, b⟩
  replace B := Lib.hid (B.out.trans (b.mono B.out.size))
  clear b
  go_wp2_with fail
  have bx := Blk.new w1 [.string ⟨#[]⟩, .string ⟨#[]⟩, .slice none 0 0, .bool true, .int .i64 0, .int .i64 0, .slice none 0 0, .int .i64 (-1), .int .i64 0, .slice none 0 0, .slice none 0 0, .slice none 0 0, .int .i64 (-1), .int .i64 0] 33
  have b := (Below.refl w1.heap.size w1).alloc (Nat.le_refl _) (.cells #[.string ⟨#[]⟩, .string ⟨#[]⟩, .slice none 0 0, .bool true, .int .i64 0, .int .i64 0, .slice none 0 0, .int .i64 (-1), .int .i64 0, .slice none 0 0, .slice none 0 0, .slice none 0 0, .int .i64 (-1), .int .i64 0] 33)
  replace B := Lib.hid (B.out.trans (b.mono B.out.size))
  generalize hW : w1.alloc _ = w2 at bx B  ⊢
  clear hW b
  generalize hA : w1.heap.size = a_s at bx ⊢
  have X_s := Lib.hid bx; clear bx hA
  refine (implWorldNew_calls w2).mono ?_
  rintro e w3 ⟨rfl, b⟩
  replace B := Lib.hid (B.out.trans (b.mono B.out.size))
  replace X_s := Lib.hid (X_s.out.below b X_s.out.lt)
  clear b
  have c_s0 := X_s.out.cell 0 rfl; have c_s1 := X_s.out.cell 1 rfl; have c_s2 := X_s.out.cell 2 rfl; have c_s3 := X_s.out.cell 3 rfl; have c_s4 := X_s.out.cell 4 rfl; have c_s5 := X_s.out.cell 5 rfl; have c_s6 := X_s.out.cell 6 rfl; have c_s7 := X_s.out.cell 7 rfl; have c_s8 := X_s.out.cell 8 rfl; have c_s9 := X_s.out.cell 9 rfl; have c_s10 := X_s.out.cell 10 rfl; have c_s11 := X_s.out.cell 11 rfl; have c_s12 := X_s.out.cell 12 rfl; have c_s13 := X_s.out.cell 13 rfl; have l_s := X_s.out.lt; have n_s : a_s ≠ w3.heap.size := Nat.ne_of_lt X_s.out.lt
  go_wp2_with fail
  clear c_s0 c_s1 c_s2 c_s3 c_s4 c_s5 c_s6 c_s7 c_s8 c_s9 c_s10 c_s11 c_s12 c_s13 l_s n_s
  have bx := Blk.new w3 [.string ⟨#[]⟩, .string ⟨#[]⟩, .slice none 0 0, .bool true, .int .i64 0, .int .i64 0, .slice none 0 0, .int .i64 (-1), .int .i64 0, .slice none 0 0, .slice none 0 0, .slice none 0 0, .int .i64 (-1), .int .i64 0] 33
  have b := (Below.refl w3.heap.size w3).alloc (Nat.le_refl _) (.cells #[.string ⟨#[]⟩, .string ⟨#[]⟩, .slice none 0 0, .bool true, .int .i64 0, .int .i64 0, .slice none 0 0, .int .i64 (-1), .int .i64 0, .slice none 0 0, .slice none 0 0, .slice none 0 0, .int .i64 (-1), .int .i64 0] 33)
  replace X_s := Lib.hid (X_s.out.below b X_s.out.lt)
  replace B := Lib.hid (B.out.trans (b.mono B.out.size))
  generalize hW : w3.alloc _ = w4 at bx B X_s ⊢
  clear hW b
  generalize hA : w3.heap.size = a_g at bx ⊢
  have X_g := Lib.hid bx; clear bx hA
  refine (eqWorld_new w4).mono ?_
  rintro e w5 ⟨rfl, b⟩
  replace B := Lib.hid (B.out.trans (b.mono B.out.size))
  replace X_s := Lib.hid (X_s.out.below b X_s.out.lt)
  replace X_g := Lib.hid (X_g.out.below b X_g.out.lt)
  clear b
  have c_g0 := X_g.out.cell 0 rfl; have c_g1 := X_g.out.cell 1 rfl; have c_g2 := X_g.out.cell 2 rfl; have c_g3 := X_g.out.cell 3 rfl; have c_g4 := X_g.out.cell 4 rfl; have c_g5 := X_g.out.cell 5 rfl; have c_g6 := X_g.out.cell 6 rfl; have c_g7 := X_g.out.cell 7 rfl; have c_g8 := X_g.out.cell 8 rfl; have c_g9 := X_g.out.cell 9 rfl; have c_g10 := X_g.out.cell 10 rfl; have c_g11 := X_g.out.cell 11 rfl; have c_g12 := X_g.out.cell 12 rfl; have c_g13 := X_g.out.cell 13 rfl; have l_g := X_g.out.lt; have n_g : a_g ≠ w5.heap.size := Nat.ne_of_lt X_g.out.lt
  go_wp2_with fail
  clear c_g0 c_g1 c_g2 c_g3 c_g4 c_g5 c_g6 c_g7 c_g8 c_g9 c_g10 c_g11 c_g12 c_g13 l_g n_g
  refine (markWorld_new 1 w5 (by omega)).mono ?_
  rintro e w6 ⟨rfl, b⟩
  replace B := Lib.hid (B.out.trans (b.mono B.out.size))
  replace X_s := Lib.hid (X_s.out.below b X_s.out.lt)
  replace X_g := Lib.hid (X_g.out.below b X_g.out.lt)
  clear b
  have c_g0 := X_g.out.cell 0 rfl; have c_g1 := X_g.out.cell 1 rfl; have c_g2 := X_g.out.cell 2 rfl; have c_g3 := X_g.out.cell 3 rfl; have c_g4 := X_g.out.cell 4 rfl; have c_g5 := X_g.out.cell 5 rfl; have c_g6 := X_g.out.cell 6 rfl; have c_g7 := X_g.out.cell 7 rfl; have c_g8 := X_g.out.cell 8 rfl; have c_g9 := X_g.out.cell 9 rfl; have c_g10 := X_g.out.cell 10 rfl; have c_g11 := X_g.out.cell 11 rfl; have c_g12 := X_g.out.cell 12 rfl; have c_g13 := X_g.out.cell 13 rfl; have l_g := X_g.out.lt; have n_g : a_g ≠ w6.heap.size := Nat.ne_of_lt X_g.out.lt
  go_wp2_with fail
  clear c_g0 c_g1 c_g2 c_g3 c_g4 c_g5 c_g6 c_g7 c_g8 c_g9 c_g10 c_g11 c_g12 c_g13 l_g n_g
  refine (heldWorld_new 1 w6 (by omega)).mono ?_
  rintro e w7 ⟨rfl, b⟩
  replace B := Lib.hid (B.out.trans (b.mono B.out.size))
  replace X_s := Lib.hid (X_s.out.below b X_s.out.lt)
  replace X_g := Lib.hid (X_g.out.below b X_g.out.lt)
  clear b
  go_wp2_with fail
  refine (implWorldNew_calls w7).mono ?_
  rintro e w8 ⟨rfl, b⟩
  replace B := Lib.hid (B.out.trans (b.mono B.out.size))
  replace X_s := Lib.hid (X_s.out.below b X_s.out.lt)
  replace X_g := Lib.hid (X_g.out.below b X_g.out.lt)
  clear b
  have c_s0 := X_s.out.cell 0 rfl; have c_s1 := X_s.out.cell 1 rfl; have c_s2 := X_s.out.cell 2 rfl; have c_s3 := X_s.out.cell 3 rfl; have c_s4 := X_s.out.cell 4 rfl; have c_s5 := X_s.out.cell 5 rfl; have c_s6 := X_s.out.cell 6 rfl; have c_s7 := X_s.out.cell 7 rfl; have c_s8 := X_s.out.cell 8 rfl; have c_s9 := X_s.out.cell 9 rfl; have c_s10 := X_s.out.cell 10 rfl; have c_s11 := X_s.out.cell 11 rfl; have c_s12 := X_s.out.cell 12 rfl; have c_s13 := X_s.out.cell 13 rfl; have l_s := X_s.out.lt; have n_s : a_s ≠ w8.heap.size := Nat.ne_of_lt X_s.out.lt
  go_wp2_with fail
  clear c_s0 c_s1 c_s2 c_s3 c_s4 c_s5 c_s6 c_s7 c_s8 c_s9 c_s10 c_s11 c_s12 c_s13 l_s n_s
  have bx := Blk.new w8 [.string ⟨#[]⟩, .string ⟨#[]⟩, .slice none 0 0, .bool true, .int .i64 0, .int .i64 0, .slice none 0 0, .int .i64 (-1), .int .i64 0, .slice none 0 0, .slice none 0 0, .slice none 0 0, .int .i64 (-1), .int .i64 0] 33
  have b := (Below.refl w8.heap.size w8).alloc (Nat.le_refl _) (.cells #[.string ⟨#[]⟩, .string ⟨#[]⟩, .slice none 0 0, .bool true, .int .i64 0, .int .i64 0, .slice none 0 0, .int .i64 (-1), .int .i64 0, .slice none 0 0, .slice none 0 0, .slice none 0 0, .int .i64 (-1), .int .i64 0] 33)
  replace X_s := Lib.hid (X_s.out.below b X_s.out.lt)
  replace X_g := Lib.hid (X_g.out.below b X_g.out.lt)
  replace B := Lib.hid (B.out.trans (b.mono B.out.size))
  generalize hW : w8.alloc _ = w9 at bx B X_s X_g ⊢
  clear hW b
  generalize hA : w8.heap.size = a_h at bx ⊢
  have X_h := Lib.hid bx; clear bx hA
  refine (eqWorld_new w9).mono ?_
  rintro e w10 ⟨rfl, b⟩
  replace B := Lib.hid (B.out.trans (b.mono B.out.size))
  replace X_s := Lib.hid (X_s.out.below b X_s.out.lt)
  replace X_g := Lib.hid (X_g.out.below b X_g.out.lt)
  replace X_h := Lib.hid (X_h.out.below b X_h.out.lt)
  clear b
  have c_g0 := X_g.out.cell 0 rfl; have c_g1 := X_g.out.cell 1 rfl; have c_g2 := X_g.out.cell 2 rfl; have c_g3 := X_g.out.cell 3 rfl; have c_g4 := X_g.out.cell 4 rfl; have c_g5 := X_g.out.cell 5 rfl; have c_g6 := X_g.out.cell 6 rfl; have c_g7 := X_g.out.cell 7 rfl; have c_g8 := X_g.out.cell 8 rfl; have c_g9 := X_g.out.cell 9 rfl; have c_g10 := X_g.out.cell 10 rfl; have c_g11 := X_g.out.cell 11 rfl; have c_g12 := X_g.out.cell 12 rfl; have c_g13 := X_g.out.cell 13 rfl; have l_g := X_g.out.lt; have n_g : a_g ≠ w10.heap.size := Nat.ne_of_lt X_g.out.lt
  go_wp2_with fail
  clear c_g0 c_g1 c_g2 c_g3 c_g4 c_g5 c_g6 c_g7 c_g8 c_g9 c_g10 c_g11 c_g12 c_g13 l_g n_g
  refine (heldWorld_new 1 w10 (by omega)).mono ?_
  rintro e w11 ⟨rfl, b⟩
  replace B := Lib.hid (B.out.trans (b.mono B.out.size))
  replace X_s := Lib.hid (X_s.out.below b X_s.out.lt)
  replace X_g := Lib.hid (X_g.out.below b X_g.out.lt)
  replace X_h := Lib.hid (X_h.out.below b X_h.out.lt)
  clear b
  go_wp2
  go_ret
  exact ⟨rfl, B.out⟩
end Go.Proofs.Ytfecnninnmichaa.AL
