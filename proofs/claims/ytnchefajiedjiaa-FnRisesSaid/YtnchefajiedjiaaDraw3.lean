/-
  Samples, drawn, that may be spoiled at one place; a code opened.
-/
import Derived.Test.YtnchefajiedjiaaDraw2
namespace Go.Proofs.Ytnchefajiedjiaa.AL
open Go Go.RowKit Go.Proofs
open Ty (KF)

/-- What reads alike, cell by cell. -/
theorem ks_cells {α : Type} [Ty α] [Flat α] {w w' : World} {b o : Nat} {xs : List α} {F : Foot} (h : KS w (some ⟨b, o, none⟩) xs F) (hs : w.heap.size ≤ w'.heap.size)
    (hc : ∀ j, w'.cell? ⟨b, j, none⟩ = w.cell? ⟨b, j, none⟩) (hf : ∀ j, w'.frozen? ⟨b, j, none⟩ = w.frozen? ⟨b, j, none⟩) : KS w' (some ⟨b, o, none⟩) xs F := by
  rcases h with h | ⟨b', o', css, Fs, hA, rfl, he, h1, hb⟩
  · exact .inl h
  · cases hA
    have e : Fs.flatten = [] := elems_flat he
    exact .inr ⟨b, o, css, Fs, rfl, rfl, he.keep (by rw [e]; simp), fun j u hu => ⟨(hc _).trans (h1 j u hu).1, (hf _).trans (h1 j u hu).2⟩, by omega⟩

/-- One cell of an element is written. -/
theorem ks_set1 {α : Type} [Ty α] [Flat α] {w : World} {xs : List α} {A : Option Addr} {F : Foot} (h : KS w A xs F) (i : Nat) (hi : i < xs.length) (x : α) (j : Nat) (v : Value) (hj : j < Ty.sz α)
    (hx : ∀ ds G, KF w xs[i] ds G → KF w x (ds.set j v) []) :
    ∃ b o, A = some ⟨b, o, none⟩ ∧ F = [b] ∧ b < w.heap.size ∧ (∃ u, w.cell? ⟨b, o + i * Ty.sz α + j, none⟩ = some u) ∧ w.frozen? ⟨b, o + i * Ty.sz α + j, none⟩ = false ∧
      KS (w.setCell ⟨b, o + i * Ty.sz α + j, none⟩ v) A (xs.set i x) F := by
  obtain ⟨b', o', ds, G, hA', _, hk, _, _, hcell⟩ := h.get i hi
  obtain ⟨b, o, hA, hF, hb, hat, hset⟩ := ks_set h i hi
  obtain ⟨rfl, rfl⟩ : b = b' ∧ o = o' := by rw [hA] at hA'; injection hA' with e; injection e with e1 e2; exact ⟨e1, e2⟩
  clear hA'
  have hl : ds.length = Ty.sz α := Ty.len hk
  obtain ⟨hu, hf⟩ := hat j hj
  refine ⟨b, o, hA, hF, hb, hu, hf, ?_⟩
  have h1 := hset x (ds.set j v) (hx ds G hk)
  subst hA
  refine ks_cells h1 (by simp [size_setMany]) (fun q => ?_) (fun q => by rw [frozen?_setMany]; simp)
  have hat' : ∀ m, m < (ds.set j v).length → ∃ u, w.cell? ⟨b, o + i * Ty.sz α + m, none⟩ = some u := fun m hm => (hat m (by simpa [hl] using hm)).1
  rw [cell?_setMany _ _ _ _ hat']
  by_cases hq : q = o + i * Ty.sz α + j
  · subst hq
    obtain ⟨u, hu⟩ := hu
    rw [World.cell?_setCell_same w ⟨b, _, none⟩ v hu, dif_pos ⟨by omega, by simp [hl]; omega⟩]
    simp
  · rw [World.cell?_setCell_other _ _ _ _ (fun e => by injection e with _ e; omega)]
    by_cases h2 : o + i * Ty.sz α ≤ q ∧ q < o + i * Ty.sz α + (ds.set j v).length
    · rw [dif_pos h2]
      have h3 : q - (o + i * Ty.sz α) < ds.length := by simp at h2; omega
      have h4 := hcell (q - (o + i * Ty.sz α)) _ (List.getElem?_eq_getElem h3)
      rw [show o + (i * Ty.sz α + (q - (o + i * Ty.sz α))) = q by omega] at h4
      rw [h4, List.getElem_set_ne (by omega)]
    · rw [dif_neg h2]

theorem sam_setT {w : World} (x : Sample) (t : Int) : ∀ ds G, KF w x ds G → KF w (⟨t, x.V⟩ : Sample) (ds.set 0 (.int .i64 t)) [] := by
  intro ds G h; obtain ⟨rfl, _⟩ := kf_Sample h; exact kf_Sample_mk w ⟨t, x.V⟩
theorem sam_setV {w : World} (x : Sample) (t : Int) : ∀ ds G, KF w x ds G → KF w (⟨x.T, t⟩ : Sample) (ds.set 1 (.int .i64 t)) [] := by
  intro ds G h; obtain ⟨rfl, _⟩ := kf_Sample h; exact kf_Sample_mk w ⟨x.T, t⟩

theorem Fresh.turns {α : Type} [Ty α] {w w' : World} {base m : Nat} {v : Value} {xs : List α} {G : Foot} (h : Fresh w base m v xs) (t : Turns G w w') (hG : ∀ k ∈ G, k < base) : Fresh w' base m v xs := by
  obtain ⟨A, c, F, h1, h2, h3, h4, h5, h6⟩ := h
  exact ⟨A, c, F, h1, h2, h3, h4, t.ks h5 (fun k hk hm => by have := hG k hm; have := h6 k hk; omega), h6⟩
/-- A cell behind base was written. -/
theorem Turns.set {G : Foot} {w wr : World} (h : Turns G w wr) (a : Addr) (ha : w.heap.size ≤ a.block) (v : Value) : Turns G w (wr.setCell a v) :=
  ⟨h.os, h.tape, h.output, Nat.le_trans h.size (by simp), fun k hk hn => (Below.heap_setCell wr a v k (by omega)).trans (h.block k hk hn)⟩
theorem Rd.setOther {B : Nat} {w : World} {a p : Nat} (h : Rd B w a p) (x : Addr) (hx : B ≤ x.block) (v : Value) : Rd B (w.setCell x v) a p := by
  obtain ⟨A, c, bs, F, h1, h2, h3, h4, h5, h6, h7, h8⟩ := h
  exact ⟨A, c, bs, F, h1.keep (Below.heap_setCell w x v a (by omega)), h2.keep fun k hk => Below.heap_setCell w x v k (by have := h8 k hk; omega), h3, h4, h5, h6, h7, h8⟩

set_option maxRecDepth 100000 in
set_option maxHeartbeats 2000000 in
theorem l13AnySamples_calls {B a p : Nat} (most : Nat) (w : World) (h : Rd B w a p) (hB : B ≤ w.heap.size) (hm : most ≤ 1000) (hp : p + 20000 ≤ 1099511627776) :
    Calls Try.prog 46 #[.pointer (some ⟨a, 0, none⟩), .int .i64 most] w (SamPost B a p most (13 + 8 * most) w) := by
  have haB := h.at
  have P0 := Lib.hid (l13Samples_calls most w h hB hm (by omega)); clear h
  go_enter Try.func46, Try.ntmps46
  go_wp2_with fail
  refine P0.out.mono ?_
  rintro e w1 ⟨_, xs, p1, rfl, ⟨A, c, F, rfl, x1, x2, x3, k1, k1'⟩, q1, q2, r1, t1, hsb⟩
  have hc := x3
  unfold maxLen at hc
  clear P0
  have hB1 := Nat.le_trans hB t1.size
  have T1 := Lib.hid t1; clear t1
  have HSB := Lib.hid hsb; clear hsb
  by_cases h0 : 0 < xs.length
  · have K1 := Lib.hid k1; have KL := Lib.hid k1'; clear k1 k1'
    have hF : ∀ k ∈ F, k ∉ [a] := fun k hk => by have := KL.out k hk; simp; omega
    have HF := Lib.hid hF; clear hF
    have P1 := Lib.hid (pick_calls 12 w1 r1 (by omega) (by omega) (by omega)); clear r1
    go_wp2_with fail
    refine P1.out.mono ?_
    rintro e w2 ⟨v1, rfl, ⟨a1, _, _⟩, r2, t2⟩
    clear P1
    have hB2 := Nat.le_trans hB1 t2.size
    have T2 := Lib.hid (T1.out.trans t2); have K2 := Lib.hid (t2.ks K1.out HF.out); clear t2 T1 K1
    by_cases hv : v1 = 0
    · subst hv
      have P2 := Lib.hid (pick_calls (xs.length : Int) w2 r2 (by omega) (by omega) (by omega)); clear r2
      go_wp2_with fail
      refine P2.out.mono ?_
      rintro e w3 ⟨v2, rfl, ⟨a2, b2, _⟩, r3, t3⟩
      clear P2
      obtain ⟨i, rfl⟩ := Int.eq_ofNat_of_zero_le a2
      have hi : i < xs.length := by have := b2 (by omega); omega
      clear a2 b2
      have hB3 := Nat.le_trans hB2 t3.size
      have T3 := Lib.hid (T2.out.trans t3); have K3 := Lib.hid (t3.ks K2.out HF.out); clear t3 T2 K2
      have P3 := Lib.hid (pick_calls 4 w3 r3 (by omega) (by omega) (by omega)); clear r3
      go_wp2_with fail
      refine P3.out.mono ?_
      rintro e w4 ⟨v3, rfl, ⟨a3, b3, _⟩, r4, t4⟩
      clear P3 a3 b3
      have hB4 := Nat.le_trans hB3 t4.size
      have T4 := Lib.hid (T3.out.trans t4); have K4 := Lib.hid (t4.ks K3.out HF.out); clear t4 T3 K3
      by_cases c0 : v3 = 0
      · subst c0
        go_wp2_with fail
        refine (one_lit [-1, 10000, 0] w4 r4 hB4 (by omega) (by simp) (by simp)).mono ?_
        rintro e w5 ⟨nt, rfl, hnt, r5, t5⟩
        have hnt' : -1 ≤ nt ∧ nt ≤ 10000 := by simp only [List.mem_cons, List.not_mem_nil, or_false] at hnt; omega
        have T5 := Lib.hid (T4.out.trans t5); have K5 := Lib.hid (t5.ks K4.out HF.out); clear t5 T4 K4
        obtain ⟨b, o, rfl, hFb, hb, ⟨u, hu⟩, hf, hk⟩ := ks_set1 K5.out i hi ⟨nt, xs[i].V⟩ 0 (.int .i64 nt) (by decide) (sam_setT _ _)
        change w5.cell? ⟨b, o + i * 2, none⟩ = _ at hu
        change w5.frozen? ⟨b, o + i * 2, none⟩ = _ at hf
        subst hFb
        have hbw : w.heap.size ≤ b := KL.out b (by simp)
        have HX := Lib.hid (show SamPost B a p most (13 + 8 * most) w (.returned (.slice (some ⟨b, o, none⟩) xs.length c)) (w5.setCell ⟨b, o + i * 2, none⟩ (.int .i64 nt)) from
          ⟨_, xs.set i ⟨nt, xs[i].V⟩, p1 + 1 + 1 + 1 + 1, by simp, ⟨_, c, _, rfl, by simpa using x1, by simpa using x2, x3, hk, KL.out⟩, by omega, by omega, r5.setOther _ (by simp; omega) _, T5.out.set _ hbw _, HSB.out.set i ⟨by show -1 ≤ nt; omega, by show nt ≤ 20000; omega, (HSB.out.at i hi).2.2.1, (HSB.out.at i hi).2.2.2⟩⟩)
        clear hk K5 T5 KL r5 r4 HF
        go_wp2
        go_ret
        exact HX.out
      · by_cases c1 : v3 = 1
        · subst c1
          go_wp2_with fail
          refine (one_lit [-1, 2147483648] w4 r4 hB4 (by omega) (by simp) (by simp)).mono ?_
          rintro e w5 ⟨nt, rfl, hnt, r5, t5⟩
          have hnt' : -1 ≤ nt ∧ nt ≤ 2147483648 := by simp only [List.mem_cons, List.not_mem_nil, or_false] at hnt; omega
          have T5 := Lib.hid (T4.out.trans t5); have K5 := Lib.hid (t5.ks K4.out HF.out); clear t5 T4 K4
          obtain ⟨b, o, rfl, hFb, hb, ⟨u, hu⟩, hf, hk⟩ := ks_set1 K5.out i hi ⟨xs[i].T, nt⟩ 1 (.int .i64 nt) (by decide) (sam_setV _ _)
          change w5.cell? ⟨b, o + i * 2 + 1, none⟩ = _ at hu
          change w5.frozen? ⟨b, o + i * 2 + 1, none⟩ = _ at hf
          subst hFb
          have hbw : w.heap.size ≤ b := KL.out b (by simp)
          have HX := Lib.hid (show SamPost B a p most (13 + 8 * most) w (.returned (.slice (some ⟨b, o, none⟩) xs.length c)) (w5.setCell ⟨b, o + i * 2 + 1, none⟩ (.int .i64 nt)) from
            ⟨_, xs.set i ⟨xs[i].T, nt⟩, p1 + 1 + 1 + 1 + 1, by simp, ⟨_, c, _, rfl, by simpa using x1, by simpa using x2, x3, hk, KL.out⟩, by omega, by omega, r5.setOther _ (by simp; omega) _, T5.out.set _ hbw _, HSB.out.set i ⟨(HSB.out.at i hi).1, (HSB.out.at i hi).2.1, by show -1 ≤ nt; omega, by show nt ≤ 2147483648; omega⟩⟩)
          clear hk K5 T5 KL r5 r4 HF
          go_wp2
          go_ret
          exact HX.out
        · obtain ⟨b, o, rfl, hFb, hb, ⟨u, hu⟩, hf, hk⟩ := ks_set1 K4.out i hi ⟨xs[0].T, xs[i].V⟩ 0 (.int .i64 xs[0].T) (by decide) (sam_setT _ _)
          obtain ⟨_, _, hbo, _, _, g0, _⟩ := ks_Sample K4.out 0 h0
          cases hbo
          simp only [Nat.zero_mul, Nat.add_zero] at g0
          change w4.cell? ⟨b, o + i * 2, none⟩ = _ at hu
          change w4.frozen? ⟨b, o + i * 2, none⟩ = _ at hf
          subst hFb
          have hbw : w.heap.size ≤ b := KL.out b (by simp)
          have HX := Lib.hid (show SamPost B a p most (13 + 8 * most) w (.returned (.slice (some ⟨b, o, none⟩) xs.length c)) (w4.setCell ⟨b, o + i * 2, none⟩ (.int .i64 xs[0].T)) from
            ⟨_, xs.set i ⟨xs[0].T, xs[i].V⟩, p1 + 1 + 1 + 1, by simp, ⟨_, c, _, rfl, by simpa using x1, by simpa using x2, x3, hk, KL.out⟩, by omega, by omega, r4.setOther _ (by simp; omega) _, T4.out.set _ hbw _, HSB.out.set i ⟨(HSB.out.at 0 h0).1, (HSB.out.at 0 h0).2.1, (HSB.out.at i hi).2.2.1, (HSB.out.at i hi).2.2.2⟩⟩)
          clear hk K4 T4 KL r4 HF
          go_wp2
          go_ret
          exact HX.out
    · have HX := Lib.hid (show SamPost B a p most (13 + 8 * most) w (.returned (.slice A xs.length c)) w2 from
        ⟨_, xs, p1 + 1, rfl, ⟨_, c, _, rfl, x1, x2, x3, K2.out, KL.out⟩, by omega, by omega, r2, T2.out, HSB.out⟩)
      clear K2 KL r2 T2 HF
      go_wp2
      go_ret
      exact HX.out
  · have HX := Lib.hid (show SamPost B a p most (13 + 8 * most) w (.returned (.slice A xs.length c)) w1 from
      ⟨_, xs, p1, rfl, ⟨_, c, _, rfl, x1, x2, x3, k1, k1'⟩, by omega, by omega, r1, T1.out, HSB.out⟩)
    clear k1 k1' r1 T1
    go_wp2
    go_ret
    exact HX.out

/-- A code opened. -/
def OpenPost (w : World) (e : Ending) (w' : World) : Prop := ∃ a, e = .returned (.pointer (some ⟨a, 0, none⟩)) ∧ Rd w'.heap.size w' a 0 ∧ Below w.heap.size w w' ∧ w.heap.size ≤ a
theorem l1Open_post {w : World} {A : Option Addr} {c : Nat} {xs : List UInt8} {F : Foot} (h : KS w A xs F) (hx : xs.length ≤ 2000) (hm : xs.length ≤ c) (hc : c ≤ maxLen) :
    OpenPost w (.returned (.pointer (some ⟨w.heap.size, 0, none⟩))) (w.alloc (.cells #[.slice A xs.length c, .int .i64 0] 82)) := by
  have hlt := h.lt
  exact ⟨_, rfl, ⟨A, c, xs, F, Blk.new w _ _, kf_ks_alloc h _, hx, hm, hc, fun hh => by have := hlt _ hh; omega, by simp, fun k hk => by have := hlt k hk; simp; omega⟩, (Below.refl _ _).alloc (Nat.le_refl _) _, Nat.le_refl _⟩
theorem l1Open_calls {A : Option Addr} {c : Nat} {xs : List UInt8} {F : Foot} (w : World) (h : KS w A xs F) (hm : xs.length ≤ c) (hc : c ≤ maxLen) :
    Calls Try.prog 47 #[.slice A xs.length c] w (OpenPost w) := by
  have hc' := hc
  unfold maxLen at hc'
  by_cases hl : 2000 < xs.length
  · obtain ⟨b, o, rfl⟩ := ks_some h (by omega)
    obtain ⟨G, _, hk⟩ := ks_take h 2000
    have e : (xs.take 2000).length = 2000 := by simp; omega
    have HX := Lib.hid (l1Open_post (c := c) hk (by omega) (by omega) hc); clear hk h
    rw [e] at HX
    go_enter Try.func47, Try.ntmps47
    go_wp2
    go_ret
    exact HX.out
  · have HX := Lib.hid (l1Open_post h (by omega) hm hc); clear h
    go_enter Try.func47, Try.ntmps47
    go_wp2
    go_ret
    exact HX.out

/-- Drawn samples. -/
def DrawnPost (α : Type) [Ty α] (most : Nat) (w : World) (e : Ending) (w' : World) : Prop := ∃ (v : Value) (xs : List α), e = .returned v ∧ Fresh w' w.heap.size most v xs ∧ Below w.heap.size w w'
theorem drawRises_calls {A : Option Addr} {c : Nat} {xs : List UInt8} {F : Foot} (w : World) (h : KS w A xs F) (hm : xs.length ≤ c) (hc : c ≤ maxLen) :
    Calls Try.prog 21 #[.slice A xs.length c] w (DrawnPost Sample 9 w) := by
  have P1 := Lib.hid (l1Open_calls w h hm hc); clear h
  go_enter Try.func21, Try.ntmps21
  go_wp2_with fail
  refine P1.out.mono ?_
  rintro e w1 ⟨a, rfl, r1, b1, ha⟩
  have P2 := Lib.hid (l13AnySamples_calls 9 w1 r1 (Nat.le_refl _) (by omega) (by omega)); clear P1
  have haw := r1.at; clear r1
  go_wp2_with fail
  refine P2.out.mono ?_
  rintro e w2 ⟨v, ys, p', rfl, ⟨A1, c1, F1, rfl, x1, x2, x3, x4, x5⟩, _, _, _, t2, _⟩
  have hb := b1.size
  have HX := Lib.hid (show DrawnPost Sample 9 w (.returned (.slice A1 ys.length c1)) w2 from ⟨_, ys, rfl, ⟨A1, c1, F1, rfl, x1, x2, x3, x4, fun k hk => by have := x5 k hk; omega⟩, b1.trans (t2.below (by simpa using ha) (by omega))⟩)
  clear b1 t2 x4 x5 P2
  go_wp2
  go_ret
  exact HX.out
theorem specSamplesOk_calls {A : Option Addr} {c : Nat} {xs : List Sample} {F : Foot} (w : World) (h : KS w A xs F) (hm : xs.length ≤ c) (hc : c ≤ maxLen) :
    Calls Try.prog 22 #[.slice A xs.length c] w fun e w' => e = .returned (.bool (samOk xs)) ∧ Q w w' := by
  have P1 := Lib.hid (l2Ok_calls w h hm hc); clear h
  go_enter Try.func22, Try.ntmps22
  go_wp2_with fail
  refine P1.out.mono ?_
  rintro e w1 ⟨rfl, q⟩
  go_wp2
  go_ret
  exact ⟨rfl, q⟩
end Go.Proofs.Ytnchefajiedjiaa.AL
