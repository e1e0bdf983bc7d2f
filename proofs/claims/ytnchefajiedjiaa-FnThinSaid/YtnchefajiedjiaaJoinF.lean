/-
  The program's join of samples with some of themselves.
-/
import Derived.Test.YtnchefajiedjiaaCptW
namespace Go.Proofs.Ytnchefajiedjiaa.AL
open Go Go.RowKit Go.Proofs
set_option linter.unusedVariables false

/-- 'append(v, nil...)'. -/
theorem run_append_none {α : Type} [Ty α] {P : Program} {t ty e : TypeId} {i : TypeInfo} {w : World} {base : Nat} {v : Value} {xs : List α} {G : Foot} (ht : P.underlying t = some (.slice e)) (hi : P.info? e = some i) (hz : i.size = Ty.sz α) (h : Own w base e v xs G) (c : Nat) (hn : xs.length ≤ 1000000) :
    (Builtin.append_ #[t, t] ty #[v, .slice none 0 c]).run P w = .ok v w := by
  obtain ⟨css, Fs, ho, _⟩ := h
  rcases ho.2 with ⟨rfl, h0⟩ | ⟨g, cap, cur, rfl, hb, hh, h1, h2, hs, _⟩
  · simp [Builtin.append_, run_underlying ht, sizeOf, typeInfo, hi, Builtin.lenOf, Builtin.firstCells, loadCells, loadCellsFrom]
  · have h3 : (xs.length : Int) ≤ 9223372036854775807 := by omega
    simp [Builtin.append_, run_underlying ht, sizeOf, typeInfo, hi, Builtin.lenOf, Builtin.firstCells, loadCells, loadCellsFrom, h1, storeCells]

/-- A slice is put behind. -/
theorem run_append_ks {P : Program} (t ty e : TypeId) (i : TypeInfo) (z : Value) (bytes : Nat) (ht : P.underlying t = some (.slice e)) (hi : P.info? e = some i) (hz : i.zero = some z)
    (hsize : i.size = 2) (hby : i.bytes = bytes) (hzs : z.cells.size = 2) (hbytes : bytes ≤ 128) {w : World} {base : Nat} {v : Value} {xs ys : List Sample} (h : Own w base e v xs []) {A : Option Addr} {c : Nat} {F : Foot} (hy : KS w A ys F) (h1 : xs.length ≤ 1000) (h2 : ys.length ≤ 1000) (hb : base ≤ w.heap.size) :
    ∃ v' w', (Builtin.append_ #[t, t] ty #[v, .slice A ys.length c]).run P w = .ok v' w' ∧ Own w' base e v' (xs ++ ys) [] ∧ w.grownBy w' v.ownBlock := by
  rcases hy with ⟨rfl, _⟩ | ⟨bk, o, css, Fs, rfl, rfl, he, hcell, _⟩
  · cases A with
    | none => exact ⟨v, w, run_append_none ht hi hsize h c (by omega), by simpa using h, World.grownBy.refl _ _⟩
    | some ad =>
      obtain ⟨v', w', g1, g2, g3, _⟩ := run_append_Own (P := P) t ty e i z bytes ht hi hz hsize hby hzs h (ys := []) .nil ad c (by simp) (by simp) (by simp; omega) hbytes hb
      exact ⟨v', w', g1, by simpa using g2, g3⟩
  · have hfl : Fs.flatten = [] := elems_flat he
    obtain ⟨v', w', g1, g2, g3, _⟩ := run_append_Own (P := P) t ty e i z bytes ht hi hz hsize hby hzs h he ⟨bk, o, none⟩ c (fun j u hu => by rw [Addr.add_lit]; exact (hcell j u hu).1) (by rw [hfl]; simp) (by omega) hbytes hb
    rw [hfl] at g2
    exact ⟨v', w', g1, by simpa using g2, g3⟩

set_option maxRecDepth 100000 in
set_option maxHeartbeats 4000000 in
theorem concat_calls {A A' : Option Addr} {c c' : Nat} {xs ys : List Sample} {F F' : Foot} (bl : Nat) (w : World) (h : KS w A xs F) (hm : xs.length ≤ c) (hc : c ≤ maxLen) (hn : xs.length ≤ 100) (h' : KS w A' ys F') (hm' : ys.length ≤ c') (hc' : c' ≤ maxLen) (hn' : ys.length ≤ 100)
    (s0 : w.cell? ⟨bl, 0, none⟩ = some (.slice A xs.length c)) (s1 : w.cell? ⟨bl, 1, none⟩ = some (.slice A' ys.length c')) (hbl : bl < w.heap.size) :
    Calls Try.prog 72 #[.slice (some ⟨bl, 0, none⟩) 2 2] w fun e w' => ∃ v, e = .returned v ∧ Own w' w.heap.size 36 v (xs ++ ys) [] ∧ Below w.heap.size w w' := by
  obtain ⟨ii, hi, hz0, hz1, hz2⟩ := info_parts info_Sample
  unfold maxLen at hc hc'
  have HX := h.lt; have HY := h'.lt
  have H := Lib.hid h; have H' := Lib.hid h'; clear h h'
  have P1 := Lib.hid (grow_calls (xs.length + ys.length) w (by omega))
  go_enter Try.func72, Try.ntmps72
  go_wp2
  go_loopw [3, 5, 11] (fun vs _ vi wr => ((vi = .int .i64 0 ∧ vs = .int .i64 0) ∨ (vi = .int .i64 1 ∧ vs = .int .i64 xs.length) ∨ (vi = .int .i64 2 ∧ vs = .int .i64 ((xs.length : Int) + ys.length))) ∧ w = wr) (fun _ _ vi _ => 2 - (intOf vi).toNat)
  case atStart => exact ⟨.inl ⟨rfl, rfl⟩, rfl⟩
  case round =>
    obtain ⟨hr, rfl⟩ := hrel
    rcases hr with ⟨rfl, rfl⟩ | ⟨rfl, rfl⟩ | ⟨rfl, rfl⟩
    · go_wp2
      go_roundw
      case rel => exact ⟨.inr (.inl ⟨rfl, by go_num⟩), by first | rfl | trivial⟩
      case measure => simp [intOf]
    · go_wp2
      go_roundw
      case rel => exact ⟨.inr (.inr ⟨rfl, by go_num⟩), by first | rfl | trivial⟩
      case measure => simp [intOf]
    · have P2 := P1.out
      push_cast at P2
      go_wp2_with fail
      refine P2.mono ?_
      rintro e w1 ⟨v1, rfl, o1, b1⟩
      clear P1 P2
      have c0 := (b1.cell (p := ⟨bl, 0, none⟩) hbl).trans s0
      have c1 := (b1.cell (p := ⟨bl, 1, none⟩) hbl).trans s1
      have K := Lib.hid (H.out.below b1); have K' := Lib.hid (H'.out.below b1)
      have hs1 := b1.size
      have O1 := Lib.hid o1; have B1 := Lib.hid b1; clear o1 b1 s0 s1 H H'
      go_wp2
      go_loopw [6, 8, 27] (fun vs _ vi wr => ((vi = .int .i64 0 ∧ Own wr w.heap.size 36 vs ([] : List Sample) []) ∨ (vi = .int .i64 1 ∧ Own wr w.heap.size 36 vs xs []) ∨ (vi = .int .i64 2 ∧ Own wr w.heap.size 36 vs (xs ++ ys) [])) ∧ KS wr A xs F ∧ KS wr A' ys F' ∧ wr.cell? ⟨bl, 0, none⟩ = some (.slice A xs.length c) ∧ wr.cell? ⟨bl, 1, none⟩ = some (.slice A' ys.length c') ∧ Below w.heap.size w wr) (fun _ _ vi _ => 2 - (intOf vi).toNat)
      case atStart => exact ⟨.inl ⟨rfl, O1.out⟩, K.out, K'.out, c0, c1, B1.out⟩
      case round =>
        obtain ⟨hr, hK, hK', d0, d1, hb⟩ := hrel
        clear K K' O1 B1 c0 c1
        have hbs := hb.size
        have HKx := Lib.hid hK; have HKy := Lib.hid hK'; clear hK hK'
        rcases hr with ⟨rfl, ho⟩ | ⟨rfl, ho⟩ | ⟨rfl, ho⟩
        · obtain ⟨v', w', a1, a2, a3⟩ := run_append_ks (c := c) (P := Try.prog) 25 25 36 ii (.agg #[.int .i64 0, .int .i64 0]) 16 Try.underlying25 hi hz0 hz1 hz2 rfl (by omega) ho HKx.out (by first | omega | (simp; done)) (by omega) hbs
          have hown := fun j hj => (ho.ownLt j hj).1
          have b2 := hb.grown a3 hbs hown
          have k2 := HKx.out.keep (w' := w') (fun k hk => a3.block k (HKx.out.lt k hk) (fun e => by have := hown k e.symm; have := HX k hk; omega))
          have k3 := HKy.out.keep (w' := w') (fun k hk => a3.block k (HKy.out.lt k hk) (fun e => by have := hown k e.symm; have := HY k hk; omega))
          have e0 := (World.cell?_of_block (w := wr) (w' := w') (a := ⟨bl, 0, none⟩) (a3.block bl (by omega) (fun e => by have := hown bl e.symm; omega))).trans d0
          have e1 := (World.cell?_of_block (w := wr) (w' := w') (a := ⟨bl, 1, none⟩) (a3.block bl (by omega) (fun e => by have := hown bl e.symm; omega))).trans d1
          have A2 := Lib.hid a2; have K2 := Lib.hid k2; have K3 := Lib.hid k3
          clear hown a2 a3 ho k2 k3 HKx HKy hb
          go_wp2_with (at_builtin; refine Lib.wpList_append_run _ rfl _ _ _ _ rfl _ _ rfl rfl _ _ a1 ?_)
          go_roundw
          case rel => exact ⟨.inr (.inl ⟨rfl, by simpa using A2.out⟩), K2.out, K3.out, e0, e1, b2⟩
          case measure => simp [intOf]
        · obtain ⟨v', w', a1, a2, a3⟩ := run_append_ks (c := c') (P := Try.prog) 25 25 36 ii (.agg #[.int .i64 0, .int .i64 0]) 16 Try.underlying25 hi hz0 hz1 hz2 rfl (by omega) ho HKy.out (by first | omega | (simp; done)) (by omega) hbs
          have hown := fun j hj => (ho.ownLt j hj).1
          have b2 := hb.grown a3 hbs hown
          have k2 := HKx.out.keep (w' := w') (fun k hk => a3.block k (HKx.out.lt k hk) (fun e => by have := hown k e.symm; have := HX k hk; omega))
          have k3 := HKy.out.keep (w' := w') (fun k hk => a3.block k (HKy.out.lt k hk) (fun e => by have := hown k e.symm; have := HY k hk; omega))
          have e0 := (World.cell?_of_block (w := wr) (w' := w') (a := ⟨bl, 0, none⟩) (a3.block bl (by omega) (fun e => by have := hown bl e.symm; omega))).trans d0
          have e1 := (World.cell?_of_block (w := wr) (w' := w') (a := ⟨bl, 1, none⟩) (a3.block bl (by omega) (fun e => by have := hown bl e.symm; omega))).trans d1
          have A2 := Lib.hid a2; have K2 := Lib.hid k2; have K3 := Lib.hid k3
          clear hown a2 a3 ho k2 k3 HKx HKy hb
          go_wp2_with (at_builtin; refine Lib.wpList_append_run _ rfl _ _ _ _ rfl _ _ rfl rfl _ _ a1 ?_)
          go_roundw
          case rel => exact ⟨.inr (.inr ⟨rfl, A2.out⟩), K2.out, K3.out, e0, e1, b2⟩
          case measure => simp [intOf]
        · have HXX := Lib.hid (show ∃ v, Ending.returned _ = .returned v ∧ Own wr w.heap.size 36 v (xs ++ ys) [] ∧ Below w.heap.size w wr from ⟨_, rfl, ho, hb⟩)
          clear ho HKx HKy
          go_wp2
          go_ret
          exact HXX.out

/-- All samples of both, each once: here those of the first. -/
def JoinPost (xs : List Sample) (w : World) (e : Ending) (w' : World) : Prop := ∃ v, e = .returned (.tuple #[v, .bool true]) ∧ Fresh w' w.heap.size 1000 v xs ∧ Below w.heap.size w w'
set_option maxRecDepth 100000 in
set_option maxHeartbeats 4000000 in
theorem join_calls {A A' : Option Addr} {c c' : Nat} {xs ys : List Sample} {F F' : Foot} (w : World) (h : KS w A xs F) (hm : xs.length ≤ c) (hc : c ≤ maxLen) (h' : KS w A' ys F') (hm' : ys.length ≤ c') (hc' : c' ≤ maxLen) (hn : xs.length + ys.length ≤ 19) (hok : SamOk xs) (hy : ∀ y ∈ ys, y ∈ xs) :
    Calls Try.prog 63 #[.slice A xs.length c, .slice A' ys.length c'] w (JoinPost xs w) := by
  have bb : Below w.heap.size w (w.alloc (.cells #[.slice A xs.length c, .slice A' ys.length c'] 25)) := (Below.refl _ _).alloc (Nat.le_refl _) _
  have bx := Blk.new w [.slice A xs.length c, .slice A' ys.length c'] 25
  have P1 := Lib.hid (concat_calls w.heap.size _ (h.below bb) hm hc (by omega) (h'.below bb) hm' hc' (by omega) (bx.cell 0 rfl) (bx.cell 1 rfl) bx.lt)
  have hT : TimeOk (xs ++ ys) := by
    intro x hx
    have hx' : x ∈ xs := (List.mem_append.1 hx).elim id (hy x)
    have := samOk_mem hok x hx'
    exact ⟨this.1, this.2.1⟩
  have hJ : ∀ zs : List Sample, zs.Perm (xs ++ ys) → SortTo zs zs.length → cptTo zs zs.length = xs := fun zs h1 h2 => cpt_join hok hy h1 h2
  have HT := Lib.hid hT; have HJ := Lib.hid hJ; have HOK := Lib.hid hok; have BB := Lib.hid bb
  have hss : w.heap.size ≤ (w.alloc (.cells #[.slice A xs.length c, .slice A' ys.length c'] 25)).heap.size := bb.size
  unfold maxLen at hc hc'
  clear h h' hT hJ hok hy bb bx
  go_enter Try.func63, Try.ntmps63
  go_wp2_with fail
  generalize w.alloc _ = w0 at P1 BB hss ⊢
  refine P1.out.mono ?_
  rintro e w1 ⟨v1, rfl, o1, b1⟩
  clear P1
  obtain ⟨A1, c1, F1, hv1, m1, m1', k1, lo1⟩ := o1.out (by simp)
  have hlen : (xs ++ ys).length ≤ 19 := by simp; omega
  generalize hW : xs ++ ys = us at *
  cases hv1
  have B1 := Lib.hid (BB.out.trans (b1.mono hss)); clear b1 o1
  have P2 := Lib.hid (sortStable_calls w1 k1 m1 m1' hlen HT.out); clear k1
  go_wp2_with fail
  refine P2.out.mono ?_
  rintro e w2 ⟨rfl, zs, z1, z2, k2, t2⟩
  clear P2
  have hzl : zs.length = us.length := z1.length_eq
  have HC := HJ.out zs z1 z2
  have B2 := Lib.hid (B1.out.trans (t2.below (fun k hk => by have := lo1 k hk; omega) B1.out.size)); clear B1 t2 z1 z2
  have P3 := compact_calls w2 k2 (c := c1) (by omega) m1' (by omega)
  rw [hzl] at P3
  have P3 := Lib.hid P3
  go_wp2_with fail
  refine P3.out.mono ?_
  rintro e w3 ⟨G, rfl, k3, hG, t3⟩
  rw [HC] at k3 ⊢
  have B3 := Lib.hid (B2.out.trans (t3.below (fun k hk => by have := lo1 k hk; omega) B2.out.size)); clear B2 t3 P3
  have K3 := Lib.hid k3; clear k2 k3 HC
  have n1 := m1'
  unfold maxLen at n1
  have hxu : xs.length ≤ us.length := by rw [← hW]; simp
  have HL := Lib.hid (show ∀ k ∈ G, w.heap.size ≤ k from fun k hk => by have := lo1 k (hG k hk); omega)
  clear hG lo1
  go_wp2
  go_loopw [7] (fun vk wr => ∃ k : Nat, vk = .int .i64 k ∧ 1 ≤ k ∧ Q w3 wr) (fun vk _ => xs.length + 1 - (intOf vk).toNat)
  case atStart => exact ⟨1, rfl, Nat.le_refl _, Q.refl _⟩
  case round =>
    obtain ⟨k, rfl, hk1, hq⟩ := hrel
    obtain ⟨m, rfl⟩ : ∃ m, k = m + 1 := ⟨k - 1, by omega⟩
    by_cases hlt : m + 1 < xs.length
    · have i3 : IntKind.i64.wrap ((m : Int) + 1 - 1) = (m : Int) := by rw [show (m : Int) + 1 - 1 = m by omega]; simp [IntKind.wrap, IntKind.bits, IntKind.signed]; omega
      obtain ⟨b, o, rfl, hb, _, g0, _⟩ := ks_Sample (K3.out.q hq) (m + 1) hlt
      obtain ⟨_, _, hbo, _, _, p0, _⟩ := ks_Sample (K3.out.q hq) m (by omega)
      cases hbo
      obtain ⟨_, _, _, _, _, hT1⟩ := HOK.out (m + 1) hlt
      have hT2 : (xs[m]'(by omega)).T < xs[m + 1].T := hT1 (by omega)
      have e1 : ((xs[m]'(by omega)).T == xs[m + 1].T) = false := beq_eq_false_iff_ne.2 (by omega)
      clear hT1
      go_wp2_with fail
      go_quiet (fail)
      go_wp2
      go_roundw
      case rel => exact ⟨m + 1 + 1, by go_num, by omega, hq.trans (Q.drewN _ _)⟩
      case measure => simp [intOf]; omega
    · have HX := Lib.hid (show JoinPost xs w (.returned (.tuple #[.slice A1 xs.length c1, .bool true])) wr from ⟨_, rfl, ⟨A1, c1, G, rfl, by omega, by omega, m1', K3.out.q hq, HL.out⟩, B3.out.trans ((hq.below _).mono B3.out.size)⟩)
      clear K3 B3 hq
      go_wp2
      exact bodyPost_ret (v := .tuple #[.slice A1 xs.length c1, .bool true]) (by simp [results, Try.results63, go_sem]) rfl HX.out

theorem implSamplesJoin_calls {A A' : Option Addr} {c c' : Nat} {xs ys : List Sample} {F F' : Foot} (w : World) (h : KS w A xs F) (hm : xs.length ≤ c) (hc : c ≤ maxLen) (h' : KS w A' ys F') (hm' : ys.length ≤ c') (hc' : c' ≤ maxLen) (hn : xs.length + ys.length ≤ 19) (hok : SamOk xs) (hok' : SamOk ys) (hy : ∀ y ∈ ys, y ∈ xs) :
    Calls Try.prog 39 #[.slice A xs.length c, .slice A' ys.length c'] w (JoinPost xs w) := by
  have e1 : samOk xs = true := samOk_true hok
  have e2 : samOk ys = true := samOk_true hok'
  have P1 := Lib.hid (samplesOk_calls w h hm hc)
  have H := Lib.hid h; have H' := Lib.hid h'; have HOK := Lib.hid hok; have HY := Lib.hid hy; clear h h' hok hok' hy
  go_enter Try.func39, Try.ntmps39
  go_wp2_with fail
  refine P1.out.mono ?_
  rintro e w1 ⟨rfl, b1⟩
  clear P1
  have P2 := Lib.hid (samplesOk_calls w1 (H'.out.below b1) hm' hc')
  go_wp2_with fail
  refine P2.out.mono ?_
  rintro e w2 ⟨rfl, b2⟩
  clear P2
  have b3 := b1.trans (b2.mono b1.size)
  have P3 := Lib.hid (join_calls w2 (H.out.below b3) hm hc (H'.out.below b3) hm' hc' hn HOK.out HY.out)
  go_wp2_with fail
  refine P3.out.mono ?_
  rintro e w3 ⟨_, rfl, ⟨A1, c1, G, rfl, q1, q2, q3, k3, lo⟩, b4⟩
  have hs := b3.size
  have HX := Lib.hid (show JoinPost xs w (.returned (.tuple #[.slice A1 xs.length c1, .bool true])) w3 from ⟨_, rfl, ⟨A1, c1, G, rfl, q1, q2, q3, k3, fun k hk => by have := lo k hk; omega⟩, b3.trans (b4.mono hs)⟩)
  clear P3 k3 lo b4 b3 b2 b1
  go_wp2
  exact bodyPost_ret (v := .tuple #[.slice A1 xs.length c1, .bool true]) (by simp [results, Try.results39, go_sem]) rfl HX.out
end Go.Proofs.Ytnchefajiedjiaa.AL
