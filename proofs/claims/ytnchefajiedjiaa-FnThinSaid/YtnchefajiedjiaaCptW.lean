/-
  The library's compact, and the program's join.
-/
import Derived.Test.YtnchefajiedjiaaSortW
import Derived.Test.YtnchefajiedjiaaThinPlain
namespace Go.Proofs.Ytnchefajiedjiaa.AL
open Go Go.RowKit Go.Proofs
set_option linter.unusedVariables false

/-- Equal ones once, in place. -/
def CptPost (A : Option Addr) (c : Nat) (ys : List Sample) (F : Foot) (w : World) (e : Ending) (w' : World) : Prop :=
  ∃ G, e = .returned (.slice A (cptTo ys ys.length).length c) ∧ KS w' A (cptTo ys ys.length) G ∧ (∀ k ∈ G, k ∈ F) ∧ Turns F w w'

set_option maxRecDepth 100000 in
set_option maxHeartbeats 4000000 in
theorem compact_calls {A : Option Addr} {c : Nat} {ys : List Sample} {F : Foot} (w : World) (h : KS w A ys F) (hm : ys.length ≤ c) (hc : c ≤ maxLen) (hn : ys.length ≤ 1000) :
    Calls Try.prog 75 #[.slice A ys.length c] w (CptPost A c ys F w) := by
  obtain ⟨ii, hi, hz0, hz1, hz2⟩ := info_parts info_Sample
  have hc' := hc
  unfold maxLen at hc
  by_cases hl : ys.length < 2
  · have e : cptTo ys ys.length = ys := by
      match ys, hl with
      | [], _ => rfl
      | [y], _ => rfl
    have HX := Lib.hid (show CptPost A c ys F w (.returned (.slice A ys.length c)) w from ⟨F, by rw [e], by rw [e]; exact h, fun k hk => hk, Turns.refl _ _⟩)
    clear h e
    go_enter Try.func75, Try.ntmps75
    go_wp2
    go_ret
    exact HX.out
  · have H := Lib.hid h
    obtain ⟨b, o, rfl⟩ := ks_some h (by omega)
    have hF : F = [b] := by
      rcases h with ⟨h0, _⟩ | ⟨b', o', css, Fs, hA, hF, he, _⟩
      · rw [h0] at hl; simp at hl
      · cases hA; rw [hF, elems_flat he]
    have HFb := Lib.hid hF; clear hF
    clear h
    go_enter Try.func75, Try.ntmps75
    go_wp2
    go_loopw [3] (fun vk wr => ∃ k : Nat, vk = .int .i64 k ∧ 1 ≤ k ∧ k ≤ ys.length ∧ Hid (cptTo ys k = ys.take k) ∧ Q w wr) (fun vk _ => ys.length - (intOf vk).toNat)
    case atStart => exact ⟨1, rfl, Nat.le_refl _, by omega, Lib.hid (cptTo_one (by omega)), Q.refl _⟩
    case round =>
      obtain ⟨k, rfl, hk1, hk2, HC, hq⟩ := hrel
      obtain ⟨m, rfl⟩ : ∃ m, k = m + 1 := ⟨k - 1, by omega⟩
      have KK := Lib.hid (H.out.q hq)
      have i3 : IntKind.i64.wrap ((m : Int) + 1 - 1) = (m : Int) := by rw [show (m : Int) + 1 - 1 = m by omega]; simp [IntKind.wrap, IntKind.bits, IntKind.signed]; omega
      by_cases hlt : m + 1 < ys.length
      · obtain ⟨_, _, hbo, hb1, _, g0, g1⟩ := ks_Sample KK.out (m + 1) hlt
        cases hbo
        obtain ⟨_, _, hbo, _, _, p0, p1⟩ := ks_Sample KK.out m (by omega)
        cases hbo
        by_cases hx : ys[m + 1] = ys[m]
        · rw [hx] at g0 g1
          have HD := Lib.hid (show cptTo ys (m + 1 + 1) = ys.take (m + 1) by rw [cptTo_old hlt hx]; exact HC.out)
          clear hx
          go_wp2_with fail
          go_quiet (fail)
          have KQ := Lib.hid (KK.out.q (Q.drewN _ nq)); have QQ := Lib.hid (hq.trans (Q.drewN _ nq))
          generalize wr.drewN nq = w1 at KQ QQ ⊢
          clear g0 g1 p0 p1 KK hq
          go_wp2
          go_loopw [3, 5] (fun vk vi wr => ∃ (k2 i : Nat) (zs : List Sample), vk = .int .i64 k2 ∧ vi = .int .i64 i ∧ 1 ≤ i ∧ m + 1 + i ≤ ys.length ∧ k2 < m + 1 + i ∧ 1 ≤ k2 ∧ zs.length = ys.length ∧ Hid (zs.take k2 = cptTo ys (m + 1 + i)) ∧ Hid (∀ q, m + i ≤ q → zs[q]? = ys[q]?) ∧ KS wr (some ⟨b, o, none⟩) zs F ∧ Turns F w1 wr) (fun _ vi _ => ys.length - (intOf vi).toNat)
          case atStart => exact ⟨m + 1, 1, ys, rfl, rfl, Nat.le_refl _, by omega, by omega, by omega, rfl, Lib.hid HD.out.symm, Lib.hid fun _ _ => rfl, KQ.out, Turns.refl _ _⟩
          case round =>
            obtain ⟨k2, i, zs, rfl, rfl, hi1, hi2, hk3, hk4, hzl, HT, HZ, hK, hT⟩ := hrel
            obtain ⟨n, rfl⟩ : ∃ n, i = n + 1 := ⟨i - 1, by omega⟩
            have TT := Lib.hid hT; have KZ := Lib.hid hK; clear hT hK
            have i4 : IntKind.i64.wrap ((n : Int) + 1 - 1) = (n : Int) := by rw [show (n : Int) + 1 - 1 = n by omega]; simp [IntKind.wrap, IntKind.bits, IntKind.signed]; omega
            by_cases hlt2 : m + 1 + (n + 1) < ys.length
            · have e1 : zs[m + 1 + (n + 1)]? = ys[m + 1 + (n + 1)]? := HZ.out _ (by omega)
              have e2 : zs[m + 1 + n]? = ys[m + 1 + n]? := HZ.out _ (by omega)
              rw [List.getElem?_eq_getElem (by omega), List.getElem?_eq_getElem (by omega)] at e1 e2
              have e1 := Option.some.inj e1
              have e2 := Option.some.inj e2
              obtain ⟨_, _, hbo, hb2, _, g0, g1⟩ := ks_Sample KZ.out (m + 1 + (n + 1)) (by omega)
              cases hbo
              obtain ⟨_, _, hbo, _, _, p0, p1⟩ := ks_Sample KZ.out (m + 1 + n) (by omega)
              cases hbo
              rw [e1] at g0 g1
              rw [e2] at p0 p1
              clear e1 e2
              have a1 : o + (m + 1 + (n + 1)) * 2 = o + (m + 1) * 2 + (n + 1) * 2 := by omega
              have a2 : o + (m + 1 + n) * 2 = o + (m + 1) * 2 + n * 2 := by omega
              rw [a1] at g0 g1
              rw [a2] at p0 p1
              clear a1 a2
              have bl1 : ((n : Int) + 1) < (ys.length : Int) - ((m : Int) + 1) := by omega
              have bl2 : n + 1 < ys.length - (m + 1) := by omega
              have bl3 : n < ys.length - (m + 1) := by omega
              by_cases hx : ys[m + 1 + (n + 1)] = ys[m + 1 + n]
              · rw [hx] at g0 g1
                have HD2 := Lib.hid (show cptTo ys (m + 1 + (n + 1 + 1)) = cptTo ys (m + 1 + (n + 1)) from cptTo_old (m := m + 1 + n) hlt2 hx)
                clear hx
                go_wp2_with fail
                go_quiet (fail)
                have KZ' := Lib.hid (KZ.out.q (Q.drewN _ nq)); have TZ' := Lib.hid (TT.out.trans (Turns.of_below (F := F) ((Q.drewN _ nq).below _)))
                clear g0 g1 p0 p1 KZ TT
                go_wp2
                go_roundw
                case rel => exact ⟨k2, n + 1 + 1, zs, rfl, by go_num, by omega, by omega, by omega, hk4, hzl, Lib.hid (by rw [HD2.out]; exact HT.out), Lib.hid fun q hq => HZ.out q (by omega), KZ'.out, TZ'.out⟩
                case measure => simp [intOf]; omega
              · have HD2 := Lib.hid (show cptTo ys (m + 1 + (n + 1 + 1)) = cptTo ys (m + 1 + (n + 1)) ++ [ys[m + 1 + (n + 1)]] from cptTo_new (m := m + 1 + n) hlt2 hx)
                have hk5 : k2 < zs.length := by omega
                have hd : ((ys[m + 1 + (n + 1)].T == ys[m + 1 + n].T) = false ∧ (ys[m + 1 + (n + 1)].T != ys[m + 1 + n].T) = true) ∨ (ys[m + 1 + (n + 1)].T = ys[m + 1 + n].T ∧ (ys[m + 1 + (n + 1)].V == ys[m + 1 + n].V) = false ∧ (ys[m + 1 + (n + 1)].V != ys[m + 1 + n].V) = true) := by
                  by_cases hT : ys[m + 1 + (n + 1)].T = ys[m + 1 + n].T
                  · exact .inr ⟨hT, beq_eq_false_iff_ne.2 fun e => hx ((Sample.eq_iff _ _).2 ⟨hT, e⟩), by simp; exact fun e => hx ((Sample.eq_iff _ _).2 ⟨hT, e⟩)⟩
                  · exact .inl ⟨beq_eq_false_iff_ne.2 hT, by simp [hT]⟩
                clear hx
                rcases hd with ⟨d1, d2⟩ | ⟨d0, d1, d2⟩
                all_goals (
                  go_wp2_with fail
                  go_quiet (fail)
                  try clear d0
                  clear d1 d2
                  have KZ' := Lib.hid (KZ.out.q (Q.drewN _ nq)); have TZ' := Lib.hid (TT.out.trans (Turns.of_below (F := F) ((Q.drewN _ nq).below _)))
                  have g0' := (Q.drewN wr nq).cell ⟨b, o + (m + 1) * 2 + (n + 1) * 2, none⟩ |>.trans g0
                  have g1' := (Q.drewN wr nq).cell ⟨b, o + (m + 1) * 2 + (n + 1) * 2 + 1, none⟩ |>.trans g1
                  generalize wr.drewN nq = w5 at KZ' TZ' g0' g1' ⊢
                  obtain ⟨_, _, hbo, hF5, hb5, hat, hset⟩ := ks_set KZ'.out k2 hk5
                  cases hbo
                  obtain ⟨⟨u0, hu0⟩, f0⟩ := hat 0 (by decide)
                  obtain ⟨⟨u1, hu1⟩, f1⟩ := hat 1 (by decide)
                  simp only [Nat.add_zero] at hu0 f0
                  change w5.cell? ⟨b, o + k2 * 2, none⟩ = _ at hu0; change w5.frozen? ⟨b, o + k2 * 2, none⟩ = _ at f0
                  change w5.cell? ⟨b, o + k2 * 2 + 1, none⟩ = _ at hu1; change w5.frozen? ⟨b, o + k2 * 2 + 1, none⟩ = _ at f1
                  have HSET := Lib.hid (hset ys[m + 1 + (n + 1)] _ (kf_Sample_mk w5 ys[m + 1 + (n + 1)]))
                  have T6 := Lib.hid (TZ'.out.trans (show Turns F w5 (setMany w5 b (o + k2 * 2) [.int .i64 ys[m + 1 + (n + 1)].T, .int .i64 ys[m + 1 + (n + 1)].V]) from by rw [HFb.out]; exact setMany_turns _ _ _ _))
                  clear g0 g1 p0 p1 KZ TT hat hset KZ' TZ'
                  go_wp2
                  go_roundw
                  case rel =>
                    refine ⟨k2 + 1, n + 1 + 1, zs.set k2 ys[m + 1 + (n + 1)], by go_num, by go_num, by omega, by omega, by omega, by omega, by simpa using hzl, Lib.hid ?_, Lib.hid ?_, HSET.out, T6.out⟩
                    · rw [take_set_succ _ _ _ hk5, HT.out, HD2.out]
                    · intro q hq
                      rw [List.getElem?_set_ne (by omega)]
                      exact HZ.out q (by omega)
                  case measure => simp [intOf]; omega)
            · have hnl : m + 1 + (n + 1) = ys.length := by omega
              have hcs : zs.take k2 = cptTo ys ys.length := by have := HT.out; rwa [hnl] at this
              have hil : (cptTo ys ys.length).length = k2 := by rw [← hcs]; simp; omega
              have bl1 : ¬ ((n : Int) + 1) < (ys.length : Int) - ((m : Int) + 1) := by omega
              have hi2 : k2 < zs.length := by omega
              have hcell : ∀ q, q < (ys.length - k2) * 2 → (wr.cell? ⟨b, o + k2 * 2 + q, none⟩).isSome = true ∧ wr.frozen? ⟨b, o + k2 * 2 + q, none⟩ = false := by
                intro q hq
                obtain ⟨_, _, hbo, _, _, hat, _⟩ := ks_set KZ.out (k2 + q / 2) (by omega)
                cases hbo
                obtain ⟨⟨u, hu⟩, f⟩ := hat (q % 2) (Nat.mod_lt _ (by decide))
                change wr.cell? ⟨b, o + (k2 + q / 2) * 2 + q % 2, none⟩ = _ at hu
                change wr.frozen? ⟨b, o + (k2 + q / 2) * 2 + q % 2, none⟩ = _ at f
                rw [show o + (k2 + q / 2) * 2 + q % 2 = o + k2 * 2 + q by omega] at hu f
                exact ⟨by rw [hu]; rfl, f⟩
              have hcl : ∀ ty, (Builtin.clear_ #[25] ty #[.slice (some ⟨b, o + k2 * 2, none⟩) (ys.length - k2) (c - k2)]).run Try.prog wr = .ok (.tuple #[]) (setMany wr b (o + k2 * 2) (Builtin.zeroCells #[.int .i64 0, .int .i64 0] (ys.length - k2)).toList) := fun ty =>
                run_clear_many wr 25 36 ty (.agg #[.int .i64 0, .int .i64 0]) Try.underlying25 Try.zeroValue36 (by intro v hv; simp [Value.cells] at hv; rcases hv with rfl | rfl <;> rfl) b (o + k2 * 2) (ys.length - k2) (c - k2) (by omega) (fun j hj => (hcell j hj).1) (fun j hj => (hcell j hj).2)
              obtain ⟨G, hG, hk6⟩ := ks_take KZ.out k2
              have hvl : (Builtin.zeroCells (#[.int .i64 0, .int .i64 0] : Array Value) (ys.length - k2)).toList.length = (ys.length - k2) * 2 := by simp [Builtin.zeroCells]
              have HX := Lib.hid (show CptPost (some ⟨b, o, none⟩) c ys F w (.returned (.slice (some ⟨b, o, none⟩) k2 c)) (setMany wr b (o + k2 * 2) (Builtin.zeroCells #[.int .i64 0, .int .i64 0] (ys.length - k2)).toList) from by
                refine ⟨G, by rw [hil], ?_, hG, ((Turns.of_below (F := F) (QQ.out.below _)).trans TT.out).trans (by rw [HFb.out]; exact setMany_turns _ _ _ _)⟩
                rw [← hcs]
                refine ks_cells' hk6 (by rw [size_setMany]; exact Nat.le_refl _) (fun q hq => ?_) (fun q => frozen?_setMany _ _ _ _)
                have hq' : q < k2 * 2 := by
                  have : (zs.take k2).length = k2 := by simp; omega
                  rw [this] at hq; exact hq
                rw [cell?_setMany _ _ _ _ (fun r hr => by rw [hvl] at hr; have := (hcell r hr).1; exact Option.isSome_iff_exists.1 this), dif_neg (by omega)])
              clear hcell hk6 KZ TT
              go_wp2
              go_ret
              exact HX.out
        · have hd : ((ys[m + 1].T == ys[m].T) = false ∧ (ys[m + 1].T != ys[m].T) = true) ∨ (ys[m + 1].T = ys[m].T ∧ (ys[m + 1].V == ys[m].V) = false ∧ (ys[m + 1].V != ys[m].V) = true) := by
            by_cases hT : ys[m + 1].T = ys[m].T
            · exact .inr ⟨hT, beq_eq_false_iff_ne.2 fun e => hx ((Sample.eq_iff _ _).2 ⟨hT, e⟩), by simp; exact fun e => hx ((Sample.eq_iff _ _).2 ⟨hT, e⟩)⟩
            · exact .inl ⟨beq_eq_false_iff_ne.2 hT, by simp [hT]⟩
          have HD := Lib.hid (show cptTo ys (m + 1 + 1) = ys.take (m + 1 + 1) by rw [cptTo_new hlt hx, HC.out, List.take_add_one (i := m + 1), List.getElem?_eq_getElem hlt]; rfl)
          clear hx
          rcases hd with ⟨d1, d2⟩ | ⟨d0, d1, d2⟩
          all_goals (
            go_wp2_with fail
            go_quiet (fail)
            try clear d0
            clear d1 d2
            go_wp2
            go_roundw
            case rel => exact ⟨m + 1 + 1, by go_num, by omega, by omega, HD, hq.trans (Q.drewN _ _)⟩
            case measure => simp [intOf]; omega)
      · have hml : m + 1 = ys.length := by omega
        have e : cptTo ys ys.length = ys := by have := HC.out; rw [hml, List.take_length] at this; exact this
        have HX := Lib.hid (show CptPost (some ⟨b, o, none⟩) c ys F w (.returned (.slice (some ⟨b, o, none⟩) ys.length c)) wr from ⟨F, by rw [e], by rw [e]; exact KK.out, fun k hk => hk, Turns.of_below (hq.below _)⟩)
        clear KK e
        go_wp2
        go_ret
        exact HX.out
end Go.Proofs.Ytnchefajiedjiaa.AL
