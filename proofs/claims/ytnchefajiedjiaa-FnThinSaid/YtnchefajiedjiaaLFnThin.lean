/-
  FnThin, walked.
-/
import Derived.Test.YtnchefajiedjiaaJoinF
import Derived.Test.YtnchefajiedjiaaDrawW
namespace Go.Proofs.Ytnchefajiedjiaa.AL
open Go Go.RowKit Go.Proofs
set_option linter.unusedVariables false

/-- Samples and a step. -/
def DrawTPost (w : World) (e : Ending) (w' : World) : Prop := ∃ (v : Value) (xs : List Sample) (st : Int), e = .returned (.tuple #[v, .int .i64 st]) ∧ -1 ≤ st ∧ st ≤ 100 ∧ Fresh w' w.heap.size 9 v xs ∧ Below w.heap.size w w'
theorem drawThin_calls {A : Option Addr} {c : Nat} {cs : List UInt8} {F : Foot} (w : World) (h : KS w A cs F) (hm : cs.length ≤ c) (hc : c ≤ maxLen) :
    Calls Try.prog 37 #[.slice A cs.length c] w (DrawTPost w) := by
  have P1 := Lib.hid (l1Open_calls w h hm hc); clear h
  go_enter Try.func37, Try.ntmps37
  go_wp2_with fail
  refine P1.out.mono ?_
  rintro e w1 ⟨a, rfl, r1, b1, ha⟩
  clear P1
  have hs1 := b1.size
  have haw := r1.at
  obtain ⟨B, hB⟩ : ∃ B, B = w1.heap.size := ⟨_, rfl⟩
  rw [← hB] at r1 haw
  have hB1 : B ≤ w1.heap.size := by omega
  have P2 := Lib.hid (l13AnySamples_calls 9 w1 r1 (by omega) (by omega) (by omega)); clear r1
  have T1 := Lib.hid b1; clear b1
  go_wp2_with fail
  refine P2.out.mono ?_
  rintro e w2 ⟨_, xs, p2, rfl, ⟨A1, c1, F1, rfl, x1, x2, x3, k2, k2'⟩, _, q2, r2, t2, sb⟩
  clear P2
  have hB2 := Nat.le_trans hB1 t2.size
  have hF := Lib.hid (show ∀ k ∈ F1, k ∉ [a] from fun k hk => by have := k2' k hk; simp; omega)
  have hL := Lib.hid (show ∀ k ∈ F1, w.heap.size ≤ k from fun k hk => by have := k2' k hk; omega)
  have B2 := Lib.hid (T1.out.trans (t2.below (B := w.heap.size) (by simpa using ha) hs1)); clear T1 t2 sb
  have K2 := Lib.hid k2; clear k2 k2'
  go_wp2_with fail
  refine (one_lit [1, 10, 60, 100, 0, -1] w2 r2 hB2 (by omega) (by simp) (by simp)).mono ?_
  rintro e w3 ⟨st, rfl, hv, r3, t3⟩
  have hst : -1 ≤ st ∧ st ≤ 100 := by simp only [List.mem_cons, List.not_mem_nil, or_false] at hv; omega
  have HX := Lib.hid (show DrawTPost w (.returned (.tuple #[.slice A1 xs.length c1, .int .i64 st])) w3 from ⟨_, xs, st, rfl, hst.1, hst.2, ⟨A1, c1, F1, rfl, x1, x2, x3, t3.ks K2.out hF.out, hL.out⟩, B2.out.trans (t3.below (B := w.heap.size) (by simpa using ha) B2.out.size)⟩)
  clear r2 r3 t3 K2 B2 hv
  go_wp2
  exact bodyPost_ret (v := .tuple #[.slice A1 xs.length c1, .int .i64 st]) (by simp [results, Try.results37, go_sem]) rfl HX.out

theorem implThin_nil {A : Option Addr} {c : Nat} (st : Int) (w : World) (hc : c ≤ maxLen) (h1 : 1 ≤ st) (h2 : st ≤ 9999) :
    Calls Try.prog 18 #[.slice A 0 c, .int .i64 st] w fun e w' => e = .returned (.slice none 0 0) ∧ Below w.heap.size w w' := by
  have hok : SamOk [] := fun i hi => by simp at hi
  have et : samOk [] = true := samOk_true hok
  have es : stepB st = true := by simp [stepB, h1, h2]
  have P0 := samplesOk_calls w (ks_nil (α := Sample) w A) (Nat.zero_le c) hc
  rw [et] at P0
  have P0 := Lib.hid P0
  clear hok et
  go_enter Try.func18, Try.ntmps18
  go_wp2_with (first | (go_at_call 42; refine P0.out.mono ?_; rintro e w1 ⟨rfl, hb1⟩) | (go_at_call 45; refine (stepOk_calls _ _).mono ?_; rintro e w2 ⟨rfl, rfl⟩))
  go_loopw [5, 18] (fun v i wr => v = .slice none 0 0 ∧ i = .int .i64 0 ∧ Below w.heap.size w wr) (fun _ _ _ => 0)
  case atStart => exact ⟨rfl, rfl, hb1⟩
  case round =>
    obtain ⟨rfl, rfl, hb⟩ := hrel
    go_wp2
    go_ret
    exact ⟨rfl, hb⟩

set_option maxRecDepth 100000 in
set_option maxHeartbeats 1000000 in
theorem fnThin_calls {A : Option Addr} {c : Nat} {cs : List UInt8} {F : Foot} (w : World) (h : KS w A cs F) (hm : cs.length ≤ c) (hc : c ≤ maxLen) :
    Calls Try.prog 11 #[.slice A cs.length c] w fun e w' => e = .returned (.bool true) ∧ Below w.heap.size w w' := by
  have n1 := hc
  unfold maxLen at n1
  by_cases hs : cs.length ≤ 1048576
  · have P1 := Lib.hid (drawThin_calls w h hm hc); clear h
    go_enter Try.func11, Try.ntmps11
    go_wp2_with fail
    refine P1.out.mono ?_
    rintro e w1 ⟨_, xs, st, rfl, st1, st2, ⟨A1, c1, F1, rfl, x1, x2, x3, k1, _⟩, b1⟩
    clear P1
    have K1 := Lib.hid k1; have B1 := Lib.hid b1; clear k1 b1
    have P2 := Lib.hid (implThin_calls st w1 K1.out x2 x3)
    go_wp2_with fail
    refine P2.out.mono ?_
    rintro e w2 ⟨v2, rfl, o2, b2⟩
    clear P2
    obtain ⟨A2, c2, F2, hv2, y2, y3, k2, _⟩ := o2.out (by simp)
    have K2 := Lib.hid (K1.out.below b2); have B2 := Lib.hid (B1.out.trans (b2.mono B1.out.size)); have KT := Lib.hid k2; clear K1 B1 k2 b2 o2
    have P3 := Lib.hid (specThin_calls st w2 K2.out x2 x3)
    obtain ⟨ts, hts⟩ : ∃ ts, ts = thinL xs st := ⟨_, rfl⟩
    rw [← hts] at hv2 y2 KT P3
    have HTS := Lib.hid hts; clear hts
    cases hv2
    go_wp2_with fail
    refine P3.out.mono ?_
    rintro e w3 ⟨v3, rfl, o3, b3⟩
    clear P3
    obtain ⟨A3, c3, F3, hv3, z2, z3, k3, _⟩ := o3.out (by simp)
    cases hv3
    have K3 := Lib.hid (K2.out.below b3); have B3 := Lib.hid (B2.out.trans (b3.mono B2.out.size)); have KT3 := Lib.hid (KT.out.below b3); clear K2 B2 KT b3 o3
    have P4 := Lib.hid (alSamples_calls w3 KT3.out y2 y3 k3 z2 z3); clear k3
    have et : decide (ts = ts) = true := by simp
    go_wp2_with fail
    refine P4.out.mono ?_
    rintro e w4 ⟨rfl, q4⟩
    clear P4
    have K4 := Lib.hid (K3.out.q q4); have B4 := Lib.hid (B3.out.trans ((q4.below _).mono B3.out.size)); have KT4 := Lib.hid (KT3.out.q q4); clear K3 B3 KT3 q4
    have P5 := Lib.hid (specSamplesOk_calls w4 K4.out x2 x3)
    have x4 := x3; have y4 := y3
    unfold maxLen at x4 y4
    go_wp2_with fail
    refine P5.out.mono ?_
    rintro e w5 ⟨rfl, q5⟩
    clear P5
    have K5 := Lib.hid (K4.out.q q5); have B5 := Lib.hid (B4.out.trans ((q5.below _).mono B4.out.size)); have KT5 := Lib.hid (KT4.out.q q5); clear K4 B4 KT4 q5
    have P6 := Lib.hid (specThin_calls st w5 K5.out x2 x3)
    by_cases hok : SamOk xs ∧ 1 ≤ st
    · obtain ⟨hok, hst1⟩ := hok
      have eo : samOk xs = true := samOk_true hok
      have HCUT := Lib.hid (fun y hy => thin_cut hok hst1 (show st ≤ 9999 by omega) y hy)
      obtain ⟨f1, f2, f3, f4, f5⟩ := thin_facts hok hst1 (show st ≤ 9999 by omega) HTS.out
      have HOK := Lib.hid hok; have HOT := Lib.hid f1; have HID := Lib.hid f2; have HSUB := Lib.hid f3; have HLAST := Lib.hid f5; have HLEN := Lib.hid (And.intro f4 x1); clear hok f1 f2 f3 f4 f5 P6
      go_wp2
      go_loopw [6, 7, 8] (fun vi _ _ wr => ∃ k : Nat, k ≤ ts.length ∧ vi = .int .i64 k ∧ Below w5.heap.size w5 wr) (fun vi _ _ _ => ts.length - (intOf vi).toNat)
      case atStart => exact ⟨0, Nat.zero_le _, rfl, Below.refl _ _⟩
      case round =>
        obtain ⟨k, hk, rfl, hb⟩ := hrel
        by_cases hlt : k < ts.length
        · obtain ⟨b, o, rfl, hbk, _, g0, g1⟩ := ks_Sample (KT5.out.below hb) k hlt
          obtain ⟨_, t1, t2, _, _, _⟩ := HOT.out k hlt
          have hmem : ts[k] ∈ thinL xs st := by have := HTS.out; subst this; exact List.getElem_mem hlt
          have hx : ∀ low, low = ts[k].T / st * st → ∃ h3 : 0 < (cutS xs low (low + st)).length, (cutS xs low (low + st))[(cutS xs low (low + st)).length - 1]'(by omega) = ts[k] := fun low e => by subst e; exact HCUT.out _ hmem
          have q0 : 0 ≤ ts[k].T / st := Int.ediv_nonneg t1 (by omega)
          have q1 : ts[k].T / st * st ≤ ts[k].T := Int.ediv_mul_le _ (by omega)
          have q2 : 0 ≤ ts[k].T / st * st := Int.mul_nonneg q0 (by omega)
          have q3 : ts[k].T / st ≤ ts[k].T := Int.le_trans (by have : ts[k].T / st * 1 ≤ ts[k].T / st * st := Int.mul_le_mul_of_nonneg_left (by omega) q0; omega) q1
          obtain ⟨low, hlow⟩ : ∃ low, low = ts[k].T / st * st := ⟨_, rfl⟩
          obtain ⟨h3, h4⟩ := hx low hlow
          rw [← hlow] at q1 q2
          have hlow' : ts[k].T / st * st = low := hlow.symm
          have q4 : IntKind.i64.wrap low = low := by simp [IntKind.wrap, IntKind.bits, IntKind.signed]; omega
          have P7 := Lib.hid (implSamplesCut_calls low (low + st) wr (K5.out.below hb) x2 x3 HOK.out)
          have HH := Lib.hid h4
          clear hx h4 hlow hmem
          go_wp2_with fail
          refine P7.out.mono ?_
          rintro e w6 ⟨_, rfl, ⟨A6, c6, F6, rfl, u1, u2, u3, k6, _⟩, b6⟩
          clear P7
          have u4 := u3
          unfold maxLen at u4
          have hb6 := hb.trans (b6.mono hb.size)
          obtain ⟨b', o', rfl, hbk', _, g0', g1'⟩ := ks_Sample k6 ((cutS xs low (low + st)).length - 1) (by omega)
          have h4 := HH.out
          rw [h4] at g0' g1'
          have m0 := (b6.cell (p := ⟨b, o + k * 2, none⟩) hbk).trans g0
          have m1 := (b6.cell (p := ⟨b, o + k * 2 + 1, none⟩) hbk).trans g1
          have hbk6 : b < w6.heap.size := by have := b6.size; omega
          clear h4 HH k6 b6 g0 g1 hlow'
          generalize (cutS xs low (low + st)).length = n at *
          obtain ⟨m, rfl⟩ : ∃ m, n = m + 1 := ⟨n - 1, by omega⟩
          simp only [Nat.add_sub_cancel] at g0' g1'
          have i3 : IntKind.i64.wrap ((m : Int) + 1 - 1) = (m : Int) := by rw [show (m : Int) + 1 - 1 = m by omega]; simp [IntKind.wrap, IntKind.bits, IntKind.signed]; omega
          have i4 : (((m : Int) + 1) == 0) = false := beq_eq_false_iff_ne.2 (by omega)
          go_wp2_with fail
          go_quiet (fail)
          go_wp2
          go_roundw
          case rel => exact ⟨k + 1, hlt, by go_num, hb6.trans (((Q.drewN _ _).below _).mono hb6.size)⟩
          case measure => simp [intOf]; omega
        · obtain rfl : k = ts.length := by omega
          have hsum : xs.length + ts.length ≤ 19 := by have := HLEN.out; omega
          have P7 := Lib.hid (implSamplesJoin_calls wr (K5.out.below hb) x2 x3 (KT5.out.below hb) y2 y3 hsum HOK.out HOT.out HSUB.out)
          go_wp2_with fail
          refine P7.out.mono ?_
          rintro e w6 ⟨_, rfl, ⟨A6, c6, F6, rfl, u1, u2, u3, k6, _⟩, b6⟩
          clear P7
          have hb6 := hb.trans (b6.mono hb.size)
          have K6 := Lib.hid (K5.out.below hb6); have KT6 := Lib.hid (KT5.out.below hb6); have B6 := Lib.hid (B5.out.trans (hb6.mono B5.out.size)); have KJ := Lib.hid k6
          clear k6 b6 hb hb6 K5 KT5 B5 HCUT
          have u4 := u3
          unfold maxLen at u4
          have ex : decide (xs = xs) = true := by simp
          have FIN := Lib.hid (fun (w9 : World) (b9 : Below w6.heap.size w6 w9) => show (Ending.returned (.bool true) = .returned (.bool true)) ∧ Below w.heap.size w w9 from ⟨rfl, B6.out.trans (b9.mono B6.out.size)⟩)
          have PA := Lib.hid (alSamples_calls w6.drew (KJ.out.q (Q.drew _)) u2 u3 (K6.out.q (Q.drew _)) x2 x3)
          have PB := Lib.hid (fun (W : World) (hW : Below w6.heap.size w6 W) => implThin_calls st W (KT6.out.below hW) y2 y3)
          rw [HID.out] at PB
          have PC := Lib.hid (fun (W : World) (v : Value) (base : Nat) (hW : Below w6.heap.size w6 W) (o : Own W base 36 v ts []) => show ∃ A8 c8 F8, v = .slice A8 ts.length c8 ∧ Calls Try.prog 38 #[.slice A8 ts.length c8, .slice A2 ts.length c2] W fun e w' => e = .returned (.bool (decide (ts = ts))) ∧ Q W w' by
            obtain ⟨A8, c8, F8, hv, h1, h2, k8, _⟩ := o.out (by simp)
            exact ⟨A8, c8, F8, hv, alSamples_calls W k8 h1 h2 (KT6.out.below hW) y2 y3⟩)
          clear KJ
          by_cases h0 : 0 < xs.length
          · obtain ⟨h3, h4⟩ := HLAST.out h0
            have exl : ((xs.length : Int) == 0) = false := beq_eq_false_iff_ne.2 (by omega)
            have etl : decide ((0 : Int) < (ts.length : Int)) = true := by simp; omega
            have etl2 : decide (0 < ts.length) = true := by simp; omega
            have tpos : 0 < ts.length := h3
            have tpos' : (0 : Int) < (ts.length : Int) := by omega
            obtain ⟨px, hpx⟩ : ∃ px, xs.length = px + 1 := ⟨xs.length - 1, by omega⟩
            obtain ⟨pt, hpt⟩ : ∃ pt, ts.length = pt + 1 := ⟨ts.length - 1, by omega⟩
            have lx : px < xs.length := by omega
            have lt' : pt < ts.length := by omega
            have heq : ts[pt] = xs[px] := by
              have e1 : xs.length - 1 = px := by omega
              have e2 : ts.length - 1 = pt := by omega
              subst e1; subst e2; exact h4
            obtain ⟨bx, ox, rfl, hbx, _, g0, g1⟩ := ks_Sample K6.out px lx
            obtain ⟨bt, ot, rfl, hbt, _, p0, p1⟩ := ks_Sample KT6.out pt lt'
            rw [heq] at p0 p1
            generalize xs[px].T = XT at *
            generalize xs[px].V = XV at *
            have i3 : IntKind.i64.wrap ((px : Int) + 1 - 1) = (px : Int) := by rw [show (px : Int) + 1 - 1 = px by omega]; simp [IntKind.wrap, IntKind.bits, IntKind.signed]; omega
            have i4 : IntKind.i64.wrap ((pt : Int) + 1 - 1) = (pt : Int) := by rw [show (pt : Int) + 1 - 1 = pt by omega]; simp [IntKind.wrap, IntKind.bits, IntKind.signed]; omega
            have i5 : (px : Int) + 1 - 1 = px := by omega
            have i6 : (pt : Int) + 1 - 1 = pt := by omega
            have i7 : (0 : Int) ≤ (px : Int) := by omega
            have i8 : (0 : Int) ≤ (pt : Int) := by omega
            have i9 : (px : Int) < (px : Int) + 1 := by omega
            have i10 : (pt : Int) < (pt : Int) + 1 := by omega
            have e9 : (((px : Int) + 1) == 0) = false := beq_eq_false_iff_ne.2 (by omega)
            have e10 : decide ((0 : Int) < (pt : Int) + 1) = true := decide_eq_true (by omega)
            have i11 : IntKind.i64.wrap (px : Int) = (px : Int) := by simp [IntKind.wrap, IntKind.bits, IntKind.signed]; omega
            have i12 : IntKind.i64.wrap (pt : Int) = (pt : Int) := by simp [IntKind.wrap, IntKind.bits, IntKind.signed]; omega
            simp only [hpx] at PA
            simp only [hpt] at PB PC
            clear heq h3 h4 K6 KT6 lx lt' exl etl etl2 tpos tpos'
            go_wp2_with fail
            go_region_held3 (fun w' => w'.cell? ⟨bx, ox + px * 2, none⟩ = some (.int .i64 XT) ∧ w'.cell? ⟨bx, ox + px * 2 + 1, none⟩ = some (.int .i64 XV) ∧ w'.cell? ⟨bt, ot + pt * 2, none⟩ = some (.int .i64 XT) ∧ w'.cell? ⟨bt, ot + pt * 2 + 1, none⟩ = some (.int .i64 XV)) (refine ⟨?_, ?_, ?_, ?_⟩ <;> (first | (with_reducible assumption) | go_keep))
              (first | (go_at_call 38; with_reducible refine PA.out.mono ?_; rintro e w7 ⟨rfl, q7⟩; have b7 := ((Q.drew w6).below w6.heap.size).trans (q7.below w6.heap.size); have m0 := (b7.cell (p := ⟨bx, ox + px * 2, none⟩) hbx).trans g0; have m1 := (b7.cell (p := ⟨bx, ox + px * 2 + 1, none⟩) hbx).trans g1; have m2 := (b7.cell (p := ⟨bt, ot + pt * 2, none⟩) hbt).trans p0; have m3 := (b7.cell (p := ⟨bt, ot + pt * 2 + 1, none⟩) hbt).trans p1) | (go_at_call 18; with_reducible refine (PB.out _ b7).mono ?_; rintro e w8 ⟨v8, rfl, o8, b8'⟩; have b8 := b7.trans (b8'.mono b7.size); obtain ⟨A8, c8, F8, hv8, PD⟩ := PC.out w8 v8 _ b8 o8; cases hv8; clear m0 m1 m2 m3; have m0 := (b8.cell (p := ⟨bx, ox + px * 2, none⟩) hbx).trans g0; have m1 := (b8.cell (p := ⟨bx, ox + px * 2 + 1, none⟩) hbx).trans g1; have m2 := (b8.cell (p := ⟨bt, ot + pt * 2, none⟩) hbt).trans p0; have m3 := (b8.cell (p := ⟨bt, ot + pt * 2 + 1, none⟩) hbt).trans p1) | (go_at_call 38; with_reducible refine PD.mono ?_; rintro e w9 ⟨rfl, q9⟩; have b9 := b8.trans ((q9.below _).mono b8.size); clear m0 m1 m2 m3; have m0 := (b9.cell (p := ⟨bx, ox + px * 2, none⟩) hbx).trans g0; have m1 := (b9.cell (p := ⟨bx, ox + px * 2 + 1, none⟩) hbx).trans g1; have m2 := (b9.cell (p := ⟨bt, ot + pt * 2, none⟩) hbt).trans p0; have m3 := (b9.cell (p := ⟨bt, ot + pt * 2 + 1, none⟩) hbt).trans p1))
            all_goals (
              rename_i hHH
              clear hHH
              have fin := FIN.out _ b9
              have HFIN := Lib.hid fin.2
              clear fin
              go_wp2
              go_ret
              exact ⟨rfl, HFIN.out⟩)
          · have hxe : xs = [] := List.eq_nil_of_length_eq_zero (by omega)
            have hte : ts = [] := List.eq_nil_of_length_eq_zero (by have := HLEN.out; omega)
            subst hxe; subst hte
            have Q1 := Lib.hid (fun u => alSamples_calls (over w6 u) (c := c6) (c' := c1) (ks_nil (α := Sample) (over w6 u) A6) (Nat.zero_le _) u3 (ks_nil (α := Sample) (over w6 u) A1) (Nat.zero_le _) x3)
            have Q2 := Lib.hid (fun u => implThin_nil (A := A2) (c := c2) st (over w6 u) y3 hst1 (by omega))
            have Q3 := Lib.hid (fun u => alSamples_calls (over w6 u) (c := 0) (c' := c2) (ks_nil (α := Sample) (over w6 u) none) (Nat.zero_le _) (Nat.zero_le _) (ks_nil (α := Sample) (over w6 u) A2) (Nat.zero_le _) y3)
            simp only [List.length_nil] at Q1 Q3
            clear K6 KT6 h0 PA PB PC
            go_wp2_with fail
            refine wp_region_over (by kernel_rfl) (by kernel_rfl) ?_
            repeat (go_big_quiet_step ((first | (go_at_call 38; with_reducible exact quiet_over_q (Q1.out _)) | (go_at_call 18; with_reducible exact quiet_over (Q2.out _)) | (go_at_call 38; with_reducible exact quiet_over_q (Q3.out _)))))
            refine wpQuiet_nil ?_
            rintro _ ⟨u, rfl⟩
            have HFIN := Lib.hid (FIN.out _ (over_below w6 u)).2
            go_wp2
            go_ret
            exact ⟨rfl, HFIN.out⟩
    · have rest : ∀ (w6 : World) (v6 : Value), Own w6 w5.heap.size 36 v6 ts [] → Below w5.heap.size w5 w6 → ∃ A6 c6 F6, v6 = .slice A6 ts.length c6 ∧ ts.length ≤ c6 ∧ c6 ≤ maxLen ∧ Hid (KS w6 A6 ts F6) ∧ Hid (Below w.heap.size w w6) ∧ Hid (KS w6 A2 ts F2) := fun w6 v6 o b => by
        obtain ⟨A6, c6, F6, hv, h1, h2, k, _⟩ := o.out (by simp)
        exact ⟨A6, c6, F6, hv, h1, h2, Lib.hid k, Lib.hid (B5.out.trans (b.mono B5.out.size)), Lib.hid (KT5.out.below b)⟩
      have RS := Lib.hid rest; clear rest
      rw [← HTS.out] at P6
      by_cases h1 : SamOk xs
      · have eo : samOk xs = true := samOk_true h1
        have hst0 : st < 1 := Int.not_le.1 fun h => hok ⟨h1, h⟩
        go_wp2_with fail
        refine P6.out.mono ?_
        rintro e w6 ⟨v6, rfl, o6, b6⟩
        obtain ⟨A6, c6, F6, hv6, h3, h4, k6, HBB, KT6⟩ := RS.out w6 v6 o6 b6
        cases hv6
        clear o6 b6 P6 RS
        have P7 := Lib.hid (alSamples_calls w6 KT6.out y2 y3 k6.out h3 h4)
        go_wp2_with fail
        refine P7.out.mono ?_
        rintro e w7 ⟨rfl, q7⟩
        have HB7 := Lib.hid (HBB.out.trans ((q7.below _).mono HBB.out.size))
        clear q7 P7 KT6 k6 HBB
        go_wp2
        go_ret
        exact ⟨rfl, HB7.out⟩
      · have eo : samOk xs = false := by simp [samOk, h1]
        go_wp2_with fail
        refine P6.out.mono ?_
        rintro e w6 ⟨v6, rfl, o6, b6⟩
        obtain ⟨A6, c6, F6, hv6, h3, h4, k6, HBB, KT6⟩ := RS.out w6 v6 o6 b6
        cases hv6
        clear o6 b6 P6 RS
        have P7 := Lib.hid (alSamples_calls w6 KT6.out y2 y3 k6.out h3 h4)
        go_wp2_with fail
        refine P7.out.mono ?_
        rintro e w7 ⟨rfl, q7⟩
        have HB7 := Lib.hid (HBB.out.trans ((q7.below _).mono HBB.out.size))
        clear q7 P7 KT6 k6 HBB
        go_wp2
        go_ret
        exact ⟨rfl, HB7.out⟩
  · clear h
    go_enter Try.func11, Try.ntmps11
    go_wp2
    go_ret
    exact ⟨rfl, Below.refl _ _⟩
end Go.Proofs.Ytnchefajiedjiaa.AL
