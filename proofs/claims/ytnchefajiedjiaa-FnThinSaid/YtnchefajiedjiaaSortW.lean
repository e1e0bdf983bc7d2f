/-
  The library's stable sort of few samples, by time.
-/
import Derived.Test.YtnchefajiedjiaaJoinW
namespace Go.Proofs.Ytnchefajiedjiaa.AL
open Go Go.RowKit Go.Proofs
set_option linter.unusedVariables false

def TimeOk (zs : List Sample) : Prop := ∀ x ∈ zs, 0 ≤ x.T ∧ x.T ≤ 9999
theorem cmpTime_calls (x y : Sample) (w : World) (hx : 0 ≤ x.T ∧ x.T ≤ 9999) (hy : 0 ≤ y.T ∧ y.T ≤ 9999) :
    Calls Try.prog 74 #[.agg #[.int .i64 x.T, .int .i64 x.V], .agg #[.int .i64 y.T, .int .i64 y.V]] w fun e w' => e = .returned (.int .i64 (x.T - y.T)) ∧ Below w.heap.size w w' := by
  obtain ⟨h1, h2⟩ := hx
  obtain ⟨h3, h4⟩ := hy
  go_enter Try.func74, Try.ntmps74
  go_wp2
  go_ret
  exact ⟨rfl, (by repeat' (first | (with_reducible first | assumption | exact Below.refl _ _ | apply Below.drew | apply Below.alloc | apply Below.setCell) | (simp; done) | (simp; omega)))⟩

/-- Sorted in place. -/
def SortedPost (A : Option Addr) (ys : List Sample) (F : Foot) (w : World) (e : Ending) (w' : World) : Prop :=
  e = .returned (.tuple #[]) ∧ ∃ zs : List Sample, zs.Perm ys ∧ SortTo zs zs.length ∧ KS w' A zs F ∧ Turns F w w'

set_option maxRecDepth 100000 in
set_option maxHeartbeats 4000000 in
theorem insertion_calls {A : Option Addr} {c : Nat} {ys : List Sample} {F : Foot} (w : World) (h : KS w A ys F) (hm : ys.length ≤ c) (hc : c ≤ maxLen) (hn : ys.length ≤ 1000) (ht : TimeOk ys) :
    Calls Try.prog 80 #[.slice A ys.length c, .int .i64 0, .int .i64 ys.length, .func (.func 74) #[] #[]] w (SortedPost A ys F w) := by
  unfold maxLen at hc
  have H := Lib.hid h; have HTm := Lib.hid ht; clear h ht
  go_enter Try.func80, Try.ntmps80
  go_wp2
  go_loopw [8, 9] (fun vi _ wr => ∃ (k : Nat) (zs : List Sample), vi = .int .i64 k ∧ 1 ≤ k ∧ (k ≤ ys.length ∨ k = 1) ∧ Hid (zs.Perm ys) ∧ Hid (SortTo zs k) ∧ KS wr A zs F ∧ Turns F w wr) (fun vi _ _ => ys.length + 1 - (intOf vi).toNat)
  case atStart => exact ⟨1, ys, rfl, Nat.le_refl _, .inr rfl, Lib.hid (List.Perm.refl _), Lib.hid (SortTo.one _), H.out, Turns.refl _ _⟩
  case round =>
    obtain ⟨k, zs, rfl, hk1, hk2, HP, HS, hK, hT⟩ := hrel
    have hzl : zs.length = ys.length := HP.out.length_eq
    have HK := Lib.hid hK; have TT := Lib.hid hT; clear hK hT
    by_cases hlt : k < ys.length
    · go_wp2
      go_loopw [9] (fun vj wr => ∃ (j : Nat) (us : List Sample), vj = .int .i64 j ∧ j ≤ k ∧ Hid (us.Perm ys) ∧ Hid (SortEx us j k) ∧ KS wr A us F ∧ Turns F w wr) (fun vj _ => (intOf vj).toNat)
      case atStart => exact ⟨k, zs, rfl, Nat.le_refl _, HP, Lib.hid HS.out.ex, HK.out, TT.out⟩
      case round =>
        obtain ⟨j, us, rfl, hjk, HPu, HSu, hKu, hTu⟩ := hrel
        have hul : us.length = ys.length := HPu.out.length_eq
        by_cases hj : 0 < j
        · obtain ⟨m, rfl⟩ : ∃ m, j = m + 1 := ⟨j - 1, by omega⟩
          have hm1 : m + 1 < us.length := by omega
          have hm0 : m < us.length := by omega
          have lt1 : m + 1 < ys.length := by omega
          have lt0 : m < ys.length := by omega
          obtain ⟨b, o, rfl, hb, _, g0, g1⟩ := ks_Sample hKu (m + 1) hm1
          obtain ⟨_, _, hbo, _, _, p0, p1⟩ := ks_Sample hKu m hm0
          cases hbo
          have KU := Lib.hid hKu; have TU := Lib.hid hTu; clear hKu hTu
          have hx1 := HTm.out us[m + 1] (HPu.out.mem_iff.1 (List.getElem_mem hm1))
          have hx0 := HTm.out us[m] (HPu.out.mem_iff.1 (List.getElem_mem hm0))
          have PC := Lib.hid (fun u => cmpTime_calls us[m + 1] us[m] (over wr u) hx1 hx0)
          obtain ⟨t1, t2⟩ := hx1
          obtain ⟨t3, t4⟩ := hx0
          have i3 : IntKind.i64.wrap ((m : Int) + 1 - 1) = (m : Int) := by rw [show (m : Int) + 1 - 1 = m by omega]; simp [IntKind.wrap, IntKind.bits, IntKind.signed]; omega
          by_cases hcm : us[m + 1].T < us[m].T
          · have ec : decide (us[m + 1].T - us[m].T < 0) = true := by simp; omega
            go_wp2_with fail
            refine wp_region_over (by kernel_rfl) (by kernel_rfl) ?_
            repeat (go_big_quiet_step ((go_at_call 74; exact quiet_over (PC.out _))))
            refine wpQuiet_nil ?_
            rintro _ ⟨u, rfl⟩
            have K4 := KU.out.below (over_below wr u)
            have T4 := TU.out.trans (Turns.of_below (F := F) (over_below wr u))
            obtain ⟨_, _, hbo, _, _, g0', g1'⟩ := ks_Sample K4 (m + 1) hm1
            cases hbo
            obtain ⟨_, _, hbo, _, _, p0', p1'⟩ := ks_Sample K4 m hm0
            cases hbo
            generalize over wr u = w4 at K4 T4 g0' g1' p0' p1' ⊢
            have K5 := K4.q (Q.drew w4)
            have T5 := T4.trans (Turns.of_below (F := F) ((Q.drew w4).below _))
            obtain ⟨_, _, hbo, hF, hb4, hat, hset⟩ := ks_set K5 (m + 1) hm1
            cases hbo
            have f0 := (hat 0 (by decide)).2
            have f1 := (hat 1 (by decide)).2
            obtain ⟨_, _, hbo, _, _, hat', _⟩ := ks_set K5 m hm0
            cases hbo
            have f2 := (hat' 0 (by decide)).2
            have f3 := (hat' 1 (by decide)).2
            simp only [Nat.add_zero] at f0 f2
            change w4.frozen? ⟨b, o + (m + 1) * 2, none⟩ = false at f0
            change w4.frozen? ⟨b, o + (m + 1) * 2 + 1, none⟩ = false at f1
            change w4.frozen? ⟨b, o + m * 2, none⟩ = false at f2
            change w4.frozen? ⟨b, o + m * 2 + 1, none⟩ = false at f3
            have KA := hset us[m] _ (kf_Sample_mk _ us[m])
            have hm0' : m < (us.set (m + 1) us[m]).length := by simpa using hm0
            obtain ⟨_, _, hbo, _, _, _, hset2⟩ := ks_set KA m hm0'
            cases hbo
            have KB := hset2 us[m + 1] _ (kf_Sample_mk _ us[m + 1])
            rw [← swapS_eq hm1] at KB
            have TB : Turns F w4.drew (setMany (setMany w4.drew b (o + (m + 1) * 2) [.int .i64 us[m].T, .int .i64 us[m].V]) b (o + m * 2) [.int .i64 us[m + 1].T, .int .i64 us[m + 1].V]) := by rw [hF]; exact (setMany_turns _ _ _ _).trans (setMany_turns _ _ _ _)
            have KB' := Lib.hid KB; have TB' := Lib.hid (T5.trans TB)
            have HSW := Lib.hid (HSu.out.swap hm1 (by omega) (by rw [tt_get hm1, tt_get hm0]; exact hcm))
            have HPW := Lib.hid ((swapS_perm hm1).trans HPu.out)
            clear KU TU PC K4 T4 K5 T5 hat hat' hset hset2 KA KB TB g0 g1 p0 p1 ec
            go_wp2_with fail
            go_region
            go_wp2
            go_roundw
            case rel => exact ⟨m, swapS us m, by go_num, by omega, HPW, HSW, KB'.out, TB'.out⟩
            case measure => simp [intOf]
          · have ec : decide (us[m + 1].T - us[m].T < 0) = false := by simp; omega
            have HE := Lib.hid (HSu.out.to hjk (fun _ => by rw [Nat.add_sub_cancel, tt_get hm1, tt_get hm0]; omega))
            go_wp2_with fail
            refine wp_region_over (by kernel_rfl) (by kernel_rfl) ?_
            repeat (go_big_quiet_step ((go_at_call 74; exact quiet_over (PC.out _))))
            refine wpQuiet_nil ?_
            rintro _ ⟨u, rfl⟩
            have K4 := Lib.hid (KU.out.below (over_below wr u))
            have T4 := Lib.hid (TU.out.trans (Turns.of_below (F := F) (over_below wr u)))
            generalize over wr u = w4 at K4 T4 ⊢
            clear KU TU PC g0 g1 p0 p1 ec
            go_wp2
            go_roundw
            case rel => exact ⟨k + 1, us, by go_num, by omega, by omega, HPu, HE, K4.out, T4.out⟩
            case measure => simp [intOf]; omega
        · obtain rfl : j = 0 := by omega
          have HE := Lib.hid (HSu.out.to hjk (fun h => absurd h (by omega)))
          have KU := Lib.hid hKu; have TU := Lib.hid hTu; clear hKu hTu
          go_wp2_with fail
          go_quiet (fail)
          go_wp2
          go_roundw
          case rel => exact ⟨k + 1, us, by go_num, by omega, by omega, HPu, HE, KU.out.q (Q.drewN _ _), TU.out.trans (Turns.of_below ((Q.drewN _ _).below _))⟩
          case measure => simp [intOf]; omega
    · have HX := Lib.hid (show SortedPost A ys F w (.returned (.tuple #[])) wr from ⟨rfl, zs, HP.out, fun p q h1 h2 => HS.out p q h1 (by omega), HK.out, TT.out⟩)
      clear HK TT
      go_wp2
      exact bodyPost_ret (v := .tuple #[]) (by simp [results, Try.results80, go_sem]) rfl HX.out

set_option maxRecDepth 100000 in
set_option maxHeartbeats 2000000 in
theorem stable_calls {A : Option Addr} {c : Nat} {ys : List Sample} {F : Foot} (w : World) (h : KS w A ys F) (hm : ys.length ≤ c) (hc : c ≤ maxLen) (hn : ys.length ≤ 19) (ht : TimeOk ys) :
    Calls Try.prog 79 #[.slice A ys.length c, .int .i64 ys.length, .func (.func 74) #[] #[]] w (SortedPost A ys F w) := by
  have P1 := Lib.hid (insertion_calls w h hm hc (by omega) ht)
  unfold maxLen at hc
  clear h ht
  go_enter Try.func79, Try.ntmps79
  go_wp2
  go_loopw [7, 8] (fun va vb wr => va = .int .i64 0 ∧ vb = .int .i64 20 ∧ wr = w) (fun _ _ _ => 0)
  case atStart => exact ⟨rfl, rfl, rfl⟩
  case round =>
    obtain ⟨rfl, rfl, rfl⟩ := hrel
    have hno : ¬ ((20 : Int) ≤ (ys.length : Int)) := by omega
    have hno2 : ¬ ((20 : Int) < (ys.length : Int)) := by omega
    go_wp2_with fail
    refine P1.out.mono ?_
    rintro e w1 ⟨rfl, zs, z1, z2, z3, z4⟩
    have HX := Lib.hid (show SortedPost A ys F wr (.returned (.tuple #[])) w1 from ⟨rfl, zs, z1, z2, z3, z4⟩)
    clear P1 z1 z2 z3 z4
    go_wp2
    go_loopw [6, 7, 8, 9] (fun vb _ _ _ wr' => vb = .int .i64 20 ∧ wr' = w1) (fun _ _ _ _ _ => 0)
    case atStart => exact ⟨rfl, rfl⟩
    case round =>
      obtain ⟨rfl, rfl⟩ := hrel
      go_wp2
      exact bodyPost_ret (v := .tuple #[]) (by simp [results, Try.results79, go_sem]) rfl HX.out
theorem sortStable_calls {A : Option Addr} {c : Nat} {ys : List Sample} {F : Foot} (w : World) (h : KS w A ys F) (hm : ys.length ≤ c) (hc : c ≤ maxLen) (hn : ys.length ≤ 19) (ht : TimeOk ys) :
    Calls Try.prog 73 #[.slice A ys.length c, .func (.func 74) #[] #[]] w (SortedPost A ys F w) := by
  have P1 := Lib.hid (stable_calls w h hm hc hn ht)
  unfold maxLen at hc
  clear h ht
  go_enter Try.func73, Try.ntmps73
  go_wp2_with fail
  refine P1.out.mono ?_
  rintro e w1 ⟨rfl, zs, z1, z2, z3, z4⟩
  have HX := Lib.hid (show SortedPost A ys F w (.returned (.tuple #[])) w1 from ⟨rfl, zs, z1, z2, z3, z4⟩)
  clear P1 z1 z2 z3 z4
  go_wp2
  exact bodyPost_ret (v := .tuple #[]) (by simp [results, Try.results73, go_sem]) rfl HX.out
end Go.Proofs.Ytnchefajiedjiaa.AL
