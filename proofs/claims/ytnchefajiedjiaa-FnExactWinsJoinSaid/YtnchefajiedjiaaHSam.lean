/-
  Samples: copied, compared, counted, marked.
-/
import Derived.Test.YtnchefajiedjiaaProg
import Derived.Test.YtnchefajiedjiaaTy
import Derived.StillTailTactics
import Derived.Lib.Hide
namespace Go.Proofs.Ytnchefajiedjiaa.AL
open Go Go.RowKit Go.Proofs
open Ty (KF)
set_option linter.unusedVariables false

theorem info_Sample : (Try.prog.info? 36).map (fun i => (i.zero, i.size, i.bytes)) = some (some (.agg #[.int .i64 0, .int .i64 0]), 2, 16) := by kernel_rfl
theorem toSample_calls (x : Sample) (w : World) :
    Calls Try.prog 41 #[.agg #[.int .i64 x.T, .int .i64 x.V]] w fun e w' => e = .returned (.agg #[.int .i64 x.T, .int .i64 x.V]) ∧ Below w.heap.size w w' := by
  go_enter Try.func41, Try.ntmps41
  go_wp2
  exact bodyPost_ret (v := .agg #[.int .i64 x.T, .int .i64 x.V]) (by simp [results, Try.results41, go_sem]) rfl ⟨rfl, by repeat' (first | (with_reducible first | assumption | exact Below.refl _ _ | apply Below.drew | apply Below.alloc | apply Below.setCell) | (simp; done) | (simp; omega))⟩
theorem eqSample_calls (x y : Sample) (w : World) :
    Calls Try.prog 43 #[.agg #[.int .i64 x.T, .int .i64 x.V], .agg #[.int .i64 y.T, .int .i64 y.V]] w fun e w' => e = .returned (.bool (decide (x = y))) ∧ Below w.heap.size w w' := by
  go_enter Try.func43, Try.ntmps43
  go_wp2
  all_goals (go_ret; exact ⟨ret_bool (by simp_all [Sample.eq_iff]), by repeat' (first | (with_reducible first | assumption | exact Below.refl _ _ | apply Below.drew | apply Below.alloc | apply Below.setCell) | (simp; done) | (simp; omega))⟩)
theorem szSampleS_calls {A : Option Addr} {c : Nat} {xs : List Sample} (l : Int) (w : World) (h0 : 0 ≤ l) (h1 : l ≤ 1048576) (hm : xs.length ≤ c) (hc : c ≤ maxLen) :
    Calls Try.prog 12 #[.slice A xs.length c, .int .i64 l] w fun e w' => e = .returned (.int .i64 (if (xs.length : Int) ≤ l then l - xs.length else -1)) ∧ w = w' := by
  unfold maxLen at hc
  go_enter Try.func12, Try.ntmps12
  go_wp2
  all_goals (go_ret; exact ⟨by first | rfl | (rw [if_pos (by omega)]) | (rw [if_neg (by omega)]), rfl⟩)

set_option maxRecDepth 100000 in
set_option maxHeartbeats 4000000 in
theorem eqSampleS_calls {A B : Option Addr} {c d : Nat} {xs ys : List Sample} {F G : Foot} (w : World) (hx : KS w A xs F) (hm : xs.length ≤ c) (hc : c ≤ maxLen)
    (hy : KS w B ys G) (hn : ys.length ≤ d) (hd : d ≤ maxLen) :
    Calls Try.prog 16 #[.slice A xs.length c, .slice B ys.length d] w fun e w' => e = .returned (.bool (decide (xs = ys))) ∧ Below w.heap.size w w' := by
  unfold maxLen at hc hd
  have HX := Lib.hid hx; have HY := Lib.hid hy; clear hx hy
  by_cases hl : xs.length = ys.length
  · have e0 : ((xs.length : Int) != (ys.length : Int)) = false := by simp [hl]
    have HL := Lib.hid hl; clear hl
    go_enter Try.func16, Try.ntmps16
    go_wp2
    go_loopw [5] (fun i wr => ∃ k : Nat, k ≤ xs.length ∧ i = .int .i64 k ∧ (∀ j, j < k → xs[j]? = ys[j]?) ∧ Below w.heap.size w wr) (fun i _ => xs.length - (intOf i).toNat)
    case atStart => exact ⟨0, Nat.zero_le _, rfl, upTo_zero, Below.refl _ _⟩
    case round =>
      obtain ⟨k, hk, rfl, hok, hb⟩ := hrel
      have HO := Lib.hid hok; clear hok
      by_cases hlt : k < xs.length
      · have hlt' : k < ys.length := by rw [← HL.out]; exact hlt
        obtain ⟨b, o, rfl, hb1, _, h0, h1⟩ := ks_Sample (HX.out.below hb) k hlt
        obtain ⟨b', o', rfl, hb2, _, h0', h1'⟩ := ks_Sample (HY.out.below hb) k hlt'
        have H1 := Lib.hid (get?_eq hlt hlt')
        have H2 := Lib.hid (get?_ne hlt hlt')
        go_wp2_with fail
        go_still_tail 8, (by kernel_rfl)
        change wpList _ _ _ _ _ wr.drew
        have hb' : Below w.heap.size w wr.drew := hb.drew
        generalize wr.drew = w2 at hb' ⊢
        clear hb h0 h1 h0' h1'
        by_cases he : xs[k] = ys[k]
        · have ed : decide (xs[k] = ys[k]) = true := by simp [he]
          have HE := Lib.hid (H1.out he); clear he
          go_wp2_with ((go_at_call 43; refine (eqSample_calls _ _ _).mono ?_; rintro e w3 ⟨rfl, hb3⟩))
          go_roundw
          case rel => exact ⟨k + 1, hlt, by go_num, upTo_succ HO.out HE.out, hb'.trans (hb3.mono hb'.size)⟩
          case measure => simp [intOf]; omega
        · have ed : decide (xs[k] = ys[k]) = false := by simp [he]
          have HE := Lib.hid (H2.out he); clear he
          go_wp2_with ((go_at_call 43; refine (eqSample_calls _ _ _).mono ?_; rintro e w3 ⟨rfl, hb3⟩))
          go_ret
          exact ⟨ret_bool (by simp [HE.out]), hb'.trans (hb3.mono hb'.size)⟩
      · obtain rfl : k = xs.length := by omega
        go_wp2
        go_ret
        exact ⟨ret_bool (by simp [list_eq_of HL.out HO.out]), hb⟩
  · have e0 : ((xs.length : Int) != (ys.length : Int)) = true := by simp; omega
    have HL := Lib.hid hl; clear hl
    go_enter Try.func16, Try.ntmps16
    go_wp2
    go_ret
    exact ⟨ret_bool (by simp; intro e; subst e; exact HL.out rfl), Below.refl _ _⟩
set_option maxRecDepth 100000 in
set_option maxHeartbeats 4000000 in
theorem toSampleS_calls {A : Option Addr} {c : Nat} {xs : List Sample} {F : Foot} (w : World) (hx : KS w A xs F) (hs : xs.length ≤ 1048576) :
    Calls Try.prog 14 #[.slice A xs.length c] w fun e w' => ∃ v, e = .returned v ∧ Own w' w.heap.size 36 v xs [] ∧ Below w.heap.size w w' := by
  have HX := Lib.hid hx; clear hx
  obtain ⟨ii, hi, hz0, hz1, hz2⟩ := info_parts info_Sample
  go_enter Try.func14, Try.ntmps14
  go_wp2_with (at_make; refine wpList_make_full _ rfl _ _ 25 rfl w.heap.size 36 ii (.agg #[.int .i64 0, .int .i64 0]) 2 Try.underlying25 hi hz0 hz1 _ _ _ _ xs.length rfl rfl rfl rfl (by rw [hz2]; omega) (by unfold maxLen; omega) (Nat.le_refl _) ?_)
  intro w1 how hgr
  have HO : Own (α := Sample) w1 w.heap.size 36 (.slice (some ⟨w.heap.size, 0, none⟩) xs.length xs.length) (List.replicate xs.length ⟨0, 0⟩) [] := Own.made (kf_Sample_mk w1 ⟨0, 0⟩) (by rw [← madeCells_flat #[.int .i64 0, .int .i64 0]]; exact how)
  have HB : Below w.heap.size w w1 := (Below.refl _ _).grown hgr (Nat.le_refl _) (by simp)
  clear how hgr
  go_wp2
  go_loopw [4] (fun i wr => ∃ k : Nat, k ≤ xs.length ∧ i = .int .i64 k ∧ Below w.heap.size w wr ∧ ∃ ys : List Sample, ys.length = xs.length ∧ (∀ j, j < k → ys[j]? = xs[j]?) ∧ Own wr w.heap.size 36 (.slice (some ⟨w.heap.size, 0, none⟩) xs.length xs.length) ys []) (fun i _ => xs.length - (intOf i).toNat)
  case atStart => exact ⟨0, Nat.zero_le _, rfl, HB, _, by simp, upTo_zero, HO⟩
  case round =>
    clear HO HB
    obtain ⟨k, hk, rfl, hb, ys, hl, heq, ho⟩ := hrel
    have HL := Lib.hid hl; have HE := Lib.hid heq; clear hl heq
    by_cases hlt : k < xs.length
    · obtain ⟨b, o, rfl, hb1, _, h0, h1⟩ := ks_Sample (HX.out.below hb) k hlt
      have hks : k < ys.length := by rw [HL.out]; exact hlt
      go_wp2_with ((go_at_call 41; refine (toSample_calls _ _).mono ?_; rintro e w3 ⟨rfl, hb3⟩; have HO3 := ho.below hb3; obtain ⟨⟨c0, hc0⟩, hf0⟩ := HO3.cell (k * 2) (by show _ < _ * 2; omega); obtain ⟨⟨c1, hc1⟩, hf1⟩ := HO3.cell (k * 2 + 1) (by show _ < _ * 2; omega)))
      obtain ⟨G', hO, hG⟩ := HO3.setMany k hks (kf_Sample_mk w3 xs[k]) (by simp)
      obtain rfl : G' = [] := by cases G' with | nil => rfl | cons a t => have := hG a (by simp); simp at this
      have HS := Lib.hid hO; clear hO hG
      go_roundw
      case rel =>
        refine ⟨k + 1, hlt, by go_num, ?_, ys.set k xs[k], by simp [HL.out], upTo_set HL.out HE.out hlt, HS.out⟩
        have hb4 := hb.trans (hb3.mono hb.size)
        exact ((hb4).setCell (Nat.le_refl _) _).setCell (Nat.le_refl _) _
      case measure => simp [intOf]; omega
    · obtain rfl : k = xs.length := by omega
      go_wp2
      go_ret
      exact ⟨_, rfl, list_eq_of HL.out (fun j hj => HE.out j (by rw [← HL.out]; exact hj)) ▸ ho, hb⟩
instance instFlatSample : Flat Sample := ⟨fun h => (kf_Sample h).2⟩
/-- What marking leaves. -/
def markSample (k : Int) (n : Nat) : List Sample := (List.range n).map fun (j : Nat) => ⟨k + 2 * (j : Int), k + 2 * (j : Int) + 1⟩
theorem markSample_len (k : Int) (n : Nat) : (markSample k n).length = n := by simp [markSample]
theorem markSample_get {k : Int} {n j : Nat} (h : j < n) : (markSample k n)[j]? = some ⟨k + 2 * (j : Int), k + 2 * (j : Int) + 1⟩ := by simp [markSample, h]
set_option maxRecDepth 100000 in
set_option maxHeartbeats 4000000 in
theorem markSampleS_calls {A : Option Addr} {c : Nat} {xs : List Sample} {F : Foot} (k0 : Int) (w : World) (hx : KS w A xs F) (hm : xs.length ≤ c) (hc : c ≤ maxLen) (h0 : 0 ≤ k0) (h1 : k0 ≤ 1099511627776) (h2 : xs.length ≤ 1099511627776) :
    Calls Try.prog 19 #[.slice A xs.length c, .int .i64 k0] w fun e w' => e = .returned (.int .i64 (k0 + 2 * (xs.length : Int))) ∧ KS w' A (markSample k0 xs.length) F ∧ Turns F w w' := by
  unfold maxLen at hc
  have HX := Lib.hid hx; clear hx
  go_enter Try.func19, Try.ntmps19
  go_wp2
  go_loopw [1, 5] (fun v i wr => ∃ k : Nat, k ≤ xs.length ∧ i = .int .i64 k ∧ v = .int .i64 (k0 + 2 * (k : Int)) ∧ Turns F w wr ∧ ∃ ys : List Sample, ys.length = xs.length ∧ (∀ j, j < k → ys[j]? = some ⟨k0 + 2 * (j : Int), k0 + 2 * (j : Int) + 1⟩) ∧ KS wr A ys F) (fun _ i _ => xs.length - (intOf i).toNat)
  case atStart => exact ⟨0, Nat.zero_le _, rfl, by go_num, Turns.refl _ _, xs, rfl, upTo_zero, HX.out⟩
  case round =>
    obtain ⟨k, hk, rfl, rfl, ht, ys, hl, heq, hks⟩ := hrel
    have HL := Lib.hid hl; have HE := Lib.hid heq; clear hl heq
    by_cases hlt : k < xs.length
    · have hky : k < ys.length := by rw [HL.out]; exact hlt
      obtain ⟨b, o, rfl, hF, hb, hat, hset⟩ := ks_set hks k hky
      obtain ⟨⟨v0, hv0⟩, f0⟩ := hat 0 (by decide)
      obtain ⟨⟨v1, hv1⟩, f1⟩ := hat 1 (by decide)
      simp only [Nat.add_zero] at hv0 f0
      change wr.cell? ⟨b, o + k * 2, none⟩ = _ at hv0; change wr.frozen? ⟨b, o + k * 2, none⟩ = _ at f0
      change wr.cell? ⟨b, o + k * 2 + 1, none⟩ = _ at hv1; change wr.frozen? ⟨b, o + k * 2 + 1, none⟩ = _ at f1
      have HS := Lib.hid hset; have HF := Lib.hid hF; clear hset hF hat hks
      go_wp2
      have hnew := HS.out ⟨k0 + 2 * (k : Int), k0 + 2 * (k : Int) + 1⟩ _ (kf_Sample_mk wr ⟨k0 + 2 * (k : Int), k0 + 2 * (k : Int) + 1⟩)
      have HN := Lib.hid hnew; clear hnew
      go_roundw
      case rel =>
        refine ⟨k + 1, hlt, by go_num, by congr 1; push_cast; omega, ?_, ys.set k ⟨k0 + 2 * (k : Int), k0 + 2 * (k : Int) + 1⟩, by simp [HL.out], ?_, HN.out⟩
        · refine ht.trans ?_
          rw [HF.out]
          exact setMany_turns wr b [.int .i64 (k0 + 2 * (k : Int)), .int .i64 (k0 + 2 * (k : Int) + 1)] (o + k * 2)
        · intro j hj
          by_cases e : j < k
          · rw [List.getElem?_set_ne (by omega)]; exact HE.out j e
          · obtain rfl : j = k := by omega
            rw [List.getElem?_set_self hky]
      case measure => simp [intOf]; omega
    · obtain rfl : k = xs.length := by omega
      go_wp2
      go_ret
      refine ⟨rfl, ?_, ht⟩
      have : ys = markSample k0 xs.length := by
        apply List.ext_getElem?
        intro j
        by_cases hj : j < xs.length
        · rw [HE.out j hj, markSample_get hj]
        · rw [List.getElem?_eq_none (by rw [HL.out]; omega), List.getElem?_eq_none (by rw [markSample_len]; omega)]
      rw [← this]; exact hks
theorem heldSampleS_calls {A : Option Addr} {c : Nat} {n : Nat} {F : Foot} (k0 : Int) (w : World) (hx : KS w A (markSample k0 n) F) (hm : n ≤ c) (hc : c ≤ maxLen) (h0 : 0 ≤ k0) (h1 : k0 ≤ 1099511627776) (h2 : n ≤ 1099511627776) :
    Calls Try.prog 20 #[.slice A n c, .int .i64 k0] w fun e w' => e = .returned (.int .i64 (k0 + 2 * (n : Int))) ∧ Q w w' := by
  unfold maxLen at hc
  have HX := Lib.hid hx; clear hx
  go_enter Try.func20, Try.ntmps20
  go_wp2
  go_loopw [1, 5] (fun v i wr => ∃ k : Nat, k ≤ n ∧ i = .int .i64 k ∧ v = .int .i64 (k0 + 2 * (k : Int)) ∧ Q w wr) (fun _ i _ => n - (intOf i).toNat)
  case atStart => exact ⟨0, Nat.zero_le _, rfl, by go_num, Q.refl _⟩
  case round =>
    obtain ⟨k, hk, rfl, rfl, hq⟩ := hrel
    by_cases hlt : k < n
    · obtain ⟨b, o, rfl, hb, _, g0, g1⟩ := ks_Sample (HX.out.q hq) k (by rw [markSample_len]; exact hlt)
      have hg : (markSample k0 n)[k]'(by rw [markSample_len]; exact hlt) = ⟨k0 + 2 * (k : Int), k0 + 2 * (k : Int) + 1⟩ := by
        have := markSample_get (k := k0) hlt
        exact (List.getElem?_eq_some_iff.1 this).2
      rw [hg] at g0 g1
      clear hg
      have en0 : ((k0 + 2 * (k : Int) : Int) != (k0 + 2 * (k : Int) : Int)) = false := by simp
      have en1 : ((k0 + 2 * (k : Int) + 1 : Int) != (k0 + 2 * (k : Int) + 1 : Int)) = false := by simp
      go_wp2
      go_roundw
      case rel => exact ⟨k + 1, hlt, by go_num, by congr 1; push_cast; omega, hq⟩
      case measure => simp [intOf]; omega
    · obtain rfl : k = n := by omega
      go_wp2
      go_ret
      exact ⟨rfl, hq⟩

end Go.Proofs.Ytnchefajiedjiaa.AL
