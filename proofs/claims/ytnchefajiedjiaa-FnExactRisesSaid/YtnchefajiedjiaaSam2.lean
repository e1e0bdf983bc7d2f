/-
  Samples: copied, compared, counted.
-/
import Derived.Test.YtnchefajiedjiaaSam
import Derived.StillTailTactics
namespace Go.Proofs.Ytnchefajiedjiaa.AL
open Go Go.RowKit Go.Proofs

theorem Sample.eq_iff (x y : Sample) : x = y ↔ x.T = y.T ∧ x.V = y.V := by cases x; cases y; simp

theorem info_Sample : (Try.prog.info? 36).map (fun i => (i.zero, i.size, i.bytes)) = some (some (.agg #[.int .i64 0, .int .i64 0]), 2, 16) := by kernel_rfl

theorem eqSample_calls (x y : Sample) (w : World) :
    Calls Try.prog 43 #[.agg #[.int .i64 x.T, .int .i64 x.V], .agg #[.int .i64 y.T, .int .i64 y.V]] w fun e w' => e = .returned (.bool (decide (x = y))) ∧ Below w.heap.size w w' := by
  go_enter Try.func43, Try.ntmps43
  go_wp2
  all_goals (go_ret; exact ⟨ret_bool (by simp_all [Sample.eq_iff]), by repeat' (first | exact Below.refl _ _ | apply Below.alloc | simp)⟩)

theorem toSample_calls (x : Sample) (w : World) :
    Calls Try.prog 41 #[.agg #[.int .i64 x.T, .int .i64 x.V]] w fun e w' => e = .returned (.agg #[.int .i64 x.T, .int .i64 x.V]) ∧ Below w.heap.size w w' := by
  go_enter Try.func41, Try.ntmps41
  go_wp2
  exact bodyPost_ret (v := .agg #[.int .i64 x.T, .int .i64 x.V]) (by simp [results, Try.results41, go_sem]) rfl ⟨rfl, by repeat' (first | exact Below.refl _ _ | apply Below.alloc | apply Below.setCell | (simp; done) | (simp; omega))⟩

theorem szSampleS_calls {A : Option Addr} {c : Nat} {xs : List Sample} (l : Int) (w : World) (h0 : 0 ≤ l) (h1 : l ≤ 1048576) (hm : xs.length ≤ c) (hc : c ≤ maxLen) :
    Calls Try.prog 12 #[.slice A xs.length c, .int .i64 l] w fun e w' => e = .returned (.int .i64 (if (xs.length : Int) ≤ l then l - xs.length else -1)) ∧ w = w' := by
  unfold maxLen at hc
  go_enter Try.func12, Try.ntmps12
  go_wp2
  all_goals (go_ret; exact ⟨by first | rfl | (rw [if_pos (by omega)]) | (rw [if_neg (by omega)]), rfl⟩)

set_option maxRecDepth 100000 in
theorem eqSampleS_calls {A B : Option Addr} {c d : Nat} {xs ys : List Sample} {F G : Foot} (w : World) (hx : KS w A xs F) (hm : xs.length ≤ c) (hc : c ≤ maxLen)
    (hy : KS w B ys G) (hn : ys.length ≤ d) (_hd : d ≤ maxLen) :
    Calls Try.prog 16 #[.slice A xs.length c, .slice B ys.length d] w fun e w' => e = .returned (.bool (decide (xs = ys))) ∧ Below w.heap.size w w' := by
  unfold maxLen at hc
  have HX := Lib.hid hx; have HY := Lib.hid hy; clear hx hy
  by_cases hl : xs.length = ys.length
  · have e0 : ((xs.length : Int) != (ys.length : Int)) = false := by simp [hl]
    have HL := Lib.hid hl; clear hl
    go_enter Try.func16, Try.ntmps16
    go_wp2
    go_loopw [5] (fun i wr => ∃ k : Nat, k ≤ xs.length ∧ i = .int .i64 k ∧ (∀ j, j < k → xs[j]? = ys[j]?) ∧ Below w.heap.size w wr) (fun i _ => xs.length - (intOf i).toNat)
    case atStart => exact ⟨0, Nat.zero_le _, rfl, upTo_zero, Below.refl _ _⟩
    case round =>
      obtain ⟨k, hk, rfl, hok, hb⟩ := hrel
      have HO := Lib.hid hok; clear hok
      by_cases hlt : k < xs.length
      · have hlt' : k < ys.length := by rw [← HL.out]; exact hlt
        obtain ⟨b, o, rfl, hb1, hT, hV⟩ := ks_sample (HX.out.below hb) k hlt
        obtain ⟨b', o', rfl, hb2, hT', hV'⟩ := ks_sample (HY.out.below hb) k hlt'
        have H1 := Lib.hid (get?_eq hlt hlt')
        have H2 := Lib.hid (get?_ne hlt hlt')
        go_wp2_with fail
        go_still_tail 8, (by kernel_rfl)
        change wpList _ _ _ _ _ wr.drew
        have hb' : Below w.heap.size w wr.drew := hb.drew
        generalize wr.drew = w2 at hb' ⊢
        clear hb hT hV hT' hV'
        by_cases he : xs[k] = ys[k]
        · have ed : decide (xs[k] = ys[k]) = true := by simp [he]
          have HE := Lib.hid (H1.out he); clear he
          go_wp2_with ((go_at_call 43; refine (eqSample_calls _ _ _).mono ?_; rintro e w3 ⟨rfl, hb3⟩))
          go_roundw
          case rel => exact ⟨k + 1, hlt, by go_num, upTo_succ HO.out HE.out, hb'.trans (hb3.mono hb'.size)⟩
          case measure => simp [intOf]; omega
        · have ed : decide (xs[k] = ys[k]) = false := by simp [he]
          have HE := Lib.hid (H2.out he); clear he
          go_wp2_with ((go_at_call 43; refine (eqSample_calls _ _ _).mono ?_; rintro e w3 ⟨rfl, hb3⟩))
          go_ret
          exact ⟨ret_bool (by simp [HE.out]), hb'.trans (hb3.mono hb'.size)⟩
      · obtain rfl : k = xs.length := by omega
        go_wp2
        go_ret
        exact ⟨ret_bool (by simp [list_eq_of HL.out HO.out]), hb⟩
  · have e0 : ((xs.length : Int) != (ys.length : Int)) = true := by simp; omega
    have HL := Lib.hid hl; clear hl
    go_enter Try.func16, Try.ntmps16
    go_wp2
    go_ret
    exact ⟨ret_bool (by simp; intro e; subst e; exact HL.out rfl), Below.refl _ _⟩

set_option maxRecDepth 100000 in
theorem toSampleS_calls {A : Option Addr} {c : Nat} {xs : List Sample} {F : Foot} (w : World) (hx : KS w A xs F) (_hm : xs.length ≤ c) (hc : c ≤ maxLen) (hs : xs.length ≤ 1048576) :
    Calls Try.prog 14 #[.slice A xs.length c] w fun e w' => ∃ v, e = .returned v ∧ Own w' w.heap.size 36 v xs [] ∧ Below w.heap.size w w' := by
  have HX := Lib.hid hx; clear hx hc
  obtain ⟨ii, hi, hz0, hz1, hz2⟩ := info_parts info_Sample
  go_enter Try.func14, Try.ntmps14
  go_wp2_with (at_make; refine wpList_make_full _ rfl _ _ 25 rfl w.heap.size 36 ii (.agg #[.int .i64 0, .int .i64 0]) 2 Try.underlying25 hi hz0 hz1 _ _ _ _ xs.length rfl rfl rfl rfl (by rw [hz2]; omega) (by unfold maxLen; omega) (Nat.le_refl _) ?_)
  intro w1 how hgr
  have HO : Own (α := Sample) w1 w.heap.size 36 (.slice (some ⟨w.heap.size, 0, none⟩) xs.length xs.length) (List.replicate xs.length ⟨0, 0⟩) [] := Own.made (kf_sample_mk w1 ⟨0, 0⟩) (by rw [← madeCells_flat #[.int .i64 0, .int .i64 0]]; exact how)
  have HB : Below w.heap.size w w1 := (Below.refl _ _).grown hgr (Nat.le_refl _) (by simp)
  clear how hgr
  go_wp2
  go_loopw [4] (fun i wr => ∃ k : Nat, k ≤ xs.length ∧ i = .int .i64 k ∧ Below w.heap.size w wr ∧ ∃ ys : List Sample, ys.length = xs.length ∧ (∀ j, j < k → ys[j]? = xs[j]?) ∧ Own wr w.heap.size 36 (.slice (some ⟨w.heap.size, 0, none⟩) xs.length xs.length) ys []) (fun i _ => xs.length - (intOf i).toNat)
  case atStart => exact ⟨0, Nat.zero_le _, rfl, HB, _, by simp, upTo_zero, HO⟩
  case round =>
    clear HO HB
    obtain ⟨k, hk, rfl, hb, ys, hl, heq, ho⟩ := hrel
    have HL := Lib.hid hl; have HE := Lib.hid heq; clear hl heq
    by_cases hlt : k < xs.length
    · obtain ⟨b, o, rfl, hb1, hT, hV⟩ := ks_sample (HX.out.below hb) k hlt
      have hks : k < ys.length := by rw [HL.out]; exact hlt
      go_wp2_with ((go_at_call 41; refine (toSample_calls _ _).mono ?_; rintro e w3 ⟨rfl, hb3⟩; have HO3 := ho.below hb3; obtain ⟨⟨c0, hc0⟩, hf0⟩ := HO3.cell (k * 2) (by show _ < _ * 2; omega); obtain ⟨⟨c1, hc1⟩, hf1⟩ := HO3.cell (k * 2 + 1) (by show _ < _ * 2; omega)))
      obtain ⟨G', hO, hG⟩ := HO3.setMany k hks (kf_sample_mk w3 xs[k]) (by simp)
      obtain rfl : G' = [] := by cases G' with | nil => rfl | cons a t => have := hG a (by simp); simp at this
      have HS := Lib.hid hO; clear hO hG
      go_roundw
      case rel =>
        refine ⟨k + 1, hlt, by go_num, ?_, ys.set k xs[k], by simp [HL.out], upTo_set HL.out HE.out hlt, HS.out⟩
        exact ((hb.trans (hb3.mono hb.size)).setCell (Nat.le_refl _) _).setCell (Nat.le_refl _) _
      case measure => simp [intOf]; omega
    · obtain rfl : k = xs.length := by omega
      go_wp2
      go_ret
      exact ⟨_, rfl, list_eq_of HL.out (fun j hj => HE.out j (by rw [← HL.out]; exact hj)) ▸ ho, hb⟩

end Go.Proofs.Ytnchefajiedjiaa.AL
