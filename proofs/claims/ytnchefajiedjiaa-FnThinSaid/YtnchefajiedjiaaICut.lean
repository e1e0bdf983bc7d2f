/-
  The program's cut of samples: a clone, a search by a function value, a delete by one.
-/
import Derived.Test.YtnchefajiedjiaaWinPlain
import Derived.Test.YtnchefajiedjiaaHSam
import Derived.Test.YtnchefajiedjiaaOver
import Derived.Lib.SliceRun
namespace Go.Proofs.Ytnchefajiedjiaa.AL
open Go Go.RowKit Go.Proofs
set_option linter.unusedVariables false

theorem setCells_eq (b : Nat) : ∀ (vs : List Value) (w : World) (o : Nat), w.setCells b o vs = setMany w b o vs
  | [], _, _ => rfl
  | v :: vs, w, o => by rw [World.setCells, setMany, setCells_eq b vs]
/-- 'clear(s)' of elements of some cells each. -/
theorem run_clear_many {P : Program} (w : World) (t e ty : TypeId) (z : Value) (ht : P.underlying t = some (.slice e)) (hv : ∀ w, (zeroValue e).run P w = .ok z w) (h1 : ∀ v ∈ z.cells.toList, v.oneCell' = true) (b o n c : Nat) (hn : 0 < n)
    (hc : ∀ j, j < n * z.cells.size → (w.cell? ⟨b, o + j, none⟩).isSome = true) (hf : ∀ j, j < n * z.cells.size → w.frozen? ⟨b, o + j, none⟩ = false) :
    (Builtin.clear_ #[t] ty #[.slice (some ⟨b, o, none⟩) n c]).run P w = .ok (.tuple #[]) (setMany w b o (Builtin.zeroCells z.cells n).toList) := by
  have hsz : (Builtin.zeroCells z.cells n).size = n * z.cells.size := by simp [Builtin.zeroCells]
  have hst := run_storeCells_cells (P := P) b o (Builtin.zeroCells z.cells n).toList 0 w (by simpa [hsz] using hc) (by simpa [hsz] using hf) (by
    intro v hv'
    simp only [Builtin.zeroCells, Array.toList_map, List.mem_map, Array.toList_range, List.mem_range] at hv'
    obtain ⟨i, hi, rfl⟩ := hv'
    have h0 : 0 < z.cells.size := by rcases Nat.eq_zero_or_pos z.cells.size with h | h; (rw [h] at hi; simp at hi); exact h
    have hm := Nat.mod_lt i h0
    rw [getElem!_pos z.cells _ hm]
    exact h1 _ (by simp))
  simp only [Nat.add_zero] at hst
  rw [setCells_eq] at hst
  obtain ⟨m, rfl⟩ : ∃ m, n = m + 1 := ⟨n - 1, by omega⟩
  simp [Builtin.clear_, run_underlying ht, hv, hst]
/-- What reads alike as far as it goes. -/
theorem ks_cells' {α : Type} [Ty α] [Flat α] {w w' : World} {b o : Nat} {xs : List α} {F : Foot} (h : KS w (some ⟨b, o, none⟩) xs F) (hs : w.heap.size ≤ w'.heap.size)
    (hc : ∀ j, j < xs.length * Ty.sz α → w'.cell? ⟨b, o + j, none⟩ = w.cell? ⟨b, o + j, none⟩) (hf : ∀ j, w'.frozen? ⟨b, j, none⟩ = w.frozen? ⟨b, j, none⟩) : KS w' (some ⟨b, o, none⟩) xs F := by
  rcases h with h | ⟨b', o', css, Fs, hA, rfl, he, h1, hb⟩
  · exact .inl h
  · cases hA
    have e : Fs.flatten = [] := elems_flat he
    exact .inr ⟨b, o, css, Fs, rfl, rfl, he.keep (by rw [e]; simp), fun j u hu => ⟨(hc j (by rw [← he.flat]; exact (List.getElem?_eq_some_iff.1 hu).1)).trans (h1 j u hu).1, (hf _).trans (h1 j u hu).2⟩, by omega⟩
theorem take_set_succ {α : Type} (l : List α) (i : Nat) (x : α) (h : i < l.length) : (l.set i x).take (i + 1) = l.take i ++ [x] := by
  rw [List.take_add_one]
  simp [List.take_set, h]
  rw [List.set_eq_of_length_le (by simp; omega)]

theorem cut1_calls (a b : Int) (ba bb : Nat) (x : Sample) (w : World) (ca : w.cell? ⟨ba, 0, none⟩ = some (.int .i64 a)) (cb : w.cell? ⟨bb, 0, none⟩ = some (.int .i64 b)) (la : ba < w.heap.size) (lb : bb < w.heap.size) :
    Calls Try.prog 69 #[.agg #[.int .i64 x.T, .int .i64 x.V], .pointer (some ⟨ba, 0, none⟩), .pointer (some ⟨bb, 0, none⟩)] w fun e w' => e = .returned (.bool (!cutB a b x)) ∧ Below w.heap.size w w' := by
  have na : ba ≠ w.heap.size := by omega
  have nb : bb ≠ w.heap.size := by omega
  by_cases c1 : x.T < a
  · go_enter Try.func69, Try.ntmps69
    go_wp2
    go_ret
    exact ⟨ret_bool (by simp [cutB]; omega), (by repeat' (first | (with_reducible first | assumption | exact Below.refl _ _ | apply Below.drew | apply Below.alloc | apply Below.setCell) | (simp; done) | (simp; omega)))⟩
  · by_cases c2 : b ≤ x.T
    · go_enter Try.func69, Try.ntmps69
      go_wp2
      go_ret
      exact ⟨ret_bool (by simp [cutB]; omega), (by repeat' (first | (with_reducible first | assumption | exact Below.refl _ _ | apply Below.drew | apply Below.alloc | apply Below.setCell) | (simp; done) | (simp; omega)))⟩
    · go_enter Try.func69, Try.ntmps69
      go_wp2
      go_ret
      exact ⟨ret_bool (by simp [cutB]; omega), (by repeat' (first | (with_reducible first | assumption | exact Below.refl _ _ | apply Below.drew | apply Below.alloc | apply Below.setCell) | (simp; done) | (simp; omega)))⟩

/-- Where the first is that is to go. -/
def IdxPost (xs : List Sample) (a b : Int) (w : World) (e : Ending) (w' : World) : Prop := Below w.heap.size w w' ∧
  ((e = .returned (.int .i64 (-1)) ∧ cutS xs a b = xs) ∨ ∃ k : Nat, ∃ h : k < xs.length, e = .returned (.int .i64 k) ∧ cutS (xs.take k) a b = xs.take k ∧ cutB a b xs[k] = false)

set_option maxRecDepth 100000 in
set_option maxHeartbeats 2000000 in
theorem indexFunc_calls {A : Option Addr} {c : Nat} {xs : List Sample} {F : Foot} (a b : Int) (ba bb : Nat) (w : World) (h : KS w A xs F) (hm : xs.length ≤ c) (hc : c ≤ maxLen) (ca : w.cell? ⟨ba, 0, none⟩ = some (.int .i64 a)) (cb : w.cell? ⟨bb, 0, none⟩ = some (.int .i64 b)) (la : ba < w.heap.size) (lb : bb < w.heap.size) :
    Calls Try.prog 77 #[.slice A xs.length c, .func (.func 69) #[] #[.pointer (some ⟨ba, 0, none⟩), .pointer (some ⟨bb, 0, none⟩)]] w (IdxPost xs a b w) := by
  unfold maxLen at hc
  have H := Lib.hid h; have CA := Lib.hid ca; have CB := Lib.hid cb; clear h ca cb
  go_enter Try.func77, Try.ntmps77
  go_wp2
  go_loopw [5, 8] (fun _ i wr => ∃ k : Nat, k ≤ xs.length ∧ i = .int .i64 k ∧ cutS (xs.take k) a b = xs.take k ∧ Below w.heap.size w wr) (fun _ i _ => xs.length - (intOf i).toNat)
  case atStart => exact ⟨0, Nat.zero_le _, rfl, rfl, Below.refl _ _⟩
  case round =>
    obtain ⟨k, hk, rfl, hcs, hb⟩ := hrel
    have HC := Lib.hid hcs; clear hcs
    by_cases hlt : k < xs.length
    · obtain ⟨b', o, rfl, hb1, _, g0, g1⟩ := ks_Sample (H.out.below hb) k hlt
      have P1 := Lib.hid (cut1_calls a b ba bb xs[k] wr ((hb.cell (p := ⟨ba, 0, none⟩) la).trans CA.out) ((hb.cell (p := ⟨bb, 0, none⟩) lb).trans CB.out) (by have := hb.size; omega) (by have := hb.size; omega))
      by_cases hcut : cutB a b xs[k] = true
      · have eb : (!cutB a b xs[k]) = false := by simp [hcut]
        have HS := Lib.hid (show cutS (xs.take (k + 1)) a b = xs.take (k + 1) by rw [cutS_succ hlt, if_pos hcut, HC.out, List.take_add_one, List.getElem?_eq_getElem hlt]; rfl)
        clear hcut
        go_wp2_with (go_at_call 69; refine P1.out.mono ?_; rintro e w3 ⟨rfl, b3⟩)
        have hb3 := hb.trans (b3.mono hb.size)
        clear b3 P1
        go_roundw
        case rel => exact ⟨k + 1, hlt, by go_num, HS.out, hb3⟩
        case measure => simp [intOf]; omega
      · have hcf : cutB a b xs[k] = false := by simpa using hcut
        have eb : (!cutB a b xs[k]) = true := by simp [hcf]
        have HX := Lib.hid (fun w3 (b3 : Below wr.heap.size wr w3) => show IdxPost xs a b w (.returned (.int .i64 k)) w3 from ⟨hb.trans (b3.mono hb.size), .inr ⟨k, hlt, rfl, HC.out, hcf⟩⟩)
        clear hcut hcf
        go_wp2_with (go_at_call 69; refine P1.out.mono ?_; rintro e w3 ⟨rfl, b3⟩)
        go_ret
        exact HX.out _ b3
    · obtain rfl : k = xs.length := by omega
      have HX := Lib.hid (show IdxPost xs a b w (.returned (.int .i64 (-1))) wr from ⟨hb, .inl ⟨rfl, by have := HC.out; rwa [List.take_length] at this⟩⟩)
      go_wp2
      go_ret
      exact HX.out

/-- What is left, in place. -/
def DelPost (A : Option Addr) (c : Nat) (xs : List Sample) (F : Foot) (a b : Int) (w : World) (e : Ending) (w' : World) : Prop :=
  ∃ G, e = .returned (.slice A (cutS xs a b).length c) ∧ KS w' A (cutS xs a b) G ∧ (∀ k ∈ G, k ∈ F) ∧ Turns F w w'

set_option maxRecDepth 100000 in
set_option maxHeartbeats 4000000 in
theorem deleteFunc_calls {A : Option Addr} {c : Nat} {xs : List Sample} {F : Foot} (a b : Int) (ba bb : Nat) (w : World) (h : KS w A xs F) (hm : xs.length ≤ c) (hc : c ≤ maxLen) (ca : w.cell? ⟨ba, 0, none⟩ = some (.int .i64 a)) (cb : w.cell? ⟨bb, 0, none⟩ = some (.int .i64 b)) (la : ba < w.heap.size) (lb : bb < w.heap.size) (hba : ba ∉ F) (hbb : bb ∉ F) :
    Calls Try.prog 67 #[.slice A xs.length c, .func (.func 69) #[] #[.pointer (some ⟨ba, 0, none⟩), .pointer (some ⟨bb, 0, none⟩)]] w (DelPost A c xs F a b w) := by
  obtain ⟨ii, hi, hz0, hz1, hz2⟩ := info_parts info_Sample
  have hc' := hc
  unfold maxLen at hc
  have P0 := Lib.hid (indexFunc_calls a b ba bb w h hm hc' ca cb la lb)
  have H := Lib.hid h; have CA := Lib.hid ca; have CB := Lib.hid cb; clear h ca cb
  go_enter Try.func67, Try.ntmps67
  go_wp2_with fail
  refine P0.out.mono ?_
  rintro e w1 ⟨b1, ⟨rfl, hall⟩ | ⟨k0, hk0, rfl, hpre, hno⟩⟩
  · have HX := Lib.hid (show DelPost A c xs F a b w (.returned (.slice A xs.length c)) w1 from ⟨F, by rw [hall], by rw [hall]; exact H.out.below b1, fun k hk => hk, Turns.of_below b1⟩)
    clear P0 H CA CB hall b1
    go_wp2
    go_ret
    exact HX.out
  · clear P0
    have HP := Lib.hid (show xs.take k0 = cutS (xs.take (k0 + 1)) a b by rw [cutS_succ hk0, if_neg (by simp [hno]), hpre, List.append_nil])
    have K1 := Lib.hid (H.out.below b1)
    have T1 := Lib.hid (Turns.of_below (F := F) b1)
    clear hpre hno b1
    obtain ⟨bk, o, rfl⟩ := ks_some H.out (by omega)
    have hbF : F = [bk] := by
      rcases H.out with ⟨h0, _⟩ | ⟨b', o', css, Fs, hA, hF, he, _⟩
      · rw [h0] at hk0; simp at hk0
      · cases hA; rw [hF, elems_flat he]
    have ek : ((k0 : Int) == -1) = false := beq_eq_false_iff_ne.2 (by omega)
    go_wp2
    go_loopw [5, 6, 7] (fun vi vj _ wr => ∃ (i j : Nat) (zs : List Sample), vi = .int .i64 i ∧ vj = .int .i64 j ∧ j ≤ xs.length ∧ i < j ∧ zs.length = xs.length ∧ Hid (zs.take i = cutS (xs.take j) a b) ∧ Hid (∀ m, j ≤ m → zs[m]? = xs[m]?) ∧ KS wr (some ⟨bk, o, none⟩) zs F ∧ Turns F w wr) (fun _ vj _ _ => xs.length - (intOf vj).toNat)
    case atStart => exact ⟨k0, k0 + 1, xs, rfl, by go_num, hk0, by omega, rfl, HP, Lib.hid fun _ _ => rfl, K1.out, T1.out⟩
    case round =>
      obtain ⟨i, j, zs, rfl, rfl, hj, hij, hzl, HT, HZ, hK, hT⟩ := hrel
      have TT := Lib.hid hT
      have hsz := hT.size
      have hcA : wr.cell? ⟨ba, 0, none⟩ = some (.int .i64 a) := (World.cell?_of_block (hT.block ba la hba)).trans CA.out
      have hcB : wr.cell? ⟨bb, 0, none⟩ = some (.int .i64 b) := (World.cell?_of_block (hT.block bb lb hbb)).trans CB.out
      clear hT
      by_cases hlt : j < xs.length
      · have hjz : j < zs.length := by omega
        have hiz : i < zs.length := by omega
        obtain ⟨_, _, hbo, hb1, _, g0, g1⟩ := ks_Sample hK j hjz
        cases hbo
        have hzx : zs[j] = xs[j] := by
          have := HZ.out j (Nat.le_refl _)
          rw [List.getElem?_eq_getElem hjz, List.getElem?_eq_getElem hlt] at this
          exact Option.some.inj this
        rw [hzx] at g0 g1
        have KK := Lib.hid hK; clear hK hzx
        have bal : Below wr.heap.size wr (wr.alloc (.cells #[.int .i64 xs[j].T, .int .i64 xs[j].V] 36)) := (Below.refl _ _).alloc (Nat.le_refl _) _
        have P1 := Lib.hid (cut1_calls a b ba bb xs[j] (wr.alloc (.cells #[.int .i64 xs[j].T, .int .i64 xs[j].V] 36)) ((bal.cell (p := ⟨ba, 0, none⟩) (show ba < wr.heap.size by omega)).trans hcA) ((bal.cell (p := ⟨bb, 0, none⟩) (show bb < wr.heap.size by omega)).trans hcB) (by simp; omega) (by simp; omega))
        have BX := Lib.hid (Blk.new wr [.int .i64 xs[j].T, .int .i64 xs[j].V] 36)
        clear hcA hcB
        by_cases hcut : cutB a b xs[j] = true
        · have eb : (!cutB a b xs[j]) = false := by simp [hcut]
          have HS := Lib.hid (show cutS (xs.take (j + 1)) a b = cutS (xs.take j) a b ++ [xs[j]] by rw [cutS_succ hlt, if_pos hcut])
          clear hcut
          go_wp2_with fail
          refine P1.out.mono ?_
          rintro e w3 ⟨rfl, b3⟩
          have b4 := bal.trans (b3.mono bal.size)
          have B3 := BX.out.below b3 BX.out.lt
          have d0 := B3.cell 0 rfl; have d1 := B3.cell 1 rfl
          have hs3 := b4.size
          have hnb : bk ≠ wr.heap.size := by omega
          obtain ⟨_, _, hbo, hF3, hb3', hat, hset⟩ := ks_set (KK.out.below b4) i hiz
          cases hbo
          obtain ⟨⟨u0, hu0⟩, f0⟩ := hat 0 (by decide)
          obtain ⟨⟨u1, hu1⟩, f1⟩ := hat 1 (by decide)
          simp only [Nat.add_zero] at hu0 f0
          change w3.cell? ⟨bk, o + i * 2, none⟩ = _ at hu0; change w3.frozen? ⟨bk, o + i * 2, none⟩ = _ at f0
          change w3.cell? ⟨bk, o + i * 2 + 1, none⟩ = _ at hu1; change w3.frozen? ⟨bk, o + i * 2 + 1, none⟩ = _ at f1
          have HSET := Lib.hid (hset xs[j] _ (kf_Sample_mk w3 xs[j]))
          have T4 := Lib.hid ((TT.out.trans (Turns.of_below b4)).trans (show Turns F w3 (setMany w3 bk (o + i * 2) [.int .i64 xs[j].T, .int .i64 xs[j].V]) from by rw [hbF]; exact setMany_turns _ _ _ _))
          clear P1 BX B3 b3 b4 bal hat hset KK TT g0 g1
          go_wp2
          go_roundw
          case rel =>
            refine ⟨i + 1, j + 1, zs.set i xs[j], by go_num, by go_num, hlt, by omega, by simpa using hzl, Lib.hid ?_, Lib.hid ?_, HSET.out, T4.out⟩
            · rw [take_set_succ _ _ _ hiz, HT.out, HS.out]
            · intro m hm
              rw [List.getElem?_set_ne (by omega)]
              exact HZ.out m (by omega)
          case measure => simp [intOf]; omega
        · have hcf : cutB a b xs[j] = false := by simpa using hcut
          have eb : (!cutB a b xs[j]) = true := by simp [hcf]
          have HS := Lib.hid (show cutS (xs.take (j + 1)) a b = cutS (xs.take j) a b by rw [cutS_succ hlt, if_neg hcut, List.append_nil])
          clear hcut hcf
          go_wp2_with fail
          refine P1.out.mono ?_
          rintro e w3 ⟨rfl, b3⟩
          have b4 := bal.trans (b3.mono bal.size)
          have K3 := Lib.hid (KK.out.below b4)
          have T4 := Lib.hid (TT.out.trans (Turns.of_below b4))
          clear P1 BX b3 b4 bal KK TT g0 g1
          go_wp2
          go_roundw
          case rel => exact ⟨i, j + 1, zs, rfl, by go_num, hlt, by omega, hzl, Lib.hid (by rw [HT.out, HS.out]), Lib.hid fun m hm => HZ.out m (by omega), K3.out, T4.out⟩
          case measure => simp [intOf]; omega
      · obtain rfl : j = xs.length := by omega
        have hcs : zs.take i = cutS xs a b := by have := HT.out; rwa [List.take_length] at this
        have hil : (cutS xs a b).length = i := by rw [← hcs]; simp; omega
        have hi2 : i < zs.length := by omega
        have hcell : ∀ q, q < (xs.length - i) * 2 → (wr.cell? ⟨bk, o + i * 2 + q, none⟩).isSome = true ∧ wr.frozen? ⟨bk, o + i * 2 + q, none⟩ = false := by
          intro q hq
          obtain ⟨_, _, hbo, _, _, hat, _⟩ := ks_set hK (i + q / 2) (by omega)
          cases hbo
          obtain ⟨⟨u, hu⟩, f⟩ := hat (q % 2) (Nat.mod_lt _ (by decide))
          change wr.cell? ⟨bk, o + (i + q / 2) * 2 + q % 2, none⟩ = _ at hu
          change wr.frozen? ⟨bk, o + (i + q / 2) * 2 + q % 2, none⟩ = _ at f
          rw [show o + (i + q / 2) * 2 + q % 2 = o + i * 2 + q by omega] at hu f
          exact ⟨by rw [hu]; rfl, f⟩
        have hcl : ∀ ty, (Builtin.clear_ #[25] ty #[.slice (some ⟨bk, o + i * 2, none⟩) (xs.length - i) (c - i)]).run Try.prog wr = .ok (.tuple #[]) (setMany wr bk (o + i * 2) (Builtin.zeroCells #[.int .i64 0, .int .i64 0] (xs.length - i)).toList) := fun ty =>
          run_clear_many wr 25 36 ty (.agg #[.int .i64 0, .int .i64 0]) Try.underlying25 Try.zeroValue36 (by intro v hv; simp [Value.cells] at hv; rcases hv with rfl | rfl <;> rfl) bk (o + i * 2) (xs.length - i) (c - i) (by omega) (fun j hj => (hcell j hj).1) (fun j hj => (hcell j hj).2)
        obtain ⟨G, hG, hk2⟩ := ks_take hK i
        have hvl : (Builtin.zeroCells (#[.int .i64 0, .int .i64 0] : Array Value) (xs.length - i)).toList.length = (xs.length - i) * 2 := by simp [Builtin.zeroCells]
        have HX := Lib.hid (show DelPost (some ⟨bk, o, none⟩) c xs F a b w (.returned (.slice (some ⟨bk, o, none⟩) i c)) (setMany wr bk (o + i * 2) (Builtin.zeroCells #[.int .i64 0, .int .i64 0] (xs.length - i)).toList) from by
          refine ⟨G, by rw [hil], ?_, hG, TT.out.trans (by rw [hbF]; exact setMany_turns _ _ _ _)⟩
          rw [← hcs]
          refine ks_cells' hk2 (by rw [size_setMany]; exact Nat.le_refl _) (fun q hq => ?_) (fun q => frozen?_setMany _ _ _ _)
          have hq' : q < i * 2 := by
            have : (zs.take i).length = i := by simp; omega
            rw [this] at hq; exact hq
          rw [cell?_setMany _ _ _ _ (fun r hr => by rw [hvl] at hr; have := (hcell r hr).1; exact Option.isSome_iff_exists.1 this), dif_neg (by omega)])
        clear hcell hk2 hK TT
        go_wp2
        go_ret
        exact HX.out
end Go.Proofs.Ytnchefajiedjiaa.AL
