/-
  A reader of a code, and what it hands out: numbers of which only the range is told.
-/
import Derived.Test.YtnchefajiedjiaaOver
import Derived.Test.YtnchefajiedjiaaSam
namespace Go.Proofs.Ytnchefajiedjiaa.AL
open Go Go.RowKit Go.Proofs
open Ty (KF)

/-- A reader of a code: at block a, at its place p; all its blocks lie below B. -/
def Rd (B : Nat) (w : World) (a p : Nat) : Prop := ∃ (A : Option Addr) (c : Nat) (bs : List UInt8) (F : Foot),
  Blk w a [.slice A bs.length c, .int .i64 p] 82 ∧ KS w A bs F ∧ bs.length ≤ 2000 ∧ bs.length ≤ c ∧ c ≤ maxLen ∧ a ∉ F ∧ a < B ∧ ∀ k ∈ F, k < B
theorem Rd.at {B : Nat} {w : World} {a p : Nat} (h : Rd B w a p) : a < B := by obtain ⟨_, _, _, _, _, _, _, _, _, _, h, _⟩ := h; exact h
theorem Rd.lt {B : Nat} {w : World} {a p : Nat} (h : Rd B w a p) : a < w.heap.size := by obtain ⟨_, _, _, _, h, _⟩ := h; exact h.lt
theorem Rd.turns {B : Nat} {w w' : World} {a p : Nat} {G : Foot} (h : Rd B w a p) (t : Turns G w w') (hG : ∀ k ∈ G, B ≤ k) : Rd B w' a p := by
  obtain ⟨A, c, bs, F, h1, h2, h3, h4, h5, h6, h7, h8⟩ := h
  exact ⟨A, c, bs, F, h1.keep (t.block _ h1.lt fun hm => by have := hG _ hm; omega), h2.keep fun k hk => t.block k (h2.lt k hk) (fun hm => by have := hG _ hm; have := h8 k hk; omega), h3, h4, h5, h6, h7, h8⟩
theorem Rd.below {B n : Nat} {w w' : World} {a p : Nat} (h : Rd B w a p) (b : Below n w w') (hn : B ≤ n) : Rd B w' a p := by
  obtain ⟨A, c, bs, F, h1, h2, h3, h4, h5, h6, h7, h8⟩ := h
  exact ⟨A, c, bs, F, h1.below b (by omega), h2.keep fun k hk => b.block k (by have := h8 k hk; omega), h3, h4, h5, h6, h7, h8⟩
theorem Rd.below' {B : Nat} {w w' : World} {a p : Nat} (h : Rd B w a p) (b : Below w.heap.size w w') : Rd B w' a p := h.turns (Turns.of_below b) (G := []) (by simp)
theorem Rd.mono {B C : Nat} {w : World} {a p : Nat} (h : Rd B w a p) (hC : B ≤ C) : Rd C w a p := by
  obtain ⟨A, c, bs, F, h1, h2, h3, h4, h5, h6, h7, h8⟩ := h
  exact ⟨A, c, bs, F, h1, h2, h3, h4, h5, h6, by omega, fun k hk => by have := h8 k hk; omega⟩
theorem Rd.set {B : Nat} {w : World} {a p : Nat} (h : Rd B w a p) (q : Nat) : Rd B (w.setCell ⟨a, 1, none⟩ (.int .i64 q)) a q := by
  obtain ⟨A, c, bs, F, h1, h2, h3, h4, h5, h6, h7, h8⟩ := h
  refine ⟨A, c, bs, F, h1.set 1 _, h2.keep fun k hk => ?_, h3, h4, h5, h6, h7, h8⟩
  exact Below.heap_setCell w _ _ k (by rintro rfl; exact h6 hk)
theorem ks_u8 {w : World} {A : Option Addr} {xs : List UInt8} {F : Foot} (h : KS w A xs F) (i : Nat) (hi : i < xs.length) :
    ∃ b o, A = some ⟨b, o, none⟩ ∧ b < w.heap.size ∧ b ∈ F ∧ w.cell? ⟨b, o + i, none⟩ = some (.int .u8 xs[i].toNat) := by
  obtain ⟨b, o, cs, G, hA, hb, ⟨rfl, _⟩, hin, hlt, hc⟩ := h.get i hi
  exact ⟨b, o, hA, hlt, hb, by have := hc 0 _ rfl; simpa [show Ty.sz UInt8 = 1 from rfl] using this⟩
theorem ks_int {w : World} {A : Option Addr} {xs : List Int} {F : Foot} (h : KS w A xs F) (i : Nat) (hi : i < xs.length) :
    ∃ b o, A = some ⟨b, o, none⟩ ∧ b < w.heap.size ∧ w.cell? ⟨b, o + i, none⟩ = some (.int .i64 xs[i]) := by
  obtain ⟨b, o, cs, G, hA, hb, ⟨rfl, _⟩, hin, hlt, hc⟩ := h.get i hi
  exact ⟨b, o, hA, hlt, by have := hc 0 _ rfl; simpa [show Ty.sz Int = 1 from rfl] using this⟩
theorem u8_bd (x : UInt8) : 0 ≤ (x.toNat : Int) ∧ (x.toNat : Int) ≤ 255 := by have := x.toNat_lt; omega

/-- What a pick hands out. -/
structure Picked (n v : Int) : Prop where
  low : 0 ≤ v
  high : 1 ≤ n → v < n
  none : n < 1 → v = 0
theorem Picked.zero (n : Int) : Picked n 0 := ⟨Int.le_refl _, fun h => by omega, fun _ => rfl⟩
theorem picked_mod {x n : Int} (_ : 0 ≤ x) (hn : 1 ≤ n) : Picked n (x % n) :=
  ⟨Int.emod_nonneg _ (by omega), fun _ => Int.emod_lt_of_pos _ (by omega), fun h => by omega⟩

theorem bits_xor_i64_nat (a b : Nat) (ha : a < 9223372036854775808) (hb : b < 9223372036854775808) : bits .xor .i64 (a : Int) (b : Int) = ((a ^^^ b : Nat) : Int) := by
  have hx : a ^^^ b < 2 ^ 63 := Nat.xor_lt_two_pow (by omega) (by omega)
  have h1 : (BitVec.ofInt 64 (a : Int)).toNat = a := by
    rw [BitVec.ofInt_natCast, BitVec.toNat_ofNat]; exact Nat.mod_eq_of_lt (by omega)
  have h2 : (BitVec.ofInt 64 (b : Int)).toNat = b := by
    rw [BitVec.ofInt_natCast, BitVec.toNat_ofNat]; exact Nat.mod_eq_of_lt (by omega)
  show IntKind.i64.wrap ((BitVec.ofInt 64 (a : Int) ^^^ BitVec.ofInt 64 (b : Int)).toNat : Int) = _
  rw [BitVec.toNat_xor, h1, h2]
  simp [IntKind.wrap, IntKind.bits, IntKind.signed]
  omega
theorem picked_xor {x y n : Int} (hx : 0 ≤ x) (hx' : x < 9223372036854775808) (hy : 0 ≤ y) (hy' : y < 9223372036854775808) (hn : 1 ≤ n) : Picked n ((bits .xor .i64 x y).tmod n) := by
  obtain ⟨a, rfl⟩ := Int.eq_ofNat_of_zero_le hx
  obtain ⟨b, rfl⟩ := Int.eq_ofNat_of_zero_le hy
  rw [bits_xor_i64_nat a b (by omega) (by omega), Int.tmod_eq_emod_of_nonneg (by omega)]
  exact picked_mod (by omega) hn

theorem pick_calls {B a p : Nat} (n : Int) (w : World) (h : Rd B w a p) (hp : p ≤ 1099511627776) (hn0 : -9223372036854775808 ≤ n) (hn1 : n ≤ 9223372036854775807) :
    Calls Try.prog 55 #[.pointer (some ⟨a, 0, none⟩), .int .i64 n] w fun e w' => ∃ v : Int, e = .returned (.int .i64 v) ∧ Picked n v ∧ Rd B w' a (p + 1) ∧ Turns [a] w w' := by
  obtain ⟨A, c, bs, F, h1, h2, h3, h4, h5, h6, h7, h8⟩ := h
  have h0 := h1.cell 0 rfl; have hp1 := h1.cell 1 rfl
  have hlt := h1.lt
  have hf := h1.free
  have hr0 : Rd B (w.setCell ⟨a, 1, none⟩ (.int .i64 ((p : Int) + 1))) a (p + 1) := Rd.set ⟨A, c, bs, F, h1, h2, h3, h4, h5, h6, h7, h8⟩ (p + 1)
  have ht0 : Turns [a] w (w.setCell ⟨a, 1, none⟩ (.int .i64 ((p : Int) + 1))) := setMany_turns w a [.int .i64 ((p : Int) + 1)] 1
  have hs : ∀ v m, Picked n v → ∃ v', Ending.returned (.int .i64 v) = .returned (.int .i64 v') ∧ Picked n v' ∧ Rd B ((w.setCell ⟨a, 1, none⟩ (.int .i64 ((p : Int) + 1))).drewN m) a (p + 1) ∧ Turns [a] w ((w.setCell ⟨a, 1, none⟩ (.int .i64 ((p : Int) + 1))).drewN m) :=
    fun v m hv => ⟨v, rfl, hv, hr0.below' ((Q.drewN _ m).below _), ht0.trans (Turns.of_below ((Q.drewN _ m).below _))⟩
  have HS := Lib.hid hs; clear hs hr0 ht0
  have hl0 : 0 ≤ (bs.length : Int) := by omega
  have H2 := Lib.hid h2
  have haF := h6
  clear h1 h2 h6 h7 h8
  by_cases hn : n < 1
  · clear H2
    go_enter Try.func55, Try.ntmps55
    go_wp2
    go_ret
    exact HS.out 0 0 ⟨Int.le_refl _, fun h => by omega, fun _ => rfl⟩
  · by_cases hb : bs.length = 0
    · clear H2
      go_enter Try.func55, Try.ntmps55
      go_wp2
      go_ret
      exact HS.out 0 0 ⟨Int.le_refl _, fun h => by omega, fun h => by omega⟩
    · by_cases hk : p < bs.length
      · obtain ⟨b, o, rfl, g1, g2, g3⟩ := ks_u8 H2.out p hk
        have hba : b ≠ a := by rintro rfl; exact haF g2
        have hab : a ≠ b := Ne.symm hba
        have hu := u8_bd bs[p]
        clear H2 haF g2
        go_enter Try.func55, Try.ntmps55
        go_wp2
        go_ret
        exact HS.out _ 0 (picked_mod (by omega) (by omega))
      · obtain ⟨i, hi⟩ : ∃ i, i = p % bs.length := ⟨_, rfl⟩
        obtain ⟨k, hk'⟩ : ∃ k, k = (p * 7 + 3) % bs.length := ⟨_, rfl⟩
        have hil : i < bs.length := by rw [hi]; exact Nat.mod_lt _ (by omega)
        have hkl : k < bs.length := by rw [hk']; exact Nat.mod_lt _ (by omega)
        have ei : (p : Int) % (bs.length : Int) = i := by rw [hi]; simp
        have ek : ((p : Int) * 7 + 3) % (bs.length : Int) = k := by rw [hk']; simp
        obtain ⟨q, hq⟩ : ∃ q : Nat, q = p / bs.length := ⟨_, rfl⟩
        have eq : (p : Int) / (bs.length : Int) = q := by rw [hq]; simp
        have hqp : q ≤ p := by rw [hq]; exact Nat.div_le_self _ _
        obtain ⟨b, o, rfl, g1, g2, g3⟩ := ks_u8 H2.out i hil
        obtain ⟨_, _, hbo, _, _, g4⟩ := ks_u8 H2.out k hkl
        cases hbo
        have hba : b ≠ a := by rintro rfl; exact haF g2
        have hab : a ≠ b := Ne.symm hba
        have hu := u8_bd bs[i]
        have hv := u8_bd bs[k]
        clear H2 haF g2 hi hk' hq
        go_enter Try.func55, Try.ntmps55
        go_wp2_with fail
        go_quiet (fail)
        go_wp2
        go_ret
        exact HS.out _ _ (picked_xor (by omega) (by omega) (by omega) (by omega) hn)

theorem one_calls {B a p : Nat} {A : Option Addr} {c : Nat} {xs : List Int} {F : Foot} (w : World) (h : Rd B w a p) (hp : p ≤ 1099511627776) (k : KS w A xs F) (hm : xs.length ≤ c) (hc : c ≤ maxLen) (h0 : 0 < xs.length) (hF : a ∉ F) :
    Calls Try.prog 54 #[.pointer (some ⟨a, 0, none⟩), .slice A xs.length c] w fun e w' => ∃ v : Int, e = .returned (.int .i64 v) ∧ v ∈ xs ∧ Rd B w' a (p + 1) ∧ Turns [a] w w' := by
  have hc' := hc
  unfold maxLen at hc'
  have hA := h.at
  have H := Lib.hid h; clear h
  have K := Lib.hid k; clear k
  go_enter Try.func54, Try.ntmps54
  have PC := Lib.hid (pick_calls (xs.length : Int) w H.out hp (by omega) (by omega))
  go_wp2_with fail
  refine PC.out.mono ?_
  rintro e w1 ⟨v, rfl, hv, r1, t1⟩
  obtain ⟨b1, b2, _⟩ := hv
  obtain ⟨i, rfl⟩ := Int.eq_ofNat_of_zero_le b1
  have hi : i < xs.length := by have := b2 (by omega); omega
  obtain ⟨b, o, rfl, g1, g2⟩ := ks_int (t1.ks K.out (fun k hk => by simp; rintro rfl; exact hF hk)) i hi
  clear b2 b1
  have HX := Lib.hid (show ∃ v : Int, Ending.returned (.int .i64 xs[i]) = .returned (.int .i64 v) ∧ v ∈ xs ∧ Rd B w1 a (p + 1) ∧ Turns [a] w w1 from ⟨_, rfl, List.getElem_mem _, r1, t1⟩)
  clear r1 t1 H K
  go_wp2
  go_ret
  exact HX.out
end Go.Proofs.Ytnchefajiedjiaa.AL
