/-
  How Go data lie in memory: a footprint reading 'KF' of typed lists and structs, what the call owns ('Own'), how both are carried from world to world. No program in sight.
-/
import Derived.WalkKit
import Derived.KernelRfl
import Derived.Deep.Draws
namespace Go.Proofs.Ytnchefajiedjiaa.AL
open Go Go.RowKit

abbrev Foot := List Nat

theorem upTo_zero {p : Nat → Prop} : ∀ j, j < 0 → p j := fun _ h => absurd h (Nat.not_lt_zero _)
theorem upTo_succ {p : Nat → Prop} {k : Nat} (h : ∀ j, j < k → p j) (hk : p k) : ∀ j, j < k + 1 → p j := fun j hj => by
  by_cases e : j < k
  · exact h j e
  · obtain rfl : j = k := by omega
    exact hk
theorem upTo_set {α : Type} {xs ys : List α} {k : Nat} (hl : ys.length = xs.length) (h : ∀ j, j < k → ys[j]? = xs[j]?) (hk : k < xs.length) : ∀ j, j < k + 1 → (ys.set k xs[k])[j]? = xs[j]? := by
  intro j hj
  by_cases e : j < k
  · rw [List.getElem?_set_ne (by omega)]; exact h j e
  · obtain rfl : j = k := by omega
    rw [List.getElem?_set_self (by omega), List.getElem?_eq_getElem hk]
theorem list_eq_of {α : Type} {xs ys : List α} (hl : xs.length = ys.length) (h : ∀ j, j < xs.length → xs[j]? = ys[j]?) : xs = ys := by
  apply List.ext_getElem?
  intro i
  by_cases hi : i < xs.length
  · exact h i hi
  · rw [List.getElem?_eq_none (by omega), List.getElem?_eq_none (by omega)]
theorem get?_eq {α : Type} {xs ys : List α} {k : Nat} (h1 : k < xs.length) (h2 : k < ys.length) (h : xs[k] = ys[k]) : xs[k]? = ys[k]? := by
  rw [List.getElem?_eq_getElem h1, List.getElem?_eq_getElem h2, h]
theorem get?_ne {α : Type} {xs ys : List α} {k : Nat} (h1 : k < xs.length) (h2 : k < ys.length) (h : ¬ xs[k] = ys[k]) : ¬ xs = ys := by
  intro e; subst e; exact h rfl
theorem ret_bool {a b : Bool} (h : a = b) : Ending.returned (.bool a) = .returned (.bool b) := by rw [h]
theorem ret_int {k : IntKind} {a b : Int} (h : a = b) : Ending.returned (.int k a) = .returned (.int k b) := by rw [h]

/-- Nothing but draws. -/
def Q (w w' : World) : Prop := ∃ n, w' = w.drewN n
theorem Q.refl (w : World) : Q w w := ⟨0, rfl⟩
theorem Q.trans {a b c : World} (h : Q a b) (g : Q b c) : Q a c := by
  obtain ⟨n, rfl⟩ := h
  obtain ⟨m, rfl⟩ := g
  exact ⟨n + m, World.drewN_drewN ..⟩
theorem Q.drew (w : World) : Q w w.drew := ⟨1, rfl⟩
theorem Q.drewN (w : World) (n : Nat) : Q w (w.drewN n) := ⟨n, rfl⟩
theorem Q.heap {w w' : World} (h : Q w w') : w'.heap = w.heap := by obtain ⟨n, rfl⟩ := h; rfl
theorem Q.below {w w' : World} (h : Q w w') (B : Nat) : Below B w w' := by obtain ⟨n, rfl⟩ := h; exact ⟨rfl, rfl, rfl, Nat.le_refl _, fun _ _ => rfl⟩
theorem Q.cell {w w' : World} (h : Q w w') (a : Addr) : w'.cell? a = w.cell? a := by obtain ⟨n, rfl⟩ := h; rfl
theorem Q.frozen {w w' : World} (h : Q w w') (a : Addr) : w'.frozen? a = w.frozen? a := by obtain ⟨n, rfl⟩ := h; rfl

/-- A type of Go's data: its cells, what they read as, and the blocks that the reading meets. -/
class Ty (α : Type) where
  sz : Nat
  KF : World → α → List Value → Foot → Prop
  pos : 0 < sz
  len : ∀ {w x cs F}, KF w x cs F → cs.length = sz
  one : ∀ {w x cs F}, KF w x cs F → ∀ u ∈ cs, u.oneCell' = true
  lt : ∀ {w x cs F}, KF w x cs F → ∀ k ∈ F, k < w.heap.size
  keep : ∀ {w w' x cs F}, KF w x cs F → (∀ k ∈ F, w'.heap[k]? = w.heap[k]?) → KF w' x cs F
open Ty (KF)

/-- Elements one by one: their cells and footprints. -/
inductive Elems {α : Type} [Ty α] (w : World) : List α → List (List Value) → List Foot → Prop
  | nil : Elems w [] [] []
  | cons {x xs c cs f fs} (h : KF w x c f) (t : Elems w xs cs fs) : Elems w (x :: xs) (c :: cs) (f :: fs)

section
variable {α : Type} [Ty α] {w w' : World} {xs ys : List α} {css dss : List (List Value)} {Fs Gs : List Foot}

theorem Elems.length (h : Elems w xs css Fs) : css.length = xs.length ∧ Fs.length = xs.length := by
  induction h with
  | nil => simp
  | cons _ _ ih => simp [ih]

theorem Elems.flat (h : Elems w xs css Fs) : css.flatten.length = xs.length * Ty.sz α := by
  induction h with
  | nil => simp
  | cons h _ ih => simp [ih, Ty.len h, Nat.add_mul]; omega

theorem Elems.one (h : Elems w xs css Fs) : ∀ u ∈ css.flatten, u.oneCell' = true := by
  induction h with
  | nil => simp
  | cons h _ ih =>
    intro u hu
    simp only [List.flatten_cons, List.mem_append] at hu
    rcases hu with hu | hu
    · exact Ty.one h u hu
    · exact ih u hu

theorem Elems.lt (h : Elems w xs css Fs) : ∀ k ∈ Fs.flatten, k < w.heap.size := by
  induction h with
  | nil => simp
  | cons h _ ih =>
    intro u hu
    simp only [List.flatten_cons, List.mem_append] at hu
    rcases hu with hu | hu
    · exact Ty.lt h u hu
    · exact ih u hu

theorem Elems.keep (h : Elems w xs css Fs) (hk : ∀ k ∈ Fs.flatten, w'.heap[k]? = w.heap[k]?) : Elems w' xs css Fs := by
  induction h with
  | nil => exact .nil
  | cons h _ ih =>
    simp only [List.flatten_cons, List.mem_append] at hk
    exact .cons (Ty.keep h fun k hm => hk k (.inl hm)) (ih fun k hm => hk k (.inr hm))

theorem Elems.append (h : Elems w xs css Fs) (g : Elems w ys dss Gs) : Elems w (xs ++ ys) (css ++ dss) (Fs ++ Gs) := by
  induction h with
  | nil => exact g
  | cons h _ ih => exact .cons h ih

theorem Elems.get (h : Elems w xs css Fs) (i : Nat) (hi : i < xs.length) :
    ∃ cs F, css[i]? = some cs ∧ Fs[i]? = some F ∧ KF w xs[i] cs F := by
  induction h generalizing i with
  | nil => exact absurd hi (Nat.not_lt_zero _)
  | cons h t ih =>
    cases i with
    | zero => exact ⟨_, _, rfl, rfl, h⟩
    | succ i =>
      obtain ⟨c, f, h1, h2, h3⟩ := ih i (by simpa using hi)
      exact ⟨c, f, by simpa using h1, by simpa using h2, by simpa using h3⟩

theorem Elems.set (h : Elems w xs css Fs) (i : Nat) {x : α} {cs : List Value} {F : Foot} (hx : KF w x cs F) :
    Elems w (xs.set i x) (css.set i cs) (Fs.set i F) := by
  induction h generalizing i with
  | nil => exact .nil
  | cons h t ih =>
    cases i with
    | zero => exact .cons hx t
    | succ i => exact .cons h (ih i)

theorem Elems.take (h : Elems w xs css Fs) (n : Nat) : Elems w (xs.take n) (css.take n) (Fs.take n) := by
  induction h generalizing n with
  | nil => simpa using .nil
  | cons h t ih =>
    cases n with
    | zero => exact .nil
    | succ n => exact .cons h (ih n)

theorem Elems.drop (h : Elems w xs css Fs) (n : Nat) : Elems w (xs.drop n) (css.drop n) (Fs.drop n) := by
  induction h generalizing n with
  | nil => simpa using .nil
  | cons h t ih =>
    cases n with
    | zero => exact .cons h t
    | succ n => exact ih n

theorem Elems.replicate (n : Nat) {x : α} {cs : List Value} (hx : KF w x cs []) : Elems w (List.replicate n x) (List.replicate n cs) (List.replicate n []) := by
  induction n with
  | zero => exact .nil
  | succ n ih => exact .cons hx ih

end

theorem flat_get {β : Type} {css : List (List β)} {s : Nat} (h : ∀ c ∈ css, c.length = s) (i : Nat) {cs : List β} (hi : css[i]? = some cs) (j : Nat) (hj : j < s) :
    css.flatten[i * s + j]? = cs[j]? := by
  induction css generalizing i with
  | nil => simp at hi
  | cons c t ih =>
    have hc : c.length = s := h c (by simp)
    cases i with
    | zero =>
      simp at hi; subst hi
      simp only [Nat.zero_mul, Nat.zero_add, List.flatten_cons]
      rw [List.getElem?_append_left (by omega)]
    | succ i =>
      simp only [List.flatten_cons]
      rw [List.getElem?_append_right (by rw [hc, Nat.add_mul]; omega), hc]
      rw [show (i + 1) * s + j - s = i * s + j from by rw [Nat.add_mul]; omega]
      exact ih (fun c hm => h c (by simp [hm])) i (by simpa using hi)

theorem Elems.sizes {α : Type} [Ty α] {w : World} {xs : List α} {css Fs} (h : Elems w xs css Fs) : ∀ c ∈ css, c.length = Ty.sz α := by
  induction h with
  | nil => simp
  | cons h _ ih =>
    intro c hc
    simp only [List.mem_cons] at hc
    rcases hc with rfl | hc
    · exact Ty.len h
    · exact ih c hc

theorem flat_set {β : Type} {css : List (List β)} {s : Nat} (h : ∀ c ∈ css, c.length = s) (i : Nat) (hi : i < css.length) {cs : List β} :
    (css.set i cs).flatten = css.flatten.take (i * s) ++ cs ++ css.flatten.drop (i * s + s) := by
  induction css generalizing i with
  | nil => exact absurd hi (Nat.not_lt_zero _)
  | cons c t ih =>
    have hl : c.length = s := h c (by simp)
    cases i with
    | zero => simp [hl]
    | succ i =>
      simp only [List.set_cons_succ, List.flatten_cons]
      rw [ih (fun c hm => h c (by simp [hm])) i (by simpa using hi)]
      rw [show (i + 1) * s = c.length + i * s from by rw [Nat.add_mul, hl]; omega]
      rw [List.take_length_add_append, show c.length + i * s + s = c.length + (i * s + s) from by omega, List.drop_length_add_append]
      simp

/-- The reading of a slice's elements, from its address on. -/
def KS {α : Type} [Ty α] (w : World) (A : Option Addr) (xs : List α) (F : Foot) : Prop :=
  (xs = [] ∧ F = []) ∨
  ∃ b o css Fs, A = some ⟨b, o, none⟩ ∧ F = b :: Fs.flatten ∧ Elems w xs css Fs ∧
    (∀ j u, css.flatten[j]? = some u → w.cell? ⟨b, o + j, none⟩ = some u ∧ w.frozen? ⟨b, o + j, none⟩ = false) ∧ b < w.heap.size

section
variable {α : Type} [Ty α] {w w' : World} {xs : List α} {A : Option Addr} {F : Foot}

theorem KS.lt (h : KS w A xs F) : ∀ k ∈ F, k < w.heap.size := by
  rcases h with ⟨_, rfl⟩ | ⟨b, o, css, Fs, _, rfl, he, _, hb⟩
  · simp
  · intro k hk
    simp only [List.mem_cons] at hk
    rcases hk with rfl | hk
    · exact hb
    · exact he.lt k hk

theorem KS.keep (h : KS w A xs F) (hk : ∀ k ∈ F, w'.heap[k]? = w.heap[k]?) : KS w' A xs F := by
  rcases h with h | ⟨b, o, css, Fs, hA, rfl, he, hc, hb⟩
  · exact .inl h
  · have hb' : w'.heap[b]? = w.heap[b]? := hk b (by simp)
    refine .inr ⟨b, o, css, Fs, hA, rfl, he.keep fun k hm => hk k (List.mem_cons_of_mem _ hm), fun j u hu => ?_, ?_⟩
    · exact ⟨(World.cell?_of_block (w := w) (a := ⟨b, o + j, none⟩) hb').trans (hc j u hu).1, (World.frozen?_of_block (w := w) (a := ⟨b, o + j, none⟩) hb').trans (hc j u hu).2⟩
    · rw [Array.getElem?_eq_getElem hb] at hb'
      exact (Array.getElem?_eq_some_iff.1 hb').1

theorem KS.below (h : KS w A xs F) (hb : Below w.heap.size w w') : KS w' A xs F := h.keep fun k hk => hb.block k (h.lt k hk)
theorem kf_ks_alloc (h : KS w A xs F) (o : Obj) : KS (w.alloc o) A xs F := h.keep fun k hk => Below.heap_alloc w o k (h.lt k hk)
theorem KS.q (h : KS w A xs F) (q : Q w w') : KS w' A xs F := h.keep fun _ _ => by rw [q.heap]

/-- Element i: its cells. -/
theorem KS.get (h : KS w A xs F) (i : Nat) (hi : i < xs.length) :
    ∃ b o cs G, A = some ⟨b, o, none⟩ ∧ b ∈ F ∧ KF w xs[i] cs G ∧ (∀ k ∈ G, k ∈ F) ∧ b < w.heap.size ∧
      ∀ j u, cs[j]? = some u → w.cell? ⟨b, o + (i * Ty.sz α + j), none⟩ = some u := by
  rcases h with ⟨rfl, _⟩ | ⟨b, o, css, Fs, hA, rfl, he, hc, hb⟩
  · exact absurd hi (Nat.not_lt_zero _)
  · obtain ⟨cs, G, h1, h2, h3⟩ := he.get i hi
    refine ⟨b, o, cs, G, hA, by simp, h3, fun k hk => List.mem_cons_of_mem _ (List.mem_flatten.2 ⟨G, List.mem_of_getElem? h2, hk⟩), hb, fun j u hu => ?_⟩
    have hj : j < Ty.sz α := by rw [← Ty.len h3]; exact (List.getElem?_eq_some_iff.1 hu).1
    exact (hc _ u ((flat_get he.sizes i h1 j hj).trans hu)).1

end

/-- A slice, in one cell. -/
instance instTyList {α : Type} [Ty α] : Ty (List α) where
  sz := 1
  KF w xs cs F := ∃ A c, cs = [.slice A xs.length c] ∧ xs.length ≤ c ∧ c ≤ maxLen ∧ (A = none → c = 0) ∧ KS w A xs F
  pos := by decide
  len := by rintro w x cs F ⟨A, c, rfl, _⟩; rfl
  one := by rintro w x cs F ⟨A, c, rfl, _⟩ u hu; simp at hu; subst hu; rfl
  lt := by rintro w x cs F ⟨A, c, rfl, _, _, _, h⟩; exact h.lt
  keep := by rintro w w' x cs F ⟨A, c, rfl, h1, h2, h0, h⟩ hk; exact ⟨A, c, rfl, h1, h2, h0, h.keep hk⟩

instance instTyInt : Ty Int where
  sz := 1
  KF _ x cs F := cs = [.int .i64 x] ∧ F = []
  pos := by decide
  len := by rintro w x cs F ⟨rfl, rfl⟩; rfl
  one := by rintro w x cs F ⟨rfl, rfl⟩ u hu; simp at hu; subst hu; rfl
  lt := by rintro w x cs F ⟨rfl, rfl⟩; simp
  keep := by rintro w w' x cs F ⟨rfl, rfl⟩ _; exact ⟨rfl, rfl⟩

instance instTyBytes : Ty ByteArray where
  sz := 1
  KF _ x cs F := cs = [.string x] ∧ F = []
  pos := by decide
  len := by rintro w x cs F ⟨rfl, rfl⟩; rfl
  one := by rintro w x cs F ⟨rfl, rfl⟩ u hu; simp at hu; subst hu; rfl
  lt := by rintro w x cs F ⟨rfl, rfl⟩; simp
  keep := by rintro w w' x cs F ⟨rfl, rfl⟩ _; exact ⟨rfl, rfl⟩

instance instTyBool : Ty Bool where
  sz := 1
  KF _ x cs F := cs = [.bool x] ∧ F = []
  pos := by decide
  len := by rintro w x cs F ⟨rfl, rfl⟩; rfl
  one := by rintro w x cs F ⟨rfl, rfl⟩ u hu; simp at hu; subst hu; rfl
  lt := by rintro w x cs F ⟨rfl, rfl⟩; simp
  keep := by rintro w w' x cs F ⟨rfl, rfl⟩ _; exact ⟨rfl, rfl⟩

instance instTyByte : Ty UInt8 where
  sz := 1
  KF _ x cs F := cs = [.int .u8 x.toNat] ∧ F = []
  pos := by decide
  len := by rintro w x cs F ⟨rfl, rfl⟩; rfl
  one := by rintro w x cs F ⟨rfl, rfl⟩ u hu; simp at hu; subst hu; rfl
  lt := by rintro w x cs F ⟨rfl, rfl⟩; simp
  keep := by rintro w w' x cs F ⟨rfl, rfl⟩ _; exact ⟨rfl, rfl⟩

/-- Two types side by side. -/
instance instTyProd {α β : Type} [Ty α] [Ty β] : Ty (α × β) where
  sz := Ty.sz α + Ty.sz β
  KF w x cs F := ∃ c1 c2 F1 F2, cs = c1 ++ c2 ∧ F = F1 ++ F2 ∧ KF w x.1 c1 F1 ∧ KF w x.2 c2 F2
  pos := by have := Ty.pos (α := α); omega
  len := by rintro w x cs F ⟨c1, c2, F1, F2, rfl, rfl, h1, h2⟩; simp [Ty.len h1, Ty.len h2]
  one := by
    rintro w x cs F ⟨c1, c2, F1, F2, rfl, rfl, h1, h2⟩ u hu
    rcases List.mem_append.1 hu with hu | hu
    · exact Ty.one h1 u hu
    · exact Ty.one h2 u hu
  lt := by
    rintro w x cs F ⟨c1, c2, F1, F2, rfl, rfl, h1, h2⟩ u hu
    rcases List.mem_append.1 hu with hu | hu
    · exact Ty.lt h1 u hu
    · exact Ty.lt h2 u hu
  keep := by
    rintro w w' x cs F ⟨c1, c2, F1, F2, rfl, rfl, h1, h2⟩ hk
    exact ⟨c1, c2, F1, F2, rfl, rfl, Ty.keep h1 fun k hm => hk k (List.mem_append.2 (.inl hm)), Ty.keep h2 fun k hm => hk k (List.mem_append.2 (.inr hm))⟩

/-- A type told by another one. -/
@[reducible] def Ty.iso {α β : Type} [Ty β] (f : α → β) : Ty α where
  sz := Ty.sz β
  KF w x cs F := KF w (f x) cs F
  pos := Ty.pos (α := β)
  len := fun h => Ty.len (α := β) h
  one := fun h => Ty.one (α := β) h
  lt := fun h => Ty.lt (α := β) h
  keep := fun h hk => Ty.keep (α := β) h hk

section
variable {α : Type} [Ty α] {w w' : World} {x : α} {cs : List Value} {F : Foot}
/-- What a call that writes nothing that was there leaves. -/
theorem kf_below (h : KF w x cs F) (hb : Below w.heap.size w w') : KF w' x cs F :=
  Ty.keep h fun k hk => hb.block k (Ty.lt h k hk)
theorem kf_below' {n : Nat} (h : KF w x cs F) (hb : Below n w w') (hn : ∀ k ∈ F, k < n) : KF w' x cs F :=
  Ty.keep h fun k hk => hb.block k (hn k hk)
theorem kf_grown {row : Option Nat} (h : KF w x cs F) (hg : w.grownBy w' row) (hn : ∀ k ∈ F, some k ≠ row) : KF w' x cs F :=
  Ty.keep h fun k hk => hg.block k (Ty.lt h k hk) (hn k hk)
theorem kf_q (h : KF w x cs F) (q : Q w w') : KF w' x cs F := Ty.keep h fun _ _ => by rw [q.heap]
theorem kf_alloc (h : KF w x cs F) (o : Obj) : KF (w.alloc o) x cs F :=
  Ty.keep h fun k hk => Below.heap_alloc w o k (Ty.lt h k hk)
theorem kf_drew (h : KF w x cs F) : KF w.drew x cs F := Ty.keep h fun _ _ => rfl
end

/-- WHAT THE CALL OWNS, AND MAY STILL WRITE: a slice value of elements that read as xs; G: the blocks that the elements lead to. -/
def Own {α : Type} [Ty α] (w : World) (base : Nat) (e : TypeId) (v : Value) (xs : List α) (G : Foot) : Prop :=
  ∃ css Fs, w.ownsRow base e (Ty.sz α) v xs.length css.flatten ∧ Elems w xs css Fs ∧ G = Fs.flatten ∧ ∀ k ∈ G, some k ≠ v.ownBlock

section
variable {α : Type} [Ty α] {w w' : World} {base : Nat} {e : TypeId} {v : Value} {xs : List α} {G : Foot} {b c n : Nat}

theorem Own.nil (w : World) (base : Nat) (e : TypeId) : Own (α := α) w base e (.slice none 0 0) [] [] :=
  ⟨[], [], World.ownsRow_nil _ _ _ _, .nil, rfl, by simp⟩

theorem Own.empty (w : World) (e : TypeId) {base : Nat} (hb : base ≤ w.heap.size) : Own (α := α) (w.alloc (.cells #[] e)) base e (.slice (some ⟨w.heap.size, 0, none⟩) 0 0) [] [] :=
  ⟨[], [], World.ownsRow_made w #[] 0 hb (by unfold maxLen; omega) (by simp), .nil, rfl, by simp⟩

theorem Own.shape (h : Own w base e v xs G) : (v = .slice none 0 0 ∧ xs = []) ∨ ∃ g cap, v = .slice (some ⟨g, 0, none⟩) xs.length cap ∧ base ≤ g ∧ g < w.heap.size ∧ xs.length ≤ cap ∧ cap ≤ maxLen := by
  obtain ⟨css, Fs, ho, _⟩ := h
  rcases ho.2 with ⟨rfl, h0⟩ | ⟨g, cap, cur, rfl, hb, hh, h1, h2, _⟩
  · exact .inl ⟨rfl, List.eq_nil_of_length_eq_zero h0⟩
  · exact .inr ⟨g, cap, rfl, hb, (Array.getElem?_eq_some_iff.1 hh).1, h1, h2⟩

/-- The blocks of what is owned. -/
def Own.foot (v : Value) (xs : List α) (G : Foot) : Foot := if xs = [] then [] else v.ownBlock.toList ++ G

/-- As a value it reads as its list. -/
theorem Own.kf (h : Own w base e v xs G) : KF w xs [v] (Own.foot v xs G) := by
  obtain ⟨css, Fs, ho, he, rfl, hne⟩ := h
  rcases ho.2 with ⟨rfl, h0⟩ | ⟨g, cap, cur, rfl, hb, hh, h1, h2, hs, ht⟩
  · have hx : xs = [] := List.eq_nil_of_length_eq_zero h0
    subst hx
    exact ⟨none, 0, rfl, Nat.le_refl _, Nat.zero_le _, fun _ => rfl, .inl ⟨rfl, by simp [Own.foot]⟩⟩
  · refine ⟨_, cap, rfl, h1, h2, (fun hh => by cases hh), ?_⟩
    by_cases hx : xs = []
    · subst hx
      exact .inl ⟨rfl, by simp [Own.foot]⟩
    · refine .inr ⟨g, 0, css, Fs, rfl, by simp [Own.foot, hx, Value.ownBlock], he, fun j u hu => ?_, (Array.getElem?_eq_some_iff.1 hh).1⟩
      have hj : j < xs.length * Ty.sz α := by rw [← he.flat]; exact (List.getElem?_eq_some_iff.1 hu).1
      have hO : w.ownsRow base e (Ty.sz α) (.slice (some ⟨g, 0, none⟩) xs.length cap) xs.length css.flatten := ⟨he.flat, .inr ⟨g, cap, cur, rfl, hb, hh, h1, h2, hs, ht⟩⟩
      rw [Nat.zero_add]
      exact ⟨(hO.cellAt j hj).trans hu, hO.frozenAt j⟩

theorem Own.lt (h : Own w base e v xs G) : ∀ k ∈ G, k < w.heap.size := by
  obtain ⟨css, Fs, ho, he, rfl, _⟩ := h
  exact he.lt

theorem Own.ownLt (h : Own w base e v xs G) : ∀ k, v.ownBlock = some k → base ≤ k ∧ k < w.heap.size := by
  obtain ⟨css, Fs, ho, _⟩ := h
  exact ho.lt

/-- Carried over a step that leaves its blocks alone. -/
theorem Own.keep (h : Own w base e v xs G) (hs : ∀ k, v.ownBlock = some k → w'.heap[k]? = w.heap[k]?) (hk : ∀ k ∈ G, w'.heap[k]? = w.heap[k]?) : Own w' base e v xs G := by
  obtain ⟨css, Fs, ho, he, rfl, hne⟩ := h
  refine ⟨css, Fs, ⟨ho.1, ?_⟩, he.keep hk, rfl, hne⟩
  rcases ho.2 with hn | ⟨g, cap, cur, rfl, hb, hh, r⟩
  · exact .inl hn
  · exact .inr ⟨g, cap, cur, rfl, hb, by rw [hs g rfl]; exact hh, r⟩

theorem Own.below (h : Own w base e v xs G) (hb : Below w.heap.size w w') : Own w' base e v xs G :=
  h.keep (fun k hk => hb.block k (h.ownLt k hk).2) (fun k hk => hb.block k (h.lt k hk))
theorem Own.alloc (h : Own w base e v xs G) (o : Obj) : Own (w.alloc o) base e v xs G :=
  h.keep (fun k hk => Below.heap_alloc w o k (h.ownLt k hk).2) (fun k hk => Below.heap_alloc w o k (h.lt k hk))
theorem Own.drew (h : Own w base e v xs G) : Own w.drew base e v xs G := h.keep (fun _ _ => rfl) (fun _ _ => rfl)
theorem Own.grown {row : Option Nat} (h : Own w base e v xs G) (hg : w.grownBy w' row) (h1 : ∀ k, v.ownBlock = some k → some k ≠ row) (h2 : ∀ k ∈ G, some k ≠ row) : Own w' base e v xs G :=
  h.keep (fun k hk => hg.block k (h.ownLt k hk).2 (h1 k hk)) (fun k hk => hg.block k (h.lt k hk) (h2 k hk))

/-- 'append(v, ..)' of elements ys that lie at an address: what the call owns then. -/
theorem run_append_Own {P : Program} (t ty e : TypeId) (i : TypeInfo) (z : Value) (bytes : Nat) (ht : P.underlying t = some (.slice e)) (hi : P.info? e = some i) (hz : i.zero = some z)
    (hsize : i.size = Ty.sz α) (hby : i.bytes = bytes) (hzs : z.cells.size = Ty.sz α) (h : Own w base e v xs G) {ys : List α} {dss : List (List Value)} {Gs : List Foot} (hy : Elems w ys dss Gs)
    (ad : Addr) (c : Nat) (hnews : ∀ j u, dss.flatten[j]? = some u → w.cell? (ad.add j) = some u) (hne : ∀ k ∈ Gs.flatten, some k ≠ v.ownBlock) (h63 : xs.length + ys.length ≤ 1099511627776) (hbytes : bytes ≤ 128) (hbase : base ≤ w.heap.size) :
    ∃ v' w', (Builtin.append_ #[t, t] ty #[v, .slice (some ad) ys.length c]).run P w = .ok v' w' ∧ Own w' base e v' (xs ++ ys) (G ++ Gs.flatten) ∧ w.grownBy w' v.ownBlock ∧
      (∀ k, v'.ownBlock = some k → v.ownBlock = some k ∨ w.heap.size ≤ k) := by
  obtain ⟨css, Fs, ho, he, rfl, hn⟩ := h
  subst hby
  have hb2 : (xs.length + ys.length) * i.bytes ≤ 140737488355328 := Nat.le_trans (Nat.mul_le_mul_left _ hbytes) (by omega)
  have hl : dss.flatten.length = ys.length * i.size := by rw [hsize]; exact hy.flat
  have hm : xs.length + ys.length ≤ maxLen := by unfold maxLen; omega
  -- a new array
  have grown : ∀ (old : Nat), old < xs.length + ys.length →
      Own (w.drew.alloc (.cells (css.flatten.toArray ++ dss.flatten.toArray ++ Builtin.zeroCells z.cells (grownCap w (xs.length + ys.length) old e - (xs.length + ys.length))) e)) base e
        (.slice (some ⟨w.heap.size, 0, none⟩) (xs.length + ys.length) (grownCap w (xs.length + ys.length) old e)) (xs ++ ys) (Fs.flatten ++ Gs.flatten) ∧
      w.grownBy (w.drew.alloc (.cells (css.flatten.toArray ++ dss.flatten.toArray ++ Builtin.zeroCells z.cells (grownCap w (xs.length + ys.length) old e - (xs.length + ys.length))) e)) v.ownBlock := by
    intro old hold
    have hge := grownCap_ge w (xs.length + ys.length) old e
    have hcm : grownCap w (xs.length + ys.length) old e ≤ maxLen := grownCap_le_maxLen w _ old e hm
    have hgb : w.grownBy (w.drew.alloc (.cells (css.flatten.toArray ++ dss.flatten.toArray ++ Builtin.zeroCells z.cells (grownCap w (xs.length + ys.length) old e - (xs.length + ys.length))) e)) v.ownBlock :=
      ⟨rfl, rfl, rfl, by simp, fun k hk _ => heap_alloc_old w.drew _ hk⟩
    refine ⟨⟨css ++ dss, Fs ++ Gs, ⟨by rw [List.flatten_append, List.length_append, he.flat, hy.flat, List.length_append, Nat.add_mul], .inr ⟨w.heap.size, _, _, by rw [List.length_append], hbase, heap_alloc_new w.drew _, by rw [List.length_append]; exact hge, hcm, ?_, ?_⟩⟩, (he.append hy).keep fun k hk => ?_, by simp, fun k hk => ?_⟩, hgb⟩
    · simp only [Array.size_append, List.size_toArray, size_zeroCells, hzs, he.flat, hy.flat, ← Nat.add_mul]
      congr 1
      omega
    · simp only [Array.toList_append, List.append_assoc, List.flatten_append]
      rw [← List.append_assoc]
      have : (css.flatten ++ dss.flatten).length = (xs ++ ys).length * Ty.sz α := by rw [List.length_append, he.flat, hy.flat, List.length_append, Nat.add_mul]
      rw [← this]
      exact List.take_left
    · have hk' : k < w.heap.size := (he.append hy).lt k hk
      exact heap_alloc_old w.drew _ hk'
    · have hk' : k < w.heap.size := by
        rcases List.mem_append.1 hk with hk | hk
        · exact he.lt k hk
        · exact hy.lt k hk
      simp only [Value.ownBlock, ne_eq, Option.some.injEq]
      omega
  rcases ho.2 with ⟨rfl, h0⟩ | ⟨g, cap, cur, rfl, hbg, hg, hnc, hcm, hcs, htake⟩
  · have hx : xs = [] := List.eq_nil_of_length_eq_zero h0
    subst hx
    cases he
    by_cases hm0 : ys.length = 0
    · have hy0 : ys = [] := List.eq_nil_of_length_eq_zero hm0
      subst hy0
      cases hy
      refine ⟨.slice none 0 0, w, ?_, Own.nil _ _ _, World.grownBy.refl _ _, by simp [Value.ownBlock]⟩
      simp [Builtin.append_, run_underlying ht, sizeOf, typeInfo, hi, Builtin.lenOf, Builtin.firstCells, loadCells, loadCellsFrom]
    · have hr := run_append_nil (P := P) w t ty e i z ht hi hz ad ys.length c dss.flatten hl hnews (by omega) (by omega) (by simp at hb2; omega)
      have hgr := grown 0 (by simp; omega)
      simp only [List.length_nil, Nat.zero_add, List.flatten_nil, List.nil_append, Array.empty_append] at hgr ⊢
      exact ⟨_, _, hr, hgr.1, hgr.2, fun k hk => .inr (by simp [Value.ownBlock] at hk; omega)⟩
  · by_cases hroom : xs.length + ys.length ≤ cap
    · have hfit : xs.length * i.size + dss.flatten.length ≤ cur.size := by rw [hl, hcs, hsize, ← Nat.add_mul]; exact Nat.mul_le_mul_right _ hroom
      have hr := run_append_room (P := P) w t ty e i ht hi g xs.length cap cur hg ad ys.length c dss.flatten hl hnews hy.one hroom hfit
      have hgb : w.grownBy (w.setRow g (cur.toList.take (xs.length * i.size) ++ dss.flatten ++ cur.toList.drop (xs.length * i.size + dss.flatten.length)).toArray) (some g) :=
        ⟨rfl, rfl, rfl, by simp, fun k _ hk => setRow_other w g k _ (fun e => hk (by simp [e]))⟩
      refine ⟨_, _, hr, ⟨css ++ dss, Fs ++ Gs, ⟨by rw [List.flatten_append, List.length_append, he.flat, hy.flat, List.length_append, Nat.add_mul], .inr ⟨g, cap, _, by rw [List.length_append], hbg, setRow_heap w g cur _ e _ hg, by rw [List.length_append]; exact hroom, hcm, ?_, ?_⟩⟩, (he.append hy).keep fun k hk => ?_, by simp, fun k hk => ?_⟩, hgb, fun k hk => .inl hk⟩
      · simp only [List.size_toArray, List.length_append, List.length_take, List.length_drop, Array.length_toList]
        rw [← hcs]
        omega
      · rw [hsize, htake, List.flatten_append]
        have : (css.flatten ++ dss.flatten).length = (xs ++ ys).length * Ty.sz α := by rw [List.length_append, he.flat, hy.flat, List.length_append, Nat.add_mul]
        rw [← this]
        exact List.take_left
      · refine setRow_other w g k _ fun e => ?_
        subst e
        simp only [List.flatten_append] at hk
        rcases List.mem_append.1 hk with hk | hk
        · exact hn _ hk rfl
        · exact hne _ hk rfl
      · rcases List.mem_append.1 hk with hk | hk
        · exact hn _ hk
        · exact hne _ hk
    · have holds : ∀ j u, css.flatten[j]? = some u → w.cell? ((⟨g, 0, none⟩ : Addr).add j) = some u := ho.cells (g := g) rfl
      have hr := run_append_grow (P := P) w t ty e i z ht hi hz ⟨g, 0, none⟩ xs.length cap css.flatten (by rw [hsize]; exact he.flat) holds ad ys.length c dss.flatten hl hnews (by omega) (by omega) (growslice_fits (by omega) hb2)
      have hgr := grown cap (by omega)
      exact ⟨_, _, hr, hgr.1, hgr.2, fun k hk => .inr (by simp [Value.ownBlock] at hk; omega)⟩

theorem Own.cell (h : Own w base e (.slice (some ⟨b, 0, none⟩) n c) xs G) (j : Nat) (hj : j < xs.length * Ty.sz α) : (∃ u, w.cell? ⟨b, j, none⟩ = some u) ∧ w.frozen? ⟨b, j, none⟩ = false := by
  obtain ⟨css, Fs, ho, he, rfl, hne⟩ := h
  have hn : n = xs.length := by
    rcases ho.2 with ⟨h1, _⟩ | ⟨g, cap, cur, h1, _⟩
    · cases h1
    · injection h1 with h1 h2 h3
  subst hn
  refine ⟨?_, ho.frozenAt j⟩
  rw [ho.cellAt j hj]
  exact ⟨_, List.getElem?_eq_getElem (by rw [he.flat]; exact hj)⟩

/-- Cells written one behind the other. -/
def setMany (w : World) (b : Nat) : Nat → List Value → World
  | _, [] => w
  | o, v :: vs => setMany (w.setCell ⟨b, o, none⟩ v) b (o + 1) vs

theorem setMany_block (w : World) (b : Nat) (vs : List Value) : ∀ o k, k ≠ b → (setMany w b o vs).heap[k]? = w.heap[k]? := by
  induction vs generalizing w with
  | nil => intros; rfl
  | cons v vs ih => intro o k hk; rw [setMany, ih _ _ _ hk]; exact Below.heap_setCell _ _ _ _ hk

theorem setMany_grown (w : World) (b : Nat) (vs : List Value) : ∀ o, w.grownBy (setMany w b o vs) (some b) := by
  induction vs generalizing w with
  | nil => intro o; exact World.grownBy.refl _ _
  | cons v vs ih =>
    intro o
    have h := ih (w.setCell ⟨b, o, none⟩ v) (o + 1)
    refine ⟨h.os, h.tape, h.output, Nat.le_trans (by simp) h.size, fun k hk hne => ?_⟩
    rw [setMany, setMany_block _ _ _ _ _ (by simpa using hne)]
    exact Below.heap_setCell _ _ _ _ (by simpa using hne)

theorem setMany_owns {size : Nat} {b c n : Nat} : ∀ (vs : List Value) (w : World) (o : Nat) (l : List Value),
    w.ownsRow base e size (.slice (some ⟨b, 0, none⟩) n c) n l → (setMany w b o vs).ownsRow base e size (.slice (some ⟨b, 0, none⟩) n c) n (vs.foldl (fun (x : List Value × Nat) v => (x.1.set x.2 v, x.2 + 1)) (l, o)).1
  | [], _, _, _, h => h
  | v :: vs, w, o, l, h => setMany_owns vs (w.setCell ⟨b, o, none⟩ v) (o + 1) (l.set o v) (h.stored o v).1

theorem foldl_set {β : Type} (vs : List β) : ∀ (l : List β) (o : Nat), o + vs.length ≤ l.length →
    (vs.foldl (fun (x : List β × Nat) v => (x.1.set x.2 v, x.2 + 1)) (l, o)).1 = l.take o ++ vs ++ l.drop (o + vs.length) := by
  induction vs with
  | nil => intro l o _; simp
  | cons v vs ih =>
    intro l o h
    simp only [List.length_cons] at h
    simp only [List.foldl_cons]
    rw [ih _ _ (by simp; omega)]
    have h1 : (l.set o v).take (o + 1) = l.take o ++ [v] := by
      rw [List.take_add_one]
      simp [List.take_set, show o < l.length by omega]
      rw [List.set_eq_of_length_le (by simp; omega)]
    have h2 : (l.set o v).drop (o + 1 + vs.length) = l.drop (o + (vs.length + 1)) := by
      rw [List.drop_set_of_lt (by omega)]
      congr 1; omega
    rw [h1, h2]
    simp

theorem Own.setMany (h : Own w base e (.slice (some ⟨b, 0, none⟩) n c) xs G) (i : Nat) (hi : i < xs.length) {x : α} {cs : List Value} {F : Foot} (hx : KF w x cs F) (hF : b ∉ F) :
    ∃ G', Own (setMany w b (i * Ty.sz α) cs) base e (.slice (some ⟨b, 0, none⟩) n c) (xs.set i x) G' ∧ ∀ k ∈ G', k ∈ G ∨ k ∈ F := by
  obtain ⟨css, Fs, ho, he, rfl, hne⟩ := h
  have hn : n = xs.length := by
    rcases ho.2 with ⟨h1, _⟩ | ⟨g, cap, cur, h1, _⟩
    · cases h1
    · injection h1 with h1 h2 h3
  subst hn
  have hcs : cs.length = Ty.sz α := Ty.len hx
  have hil : i < css.length := by rw [he.length.1]; exact hi
  have hmem : ∀ k ∈ (Fs.set i F).flatten, k ∈ Fs.flatten ∨ k ∈ F := by
    intro k hk
    obtain ⟨f, hf, hk⟩ := List.mem_flatten.1 hk
    rcases List.mem_or_eq_of_mem_set hf with hf | hf
    · exact .inl (List.mem_flatten.2 ⟨f, hf, hk⟩)
    · exact .inr (hf ▸ hk)
  have hall : ∀ k ∈ (Fs.set i F).flatten, k ≠ b := by
    intro k hk
    rcases hmem k hk with hk | hk
    · have := hne k hk; simpa [Value.ownBlock] using this
    · rintro rfl; exact hF hk
  refine ⟨_, ⟨css.set i cs, Fs.set i F, ?_, ((he.set i hx).keep fun k hk => setMany_block _ _ _ _ _ (hall k hk)), rfl, fun k hk => ?_⟩, hmem⟩
  · have hr := setMany_owns cs w (i * Ty.sz α) css.flatten ho
    rw [foldl_set _ _ _ (by rw [he.flat, hcs, ← Nat.add_one_mul]; exact Nat.mul_le_mul_right _ hi)] at hr
    rw [flat_set he.sizes i hil, List.length_set]
    rw [hcs] at hr
    exact hr
  · have := hall k hk; simpa [Value.ownBlock] using this

theorem flat_replicate_get {β : Type} (cs : List β) : ∀ (n j : Nat), j < n * cs.length → (List.replicate n cs).flatten[j]? = cs[j % cs.length]?
  | 0, j, h => by simp at h
  | n + 1, j, h => by
    rw [List.replicate_succ, List.flatten_cons]
    by_cases hj : j < cs.length
    · rw [List.getElem?_append_left hj, Nat.mod_eq_of_lt hj]
    · rw [List.getElem?_append_right (by omega), flat_replicate_get cs n (j - cs.length) (by rw [Nat.add_mul] at h; omega), ← Nat.mod_eq_sub_mod (by omega)]

theorem madeCells_flat (z : Array Value) (n : Nat) : (madeCells z (n * z.size)).toList = (List.replicate n z.toList).flatten := by
  apply List.ext_getElem?
  intro j
  by_cases hj : j < n * z.size
  · rw [flat_replicate_get _ _ _ (by simpa using hj)]
    have h0 : 0 < z.size := by rcases Nat.eq_zero_or_pos z.size with h | h; (rw [h] at hj; simp at hj); exact h
    simp [madeCells, hj, Nat.mod_lt _ h0]
  · rw [List.getElem?_eq_none (by simp [madeCells]; omega), List.getElem?_eq_none (by simp; omega)]

/-- 'out = append(out, ys...)' as the walk meets it. -/
theorem wpList_append_Own {α : Type} [Ty α] {P : Program} {ops : Array Oper} {rest : List Oper} {o : Oper} {a : Act} {Q' : Exit → Act → World → Prop} (hgd : o.guard = none) (s x : Operand) (t : TypeId)
    (ho : o.op = .call { callee := .builtin .append, args := #[s, x], argTypes := #[t, t] }) (e : TypeId) (i : TypeInfo) (z : Value) (bytes : Nat) (ht : P.underlying t = some (.slice e)) (hi : P.info? e = some i) (hz : i.zero = some z)
    (hsize : i.size = Ty.sz α) (hby : i.bytes = bytes) (hzs : z.cells.size = Ty.sz α) {w : World} {base : Nat} {v : Value} {xs : List α} {G : Foot} (hown : Own w base e v xs G) (hs : a.eval s = v)
    {ys : List α} {dss : List (List Value)} {Gs : List Foot} (hy : Elems w ys dss Gs) (ad : Addr) (n c : Nat) (hx : a.eval x = .slice (some ad) n c) (hn : n = ys.length)
    (hnews : ∀ j u, dss.flatten[j]? = some u → w.cell? (ad.add j) = some u) (hne : ∀ k ∈ Gs.flatten, some k ≠ v.ownBlock) (h63 : xs.length + ys.length ≤ 1099511627776) (hbytes : bytes ≤ 128) (hbase : base ≤ w.heap.size)
    (h : ∀ v' w', Own w' base e v' (xs ++ ys) (G ++ Gs.flatten) → w.grownBy w' v.ownBlock → (∀ k, v'.ownBlock = some k → v.ownBlock = some k ∨ w.heap.size ≤ k) → wpList P ops Q' rest (a.put o.dst v') w') :
    wpList P ops Q' (o :: rest) a w := by
  subst hn
  refine wpList_plain hgd fun K hK => ?_
  obtain ⟨v', w', hr, h2, h3, h4⟩ := run_append_Own (P := P) t o.type e i z bytes ht hi hz hsize hby hzs hown hy ad c hnews hne h63 hbytes hbase
  unfold Oper.wp
  simp [execOp, ho, resolve, invoke, builtin, hs, hx, hr, Result.andThen]
  exact hK _ _ (h v' w' h2 h3 h4)

/-- 'out = append(out, y)': y was laid in a new block of its own. -/
theorem wpList_push {α : Type} [Ty α] {P : Program} {ops : Array Oper} {rest : List Oper} {o : Oper} {a : Act} {Q' : Exit → Act → World → Prop} (hgd : o.guard = none) (s x : Operand) (t : TypeId)
    (ho : o.op = .call { callee := .builtin .append, args := #[s, x], argTypes := #[t, t] }) (e : TypeId) (i : TypeInfo) (z : Value) (bytes : Nat) (ht : P.underlying t = some (.slice e)) (hi : P.info? e = some i) (hz : i.zero = some z)
    (hsize : i.size = Ty.sz α) (hby : i.bytes = bytes) (hzs : z.cells.size = Ty.sz α) {W : World} {base : Nat} {v : Value} {xs : List α} {G : Foot} (hown : Own W base e v xs G) (hs : a.eval s = v)
    {y : α} {cs : List Value} {F : Foot} (hy : KF W y cs F) {g : Nat} (hx : a.eval x = .slice (some ⟨g, 0, none⟩) 1 1) (hgW : g = W.heap.size) (hne : ∀ k ∈ F, some k ≠ v.ownBlock) (h63 : xs.length + 1 ≤ 1099511627776) (hbytes : bytes ≤ 128) (hbase : base ≤ W.heap.size)
    (h : ∀ v' w', Own w' base e v' (xs ++ [y]) (G ++ F) → W.grownBy w' v.ownBlock → (∀ k, v'.ownBlock = some k → v.ownBlock = some k ∨ W.heap.size ≤ k) → wpList P ops Q' rest (a.put o.dst v') w') :
    wpList P ops Q' (o :: rest) a (W.alloc (.cells cs.toArray e)) := by
  subst hgW
  have hel : Elems (W.alloc (.cells cs.toArray e)) [y] [cs] [F] := .cons (kf_alloc hy _) .nil
  refine wpList_append_Own hgd s x t ho e i z bytes ht hi hz hsize hby hzs (hown.alloc _) hs hel ⟨W.heap.size, 0, none⟩ 1 1 hx rfl (fun j u hu => ?_) (by simpa using hne) h63 hbytes (by simp; omega) fun v' w' h1 h2 h3 => ?_
  · rw [Addr.add_lit, Nat.zero_add, cell_of_row _ W.heap.size j cs.toArray e (0, 0) (heap_alloc_new W _)]
    simpa using hu
  · refine h v' w' (by simpa using h1) ⟨h2.os, h2.tape, h2.output, Nat.le_trans (by simp) h2.size, fun k hk hne => (h2.block k (by simp; omega) hne).trans (Below.heap_alloc W _ k hk)⟩ fun k hk => ?_
    rcases h3 k hk with h3 | h3
    · exact .inl h3
    · exact .inr (by simp at h3; omega)

/-- Only blocks of F may have turned. -/
structure Turns (F : Foot) (w w' : World) : Prop where
  os : w'.os = w.os
  tape : w'.tape = w.tape
  output : w'.output = w.output
  size : w.heap.size ≤ w'.heap.size
  block : ∀ k, k < w.heap.size → k ∉ F → w'.heap[k]? = w.heap[k]?
theorem Turns.refl (F : Foot) (w : World) : Turns F w w := ⟨rfl, rfl, rfl, Nat.le_refl _, fun _ _ _ => rfl⟩
theorem Turns.trans {F : Foot} {a b c : World} (h : Turns F a b) (g : Turns F b c) : Turns F a c :=
  ⟨g.os.trans h.os, g.tape.trans h.tape, g.output.trans h.output, Nat.le_trans h.size g.size, fun k hk hn => (g.block k (Nat.lt_of_lt_of_le hk h.size) hn).trans (h.block k hk hn)⟩
theorem Turns.mono {F G : Foot} {w w' : World} (h : Turns F w w') (hs : ∀ k ∈ F, k ∈ G) : Turns G w w' := ⟨h.os, h.tape, h.output, h.size, fun k hk hn => h.block k hk fun hm => hn (hs k hm)⟩
theorem Turns.below {F : Foot} {w w' : World} {B : Nat} (h : Turns F w w') (hs : ∀ k ∈ F, B ≤ k) (hB : B ≤ w.heap.size) : Below B w w' :=
  ⟨h.os, h.tape, h.output, h.size, fun k hk => h.block k (by omega) fun hm => by have := hs k hm; omega⟩
theorem Turns.of_below {F : Foot} {w w' : World} (h : Below w.heap.size w w') : Turns F w w' := ⟨h.os, h.tape, h.output, h.size, fun k hk _ => h.block k hk⟩
theorem Turns.kf {F G : Foot} {w w' : World} {x : α} {cs : List Value} (h : Turns F w w') (hx : KF w x cs G) (hd : ∀ k ∈ G, k ∉ F) : KF w' x cs G :=
  Ty.keep hx fun k hk => h.block k (Ty.lt hx k hk) (hd k hk)
theorem Turns.ks {F G : Foot} {w w' : World} {A : Option Addr} {xs : List α} (h : Turns F w w') (hx : KS w A xs G) (hd : ∀ k ∈ G, k ∉ F) : KS w' A xs G :=
  hx.keep fun k hk => h.block k (hx.lt k hk) (hd k hk)
theorem setMany_turns (w : World) (b : Nat) (vs : List Value) (o : Nat) : Turns [b] w (setMany w b o vs) := by
  have h := setMany_grown w b vs o
  exact ⟨h.os, h.tape, h.output, h.size, fun k hk hn => h.block k hk (by simpa using hn)⟩

theorem cell?_setMany {b : Nat} : ∀ (vs : List Value) (w : World) (p q : Nat), (∀ j, j < vs.length → ∃ u, w.cell? ⟨b, p + j, none⟩ = some u) →
    (setMany w b p vs).cell? ⟨b, q, none⟩ = if h : p ≤ q ∧ q < p + vs.length then some (vs[q - p]'(by omega)) else w.cell? ⟨b, q, none⟩
  | [], w, p, q, _ => by rw [dif_neg (by simp)]; rfl
  | v :: vs, w, p, q, h => by
    obtain ⟨u, hu⟩ := h 0 (by simp)
    have hne : ∀ j, (⟨b, p, none⟩ : Addr) ≠ ⟨b, p + 1 + j, none⟩ := fun j e => by injection e with _ e; omega
    rw [setMany, cell?_setMany vs (w.setCell ⟨b, p, none⟩ v) (p + 1) q (fun j hj => by
      rw [World.cell?_setCell_other _ _ _ _ (hne j), show p + 1 + j = p + (j + 1) by omega]; exact h (j + 1) (by simpa using hj))]
    by_cases h1 : q = p
    · subst h1
      rw [dif_neg (by omega), dif_pos ⟨Nat.le_refl _, by simp⟩, World.cell?_setCell_same w ⟨b, q, none⟩ v hu]
      simp
    · by_cases h2 : p + 1 ≤ q ∧ q < p + 1 + vs.length
      · rw [dif_pos h2, dif_pos ⟨by omega, by simp; omega⟩]
        congr 1
        rw [List.getElem_cons, dif_neg (by omega)]
        congr 1
      · rw [dif_neg h2, dif_neg (by simp; omega), World.cell?_setCell_other _ _ _ _ (fun e => by injection e with _ e; omega)]
theorem frozen?_setMany {b : Nat} : ∀ (vs : List Value) (w : World) (p : Nat) (a : Addr), (setMany w b p vs).frozen? a = w.frozen? a
  | [], _, _, _ => rfl
  | v :: vs, w, p, a => by rw [setMany, frozen?_setMany vs]; simp
theorem size_setMany {b : Nat} : ∀ (vs : List Value) (w : World) (p : Nat), (setMany w b p vs).heap.size = w.heap.size
  | [], _, _ => rfl
  | v :: vs, w, p => by rw [setMany, size_setMany vs]; simp

/-- Types that lead to no memory. -/
class Flat (α : Type) [Ty α] : Prop where
  flat : ∀ {w : World} {x : α} {cs : List Value} {F : Foot}, KF w x cs F → F = []

theorem elems_flat {α : Type} [Ty α] [Flat α] {w : World} {xs : List α} {css : List (List Value)} {Fs : List Foot} (h : Elems w xs css Fs) : Fs.flatten = [] := by
  induction h with
  | nil => rfl
  | cons h _ ih => simp [Flat.flat h, ih]

/-- An element of a slice is written in place, of a type that leads to no memory. -/
theorem ks_set {α : Type} [Ty α] [Flat α] {w : World} {xs : List α} {A : Option Addr} {F : Foot} (h : KS w A xs F) (i : Nat) (hi : i < xs.length) :
    ∃ b o, A = some ⟨b, o, none⟩ ∧ F = [b] ∧ b < w.heap.size ∧ (∀ j, j < Ty.sz α → (∃ u, w.cell? ⟨b, o + i * Ty.sz α + j, none⟩ = some u) ∧ w.frozen? ⟨b, o + i * Ty.sz α + j, none⟩ = false) ∧
      ∀ (x : α) (cs : List Value), KF w x cs [] → KS (setMany w b (o + i * Ty.sz α) cs) A (xs.set i x) F := by
  rcases h with ⟨rfl, _⟩ | ⟨b, o, css, Fs, hA, rfl, he, hc, hb⟩
  · exact absurd hi (Nat.not_lt_zero _)
  · have hmul : i * Ty.sz α + Ty.sz α ≤ css.flatten.length := by rw [he.flat, ← Nat.add_one_mul]; exact Nat.mul_le_mul_right _ hi
    have hcell : ∀ j, j < css.flatten.length → (∃ u, w.cell? ⟨b, o + j, none⟩ = some u) ∧ w.frozen? ⟨b, o + j, none⟩ = false :=
      fun j hj => ⟨⟨_, (hc j _ (List.getElem?_eq_getElem hj)).1⟩, (hc j _ (List.getElem?_eq_getElem hj)).2⟩
    have hat : ∀ j, j < Ty.sz α → (∃ u, w.cell? ⟨b, o + i * Ty.sz α + j, none⟩ = some u) ∧ w.frozen? ⟨b, o + i * Ty.sz α + j, none⟩ = false := fun j hj => by
      rw [Nat.add_assoc]; exact hcell _ (by omega)
    refine ⟨b, o, hA, by rw [elems_flat he], hb, hat, fun x cs hx => ?_⟩
    have hcs : cs.length = Ty.sz α := Ty.len hx
    have hil : i < css.length := by rw [he.length.1]; exact hi
    have hfl : ∀ k ∈ (Fs.set i []).flatten, k ≠ b := by
      intro k hk
      obtain ⟨f, hf, hk⟩ := List.mem_flatten.1 hk
      rcases List.mem_or_eq_of_mem_set hf with hf | hf
      · have : k ∈ Fs.flatten := List.mem_flatten.2 ⟨f, hf, hk⟩
        rw [elems_flat he] at this; simp at this
      · rw [hf] at hk; simp at hk
    have he' : Elems (setMany w b (o + i * Ty.sz α) cs) (xs.set i x) (css.set i cs) (Fs.set i []) := (he.set i hx).keep fun k hk => setMany_block _ _ _ _ _ (hfl k hk)
    refine .inr ⟨b, o, css.set i cs, Fs.set i [], hA, by rw [elems_flat he, elems_flat he'], he', fun j u hu => ?_, by rw [size_setMany]; exact hb⟩
    rw [flat_set he.sizes i hil] at hu
    rw [frozen?_setMany, cell?_setMany cs w _ _ (fun j hj => by rw [hcs] at hj; exact (hat j hj).1)]
    have hlen := (List.getElem?_eq_some_iff.1 hu).1
    simp only [List.length_append, List.length_take, List.length_drop, hcs] at hlen
    refine ⟨?_, (hcell j (by omega)).2⟩
    have ht : (css.flatten.take (i * Ty.sz α)).length = i * Ty.sz α := by rw [List.length_take]; omega
    have htc : (css.flatten.take (i * Ty.sz α) ++ cs).length = i * Ty.sz α + Ty.sz α := by rw [List.length_append, ht, hcs]
    by_cases h1 : i * Ty.sz α ≤ j ∧ j < i * Ty.sz α + Ty.sz α
    · rw [dif_pos ⟨by omega, by rw [hcs]; omega⟩]
      rw [List.append_assoc, List.getElem?_append_right (by rw [ht]; omega), List.getElem?_append_left (by rw [ht, hcs]; omega)] at hu
      obtain ⟨_, hu⟩ := List.getElem?_eq_some_iff.1 hu
      rw [← hu]
      congr 1
      simp only [ht]
      congr 1
      omega
    · rw [dif_neg (by rw [hcs]; omega)]
      by_cases h2 : j < i * Ty.sz α
      · rw [List.append_assoc, List.getElem?_append_left (by rw [ht]; exact h2), List.getElem?_take, if_pos h2] at hu
        exact (hc j u hu).1
      · rw [List.getElem?_append_right (by rw [htc]; omega), List.getElem?_drop, htc] at hu
        refine (hc j u ?_).1
        rw [← hu]
        congr 1
        omega

theorem Own.made {n : Nat} {x : α} {cs : List Value} (hx : KF w x cs []) (h : w.ownsRow base e (Ty.sz α) v n (List.replicate n cs).flatten) : Own w base e v (List.replicate n x) [] :=
  ⟨List.replicate n cs, List.replicate n [], by rw [List.length_replicate]; exact h, Elems.replicate n hx, by simp, by simp⟩
end

/-- What is owned, as a slice that reads as its list; its blocks are new. -/
theorem Own.out {α : Type} [Ty α] {w : World} {base : Nat} {e : TypeId} {v : Value} {xs : List α} {G : Foot} (h : Own w base e v xs G) (hG : ∀ k ∈ G, base ≤ k) :
    ∃ A c F, v = .slice A xs.length c ∧ xs.length ≤ c ∧ c ≤ maxLen ∧ KS w A xs F ∧ ∀ k ∈ F, base ≤ k := by
  obtain ⟨A, c, hv, h1, h2, _, h3⟩ := h.kf
  refine ⟨A, c, _, by simpa using hv, h1, h2, h3, fun k hk => ?_⟩
  unfold Own.foot at hk
  split at hk
  · simp at hk
  · rcases List.mem_append.1 hk with hk | hk
    · exact (h.ownLt k (by simpa using hk)).1
    · exact hG k hk
theorem Turns.of_q {w w' : World} (h : Q w w') : Turns [] w w' := Turns.of_below (h.below _)

end Go.Proofs.Ytnchefajiedjiaa.AL
