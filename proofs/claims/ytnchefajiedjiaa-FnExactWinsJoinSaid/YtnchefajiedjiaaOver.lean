/-
  A region that draws its order, whose operations read what was there and whose callees make memory of their own but hand back one value: one walk in the order of the text. No program in sight.
-/
import Derived.Test.YtnchefajiedjiaaBase
import Derived.BigQuiet
import Derived.Deep.QuietTactic
namespace Go.Proofs.Ytnchefajiedjiaa.AL
open Go Go.RowKit
open Ty (KF)

/-- Whatever lies behind w0's blocks. -/
def over (w0 u : World) : World := { w0 with heap := w0.heap ++ u.heap.extract w0.heap.size u.heap.size, drawn := u.drawn }

theorem over_of_below {w0 w' : World} (h : Below w0.heap.size w0 w') : w' = over w0 w' := by
  have hh : w'.heap = w0.heap ++ w'.heap.extract w0.heap.size w'.heap.size := by
    apply Array.ext_getElem?
    intro i
    have hs := h.size
    by_cases hi : i < w0.heap.size
    · rw [Array.getElem?_append_left hi]; exact h.block i hi
    · rw [Array.getElem?_append_right (by omega), Array.getElem?_extract]
      split
      · congr 1; omega
      · rw [Array.getElem?_eq_none (by omega)]
  cases w'
  simp only [over]
  have h1 := h.os; have h2 := h.tape; have h3 := h.output
  simp only at h1 h2 h3 hh
  rw [← h1, ← h2, ← h3, ← hh]

theorem over_block (w0 u : World) {k : Nat} (hk : k < w0.heap.size) : (over w0 u).heap[k]? = w0.heap[k]? := by
  simp only [over]; rw [Array.getElem?_append_left hk]
theorem over_size (w0 u : World) : w0.heap.size ≤ (over w0 u).heap.size := by simp only [over, Array.size_append]; omega
theorem over_below (w0 u : World) : Below w0.heap.size w0 (over w0 u) := ⟨rfl, rfl, rfl, over_size w0 u, fun _ hk => over_block w0 u hk⟩
@[simp, go_sem] theorem cell?_over (w0 u : World) (a : Addr) (h : a.block < w0.heap.size) : (over w0 u).cell? a = w0.cell? a := (over_below w0 u).cell h
@[simp, go_sem] theorem frozen?_over (w0 u : World) (a : Addr) (h : a.block < w0.heap.size) : (over w0 u).frozen? a = w0.frozen? a := (over_below w0 u).frozen h

theorem wp_region_over {P : Program} {id : Nat} {Q' : Exit → Act → World → Prop} {a : Act} {w0 : World} {l : List Oper} (hm : P.follows .mixedOrders = true) (hB : Region.lexB .any l.toArray = true)
    (h : wpQuiet P l.toArray (fun w' => ∃ u, w' = over w0 u) (fun a' => ∀ w', (∃ u, w' = over w0 u) → Q' .normal a' w') l a) : (Code.region id l.toArray true).wp P Q' a w0 :=
  wp_region_quiet (C := fun w' => ∃ u, w' = over w0 u) hm hB ⟨_, over_of_below (Below.drew (Below.refl _ _))⟩ (by simpa using h)

/-- A callee's contract, met there. -/
theorem quiet_over {P : Program} {f : FuncId} {args : Array Value} {w0 u : World} {v : Value}
    (h : Calls P f args (over w0 u) fun e w' => e = .returned v ∧ Below (over w0 u).heap.size (over w0 u) w') : Calls P f args (over w0 u) fun e w'' => e = .returned v ∧ ∃ u', w'' = over w0 u' :=
  h.mono fun _ w'' ⟨he, hb⟩ => ⟨he, w'', over_of_below ((over_below w0 u).trans (hb.mono (over_size w0 u)))⟩
theorem quiet_over_q {P : Program} {f : FuncId} {args : Array Value} {w0 u : World} {v : Value}
    (h : Calls P f args (over w0 u) fun e w' => e = .returned v ∧ Q (over w0 u) w') : Calls P f args (over w0 u) fun e w'' => e = .returned v ∧ ∃ u', w'' = over w0 u' :=
  quiet_over (h.mono fun _ _ ⟨he, hq⟩ => ⟨he, hq.below _⟩)
theorem quiet_over_same {P : Program} {f : FuncId} {args : Array Value} {w0 u : World} {v : Value}
    (h : Calls P f args (over w0 u) fun e w' => e = .returned v ∧ w' = over w0 u) : Calls P f args (over w0 u) fun e w'' => e = .returned v ∧ ∃ u', w'' = over w0 u' :=
  h.mono fun _ _ ⟨he, hq⟩ => ⟨he, _, hq⟩
theorem quiet_over_left {P : Program} {f : FuncId} {args : Array Value} {w0 u : World} {v : Value}
    (h : Calls P f args (over w0 u) fun e w' => e = .returned v ∧ over w0 u = w') : Calls P f args (over w0 u) fun e w'' => e = .returned v ∧ ∃ u', w'' = over w0 u' :=
  h.mono fun _ _ ⟨he, hq⟩ => ⟨he, _, hq.symm⟩

section
variable {α : Type} [Ty α] {w : World} {xs : List α} {F : Foot}
theorem flatten_drop {β : Type} {css : List (List β)} {s : Nat} (h : ∀ c ∈ css, c.length = s) (n j : Nat) : (css.drop n).flatten[j]? = css.flatten[n * s + j]? := by
  induction css generalizing n with
  | nil => simp
  | cons c t ih =>
    cases n with
    | zero => simp
    | succ n =>
      have hc : c.length = s := h c (by simp)
      rw [List.drop_succ_cons, ih (fun c hm => h c (by simp [hm])), List.flatten_cons, List.getElem?_append_right (by rw [hc, Nat.add_mul]; omega), hc]
      congr 1
      rw [Nat.add_mul]; omega
theorem flatten_take {β : Type} {css : List (List β)} {n j : Nat} {u : β} (h : (css.take n).flatten[j]? = some u) : css.flatten[j]? = some u := by
  have : css.flatten = (css.take n).flatten ++ (css.drop n).flatten := by rw [← List.flatten_append, List.take_append_drop]
  rw [this, List.getElem?_append_left (List.getElem?_eq_some_iff.1 h).1]; exact h
/-- 'xs[n:]' of a slice. -/
theorem ks_drop {b o : Nat} (h : KS w (some ⟨b, o, none⟩) xs F) (n : Nat) : ∃ G, (∀ k ∈ G, k ∈ F) ∧ KS w (some ⟨b, o + n * Ty.sz α, none⟩) (xs.drop n) G := by
  rcases h with ⟨rfl, rfl⟩ | ⟨b', o', css, Fs, hA, rfl, he, hc, hb⟩
  · exact ⟨[], by simp, .inl ⟨by simp, rfl⟩⟩
  · cases hA
    refine ⟨b :: (Fs.drop n).flatten, fun k hk => ?_, .inr ⟨b, o + n * Ty.sz α, css.drop n, Fs.drop n, rfl, rfl, he.drop n, fun j u hu => ?_, hb⟩⟩
    · rcases List.mem_cons.1 hk with rfl | hk
      · simp
      · obtain ⟨f, hf, hk⟩ := List.mem_flatten.1 hk
        exact List.mem_cons_of_mem _ (List.mem_flatten.2 ⟨f, List.mem_of_mem_drop hf, hk⟩)
    · rw [flatten_drop he.sizes] at hu
      rw [Nat.add_assoc]
      exact hc _ u hu
theorem ks_take {A : Option Addr} (h : KS w A xs F) (n : Nat) : ∃ G, (∀ k ∈ G, k ∈ F) ∧ KS w A (xs.take n) G := by
  rcases h with ⟨rfl, rfl⟩ | ⟨b', o', css, Fs, hA, rfl, he, hc, hb⟩
  · exact ⟨[], by simp, .inl ⟨by simp, rfl⟩⟩
  · refine ⟨b' :: (Fs.take n).flatten, fun k hk => ?_, .inr ⟨b', o', css.take n, Fs.take n, hA, rfl, he.take n, fun j u hu => hc j u (flatten_take hu), hb⟩⟩
    rcases List.mem_cons.1 hk with rfl | hk
    · simp
    · obtain ⟨f, hf, hk⟩ := List.mem_flatten.1 hk
      exact List.mem_cons_of_mem _ (List.mem_flatten.2 ⟨f, List.mem_of_mem_take hf, hk⟩)
theorem ks_nil (w : World) (A : Option Addr) : KS (α := α) w A [] [] := .inl ⟨rfl, rfl⟩
theorem ks_some {A : Option Addr} (h : KS w A xs F) (h0 : 0 < xs.length) : ∃ b o, A = some ⟨b, o, none⟩ := by
  rcases h with ⟨rfl, _⟩ | ⟨b', o', css, Fs, hA, _⟩
  · simp at h0
  · exact ⟨b', o', hA⟩
end

/-- A block of cells, known whole (a struct's variable). -/
def Blk (w : World) (b : Nat) (cs : List Value) (t : TypeId) : Prop := w.heap[b]? = some (.cells cs.toArray t (0, 0))
section
variable {w w' : World} {b : Nat} {cs : List Value} {t : TypeId}
theorem Blk.lt (h : Blk w b cs t) : b < w.heap.size := (Array.getElem?_eq_some_iff.1 h).1
theorem Blk.cell (h : Blk w b cs t) (j : Nat) {u : Value} (hj : cs[j]? = some u) : w.cell? ⟨b, j, none⟩ = some u := by
  rw [cell_of_row w b j cs.toArray t (0, 0) h]; simpa using hj
theorem Blk.free (h : Blk w b cs t) (j : Nat) : w.frozen? ⟨b, j, none⟩ = false := by
  have h' : w.heap[b]? = some (.cells cs.toArray t (0, 0)) := h
  simp [World.frozen?, h']
theorem Blk.keep (h : Blk w b cs t) (hk : w'.heap[b]? = w.heap[b]?) : Blk w' b cs t := hk.trans h
theorem Blk.below {n : Nat} (h : Blk w b cs t) (hb : Below n w w') (hn : b < n) : Blk w' b cs t := h.keep (hb.block b hn)
theorem Blk.alloc (h : Blk w b cs t) (o : Obj) : Blk (w.alloc o) b cs t := h.keep (Below.heap_alloc w o b h.lt)
theorem Blk.drewN (h : Blk w b cs t) (n : Nat) : Blk (w.drewN n) b cs t := h
theorem Blk.drew (h : Blk w b cs t) : Blk w.drew b cs t := h
theorem Blk.setOther (h : Blk w b cs t) {a : Addr} (ha : a.block ≠ b) (v : Value) : Blk (w.setCell a v) b cs t := h.keep (Below.heap_setCell w a v b (Ne.symm ha))
theorem Blk.set (h : Blk w b cs t) (j : Nat) (v : Value) : Blk (w.setCell ⟨b, j, none⟩ v) b (cs.set j v) t := by
  have h' : w.heap[b]? = some (.cells cs.toArray t (0, 0)) := h
  unfold Blk
  simp only [World.setCell, Array.getElem?_modify, if_true, h', Option.map_some]
  simp
theorem Blk.setFrom : ∀ (vs pre post : List Value) (w : World), Blk w b (pre ++ post) t → post.length = vs.length → Blk (setMany w b pre.length vs) b (pre ++ vs) t
  | [], pre, [], w, h, _ => h
  | v :: vs, pre, p :: post, w, h, hl => by
    have h1 := Blk.set h pre.length v
    rw [List.set_append_right _ _ (Nat.le_refl _), Nat.sub_self, List.set_cons_zero] at h1
    have h2 := Blk.setFrom vs (pre ++ [v]) post (w.setCell ⟨b, pre.length, none⟩ v) (by simpa using h1) (by simpa using hl)
    simpa [setMany] using h2
theorem Blk.setAll (h : Blk w b cs t) (vs : List Value) (hl : cs.length = vs.length) : Blk (setMany w b 0 vs) b vs t := Blk.setFrom vs [] cs w h hl
theorem Blk.new (w : World) (cs : List Value) (t : TypeId) : Blk (w.alloc (.cells cs.toArray t)) w.heap.size cs t := heap_alloc_new w _
end
end Go.Proofs.Ytnchefajiedjiaa.AL
