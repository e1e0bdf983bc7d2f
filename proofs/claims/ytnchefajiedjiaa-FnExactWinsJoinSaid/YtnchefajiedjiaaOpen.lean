/-
  From the row's reading of an argument to the footprint reading: integers, strings, bools, slices, structs. No program in sight.
-/
import Derived.Test.YtnchefajiedjiaaBase
import Derived.Deep.Slices
import Derived.ChangeArms
namespace Go.Proofs.Ytnchefajiedjiaa.AL
open Go Go.RowKit
open Ty (KF)

/-- Whatever the row reads as a value of type t reads as an α. -/
def Opn (P : Program) (t : TypeId) (α : Type) [Ty α] : Prop := ∀ (H : Type) (enc : TypeId × Value → H) (W : World) (fuel : Nat) (cs : List Value) (x : DataW H × List MemPlace),
  DataW.trod enc P W 0 (fun _ => true) true fuel t cs = some x → W.noneFrozen x.2 → ∃ (y : α) (F : Foot), KF W y cs F

theorem noneFrozen_left {W : World} {p q : List MemPlace} (h : W.noneFrozen (p ++ q)) : W.noneFrozen p := fun b o hm => h b o (List.mem_append.2 (.inl hm))
theorem noneFrozen_right {W : World} {p q : List MemPlace} (h : W.noneFrozen (p ++ q)) : W.noneFrozen q := fun b o hm => h b o (List.mem_append.2 (.inr hm))

theorem opn_int {P : Program} {t : TypeId} (ht : P.underlying t = some (.int .i64)) : Opn P t Int := by
  intro H enc W fuel cs x h _
  obtain ⟨n, rfl, _, _⟩ := DataW.trod_int ht h
  exact ⟨n, [], rfl, rfl⟩

theorem opn_string {P : Program} {t : TypeId} (ht : P.underlying t = some .string) : Opn P t ByteArray := by
  intro H enc W fuel cs x h _
  obtain ⟨n, rfl, _, _⟩ := DataW.trod_string ht h
  exact ⟨n, [], rfl, rfl⟩

theorem mem_row {a : Addr} {n i : Nat} (h : i < n) : MemPlace.cell a.block (a.off + i) ∈ MemPlace.row a n := by
  simp only [MemPlace.row, List.mem_map, List.mem_range]
  exact ⟨i, h, rfl⟩

theorem elems_of_fun {α : Type} [Ty α] {W : World} {sz : Nat} (hs : sz = Ty.sz α) : ∀ (len : Nat) (g : Nat → Option (List Value)),
    (∀ i, i < len → ∃ (cs : List Value) (y : α) (F : Foot), g i = some cs ∧ KF W y cs F) →
    ∃ (ys : List α) (css : List (List Value)) (Fs : List Foot), ys.length = len ∧ Elems W ys css Fs ∧ ∀ i, i < len → g i = css[i]?
  | 0, _, _ => ⟨[], [], [], rfl, .nil, fun i hi => absurd hi (Nat.not_lt_zero _)⟩
  | len + 1, g, h => by
    obtain ⟨cs, y, F, h1, h2⟩ := h 0 (Nat.succ_pos _)
    obtain ⟨ys, css, Fs, h3, h4, h5⟩ := elems_of_fun hs len (fun i => g (i + 1)) (fun i hi => h (i + 1) (by omega))
    refine ⟨y :: ys, cs :: css, F :: Fs, by simp [h3], .cons h2 h4, fun i hi => ?_⟩
    cases i with
    | zero => simpa using h1
    | succ i => simpa using h5 i (by omega)

theorem mapM_get {β γ : Type} {f : β → Option γ} : ∀ (l : List β) (cs : List γ), l.mapM f = some cs → cs.length = l.length ∧ ∀ (j : Nat) (u : γ), cs[j]? = some u → ∃ i : β, l[j]? = some i ∧ f i = some u
  | [], cs, h => by
    simp at h; subst h; simp
  | b :: l, cs, h => by
    rw [List.mapM_cons] at h
    obtain ⟨c, hc, h⟩ := Option.bind_eq_some_iff.1 h
    obtain ⟨ds, hd, h⟩ := Option.bind_eq_some_iff.1 h
    simp at h
    subst h
    obtain ⟨h1, h2⟩ := mapM_get l ds hd
    refine ⟨by simp [h1], fun j u hu => ?_⟩
    cases j with
    | zero => simp at hu; subst hu; exact ⟨b, rfl, hc⟩
    | succ j => obtain ⟨i, h3, h4⟩ := h2 j u (by simpa using hu); exact ⟨i, by simpa using h3, h4⟩

theorem cells?_get {W : World} {a : Addr} {n : Nat} {cs : List Value} (h : W.cells? 0 a n = some cs) : cs.length = n ∧ ∀ j u, cs[j]? = some u → W.cell? (a.add j) = some u := by
  unfold World.cells? at h
  rw [if_pos (Nat.zero_le _)] at h
  obtain ⟨h3, h4⟩ := mapM_get _ _ h
  refine ⟨by simpa using h3, fun j u hu => ?_⟩
  obtain ⟨i, hi, hc⟩ := h4 j u hu
  obtain ⟨_, rfl⟩ := List.getElem?_eq_some_iff.1 hi
  simpa using hc

theorem opn_slice {P : Program} {t e : TypeId} {α : Type} [Ty α] (ht : P.underlying t = some (.slice e)) (hc : P.cellsOf e = Ty.sz α) (he : Opn P e α) : Opn P t (List α) := by
  intro H enc W fuel cs x h hf
  rcases Go.Deep.open_slice ht h with ⟨rfl, rfl⟩ | ⟨a, len, cap, m, n, D, Pl, rfl, _, hl, hm, hmm, rfl, hel⟩
  · exact ⟨[], [], none, 0, rfl, Nat.le_refl _, Nat.zero_le _, fun _ => rfl, .inl ⟨rfl, rfl⟩⟩
  · simp only [if_true] at hmm
    subst hmm
    obtain ⟨ys, css, Fs, h3, h4, h5⟩ := elems_of_fun (α := α) (W := W) rfl len (fun i => W.cells? 0 (a.add (i * P.cellsOf e)) (P.cellsOf e)) (fun i hi => by
      obtain ⟨cs', h1, h2⟩ := hel i (by omega)
      obtain ⟨y, F, hy⟩ := he H enc W n cs' _ h2 (fun b o hmem => hf b o (List.mem_append.2 (.inr (List.mem_flatMap.2 ⟨i, List.mem_range.2 (by omega), hmem⟩))))
      exact ⟨cs', y, F, h1, hy⟩)
    by_cases h0 : len = 0
    · subst h0
      have : ys = [] := List.eq_nil_of_length_eq_zero h3
      subst this
      exact ⟨[], [], some a, m, rfl, Nat.zero_le _, hm, (fun hh => by cases hh), .inl ⟨rfl, rfl⟩⟩
    · -- the cells are there: the address is plain
      have hcell : ∀ j u, css.flatten[j]? = some u → W.cell? (a.add j) = some u := by
        intro j u hu
        have hj : j < len * Ty.sz α := by rw [← h3, ← h4.flat]; exact (List.getElem?_eq_some_iff.1 hu).1
        have hsz := Ty.pos (α := α)
        have hi : j / Ty.sz α < len := Nat.div_lt_of_lt_mul (by rw [Nat.mul_comm]; exact hj)
        obtain ⟨cs', F, g1, _, _⟩ := h4.get (j / Ty.sz α) (by rw [h3]; exact hi)
        have g2 := h5 _ hi
        rw [g1] at g2
        have hmod := Nat.mod_lt j hsz
        have g3 := flat_get h4.sizes (j / Ty.sz α) g1 (j % Ty.sz α) hmod
        rw [Nat.mul_comm, Nat.div_add_mod] at g3
        have g4 := (cells?_get g2).2 (j % Ty.sz α) u (g3.symm.trans hu)
        rw [Go.Deep.add_add, hc, Nat.mul_comm, Nat.div_add_mod] at g4
        exact g4
      have hpos : 0 < css.flatten.length := by rw [h4.flat, h3]; exact Nat.mul_pos (by omega) (Ty.pos (α := α))
      have hw := hcell 0 _ (List.getElem?_eq_getElem hpos)
      have ha : a = ⟨a.block, a.off, none⟩ := by
        obtain ⟨b, o, s⟩ := a
        cases s with
        | none => rfl
        | some s => simp [World.cell?, Addr.add] at hw; split at hw <;> simp at hw
      refine ⟨ys, a.block :: Fs.flatten, some a, m, by rw [h3], by rw [h3]; exact hl, hm, (fun hh => by cases hh), .inr ⟨a.block, a.off, css, Fs, by rw [← ha], rfl, h4, fun j u hu => ?_, ?_⟩⟩
      · have hj : j < len * Ty.sz α := by rw [← h3, ← h4.flat]; exact (List.getElem?_eq_some_iff.1 hu).1
        refine ⟨?_, hf _ _ (List.mem_append.2 (.inl (mem_row (a := a) ?_)))⟩
        · have := hcell j u hu
          rw [ha, Addr.add_lit] at this
          exact this
        · rw [hc]; exact Nat.lt_of_lt_of_le hj (Nat.mul_le_mul_right _ hl)
      · exact World.block_lt_of_cell? W (a.add 0) hw |> fun h => by simpa [Addr.add] using h

/-- Fields one behind the other. -/
def OpnF (P : Program) (fs : List Go.Field) (off : Nat) (α : Type) [Ty α] : Prop := ∀ (H : Type) (enc : TypeId × Value → H) (W : World) (n : Nat) (cs : List Value) (xs : List (DataW H × List MemPlace)),
  off + Ty.sz α ≤ cs.length → (∀ (i : Nat) (f : Go.Field), fs[i]? = some f → DataW.trod enc P W 0 (fun _ => true) true n f.type ((cs.drop f.offset).take (P.cellsOf f.type)) = xs[i]?) → xs.length = fs.length → W.noneFrozen (xs.flatMap (·.2)) →
  ∃ (y : α) (F : Foot), KF W y ((cs.drop off).take (Ty.sz α)) F

theorem opnF_one {P : Program} {f : Go.Field} {off : Nat} {α : Type} [Ty α] (ho : f.offset = off) (hc : P.cellsOf f.type = Ty.sz α) (h : Opn P f.type α) : OpnF P [f] off α := by
  intro H enc W n cs xs _ hx hl hf
  match xs, hl with
  | [x], _ =>
    have := hx 0 f rfl
    rw [ho, hc] at this
    exact h H enc W n _ x (by simpa using this) (by simpa using hf)

theorem opnF_cons {P : Program} {f : Go.Field} {fs : List Go.Field} {off : Nat} {α β : Type} [Ty α] [Ty β] (ho : f.offset = off) (hc : P.cellsOf f.type = Ty.sz α) (h : Opn P f.type α) (hr : OpnF P fs (off + Ty.sz α) β) : OpnF P (f :: fs) off (α × β) := by
  intro H enc W n cs xs hlen hx hl hf
  have hlen' : off + (Ty.sz α + Ty.sz β) ≤ cs.length := hlen
  match xs, hl with
  | x :: xs, hl =>
    have h0 := hx 0 f rfl
    rw [ho, hc] at h0
    simp only [List.flatMap_cons] at hf
    obtain ⟨y, F, hy⟩ := h H enc W n _ x (by simpa using h0) (noneFrozen_left hf)
    obtain ⟨z, G, hz⟩ := hr H enc W n cs xs (by omega) (fun i g hg => by have := hx (i + 1) g (by simpa using hg); simpa using this) (by simpa using hl) (noneFrozen_right hf)
    refine ⟨(y, z), F ++ G, _, _, F, G, ?_, rfl, hy, hz⟩
    show (cs.drop off).take (Ty.sz α + Ty.sz β) = _
    rw [List.take_add, List.drop_drop]

theorem opn_struct {P : Program} {t : TypeId} {fs : Array Go.Field} {α β : Type} [Ty β] (f : α → β) (g : β → α) (hfg : ∀ y, f (g y) = y) (ht : P.underlying t = some (.struct fs)) (hc : P.cellsOf t = Ty.sz β) (h : OpnF P fs.toList 0 β) :
    @Opn P t α (Ty.iso f) := by
  intro H enc W fuel cs x hx hf
  obtain ⟨xs, n, _, rfl, hl, hlen, hfi⟩ := DataW.trod_struct ht hx
  obtain ⟨y, F, hy⟩ := h H enc W n cs xs (by rw [hl, hc]; omega) (fun i f hi => hfi i f (by simpa using hi)) (by simpa using hlen) hf
  refine ⟨g y, F, ?_⟩
  show KF W (f (g y)) cs F
  rw [hfg]
  rw [List.drop_zero, List.take_of_length_le (by rw [hl, hc]; exact Nat.le_refl _)] at hy
  exact hy

/-- An argument that is a slice. -/
theorem opened {P : Program} {H : Type} {enc : TypeId × Value → H} {W : World} {t : TypeId} {v : Value} {d : DataW H} {ps : List MemPlace} {α : Type} [Ty α] (ho : Opn P t α)
    (h : DataW.Trod enc P W 0 (fun _ => true) true t v d ps) (hf : W.noneFrozen ps) : ∃ (y : α) (F : Foot), KF W y v.cells.toList F := by
  obtain ⟨fuel, hf'⟩ := h
  exact ho H enc W fuel _ _ hf' hf
end Go.Proofs.Ytnchefajiedjiaa.AL
