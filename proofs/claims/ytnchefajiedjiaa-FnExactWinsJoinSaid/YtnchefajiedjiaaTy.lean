/-
  The types of the data: how each lies in memory.
-/
import Derived.Test.YtnchefajiedjiaaBase
namespace Go.Proofs.Ytnchefajiedjiaa.AL
open Go Go.RowKit
open Ty (KF)

structure Sample where
  T : Int
  V : Int
  deriving DecidableEq
instance instTySample : Ty Sample := Ty.iso (fun s : Sample => (s.T, s.V))
theorem kf_Sample {w : World} {x : Sample} {cs : List Value} {F : Foot} (h : KF w x cs F) : cs = [.int .i64 x.T, .int .i64 x.V] ∧ F = [] := by
  obtain ⟨_, _, _, _, rfl, rfl, ⟨rfl, rfl⟩, ⟨rfl, rfl⟩⟩ := h
  exact ⟨rfl, rfl⟩
theorem kf_Sample_mk (w : World) (x : Sample) : KF w x [.int .i64 x.T, .int .i64 x.V] [] := ⟨_, _, _, _, rfl, rfl, ⟨rfl, rfl⟩, ⟨rfl, rfl⟩⟩
theorem ks_Sample {w : World} {A : Option Addr} {xs : List Sample} {F : Foot} (h : KS w A xs F) (i : Nat) (hi : i < xs.length) :
    ∃ b o, A = some ⟨b, o, none⟩ ∧ b < w.heap.size ∧ b ∈ F ∧ w.cell? ⟨b, o + i * 2, none⟩ = some (.int .i64 xs[i].T) ∧ w.cell? ⟨b, o + i * 2 + 1, none⟩ = some (.int .i64 xs[i].V) := by
  obtain ⟨b, o, cs, G, hA, hb, hk, hin, hlt, hc⟩ := h.get i hi
  obtain ⟨rfl, _⟩ := kf_Sample hk
  exact ⟨b, o, hA, hlt, hb, hc 0 _ rfl, (by have := hc 1 _ rfl; rw [Nat.add_assoc]; exact this)⟩
theorem Sample.eq_iff (x y : Sample) : x = y ↔ x.T = y.T ∧ x.V = y.V := by cases x; cases y; simp
structure Win where
  From : Int
  Count : Int
  Sum : Int
  Low : Int
  High : Int
  Last : Int
  deriving DecidableEq
instance instTyWin : Ty Win := Ty.iso (fun s : Win => (s.From, (s.Count, (s.Sum, (s.Low, (s.High, s.Last))))))
theorem kf_Win {w : World} {x : Win} {cs : List Value} {F : Foot} (h : KF w x cs F) : cs = [.int .i64 x.From, .int .i64 x.Count, .int .i64 x.Sum, .int .i64 x.Low, .int .i64 x.High, .int .i64 x.Last] ∧ F = [] := by
  obtain ⟨_, _, _, _, rfl, rfl, ⟨rfl, rfl⟩, ⟨_, _, _, _, rfl, rfl, ⟨rfl, rfl⟩, ⟨_, _, _, _, rfl, rfl, ⟨rfl, rfl⟩, ⟨_, _, _, _, rfl, rfl, ⟨rfl, rfl⟩, ⟨_, _, _, _, rfl, rfl, ⟨rfl, rfl⟩, ⟨rfl, rfl⟩⟩⟩⟩⟩⟩ := h
  exact ⟨rfl, rfl⟩
theorem kf_Win_mk (w : World) (x : Win) : KF w x [.int .i64 x.From, .int .i64 x.Count, .int .i64 x.Sum, .int .i64 x.Low, .int .i64 x.High, .int .i64 x.Last] [] := ⟨_, _, _, _, rfl, rfl, ⟨rfl, rfl⟩, ⟨_, _, _, _, rfl, rfl, ⟨rfl, rfl⟩, ⟨_, _, _, _, rfl, rfl, ⟨rfl, rfl⟩, ⟨_, _, _, _, rfl, rfl, ⟨rfl, rfl⟩, ⟨_, _, _, _, rfl, rfl, ⟨rfl, rfl⟩, ⟨rfl, rfl⟩⟩⟩⟩⟩⟩
theorem ks_Win {w : World} {A : Option Addr} {xs : List Win} {F : Foot} (h : KS w A xs F) (i : Nat) (hi : i < xs.length) :
    ∃ b o, A = some ⟨b, o, none⟩ ∧ b < w.heap.size ∧ b ∈ F ∧ w.cell? ⟨b, o + i * 6, none⟩ = some (.int .i64 xs[i].From) ∧ w.cell? ⟨b, o + i * 6 + 1, none⟩ = some (.int .i64 xs[i].Count) ∧ w.cell? ⟨b, o + i * 6 + 2, none⟩ = some (.int .i64 xs[i].Sum) ∧ w.cell? ⟨b, o + i * 6 + 3, none⟩ = some (.int .i64 xs[i].Low) ∧ w.cell? ⟨b, o + i * 6 + 4, none⟩ = some (.int .i64 xs[i].High) ∧ w.cell? ⟨b, o + i * 6 + 5, none⟩ = some (.int .i64 xs[i].Last) := by
  obtain ⟨b, o, cs, G, hA, hb, hk, hin, hlt, hc⟩ := h.get i hi
  obtain ⟨rfl, _⟩ := kf_Win hk
  exact ⟨b, o, hA, hlt, hb, hc 0 _ rfl, (by have := hc 1 _ rfl; rw [Nat.add_assoc]; exact this), (by have := hc 2 _ rfl; rw [Nat.add_assoc]; exact this), (by have := hc 3 _ rfl; rw [Nat.add_assoc]; exact this), (by have := hc 4 _ rfl; rw [Nat.add_assoc]; exact this), (by have := hc 5 _ rfl; rw [Nat.add_assoc]; exact this)⟩
theorem Win.eq_iff (x y : Win) : x = y ↔ x.From = y.From ∧ x.Count = y.Count ∧ x.Sum = y.Sum ∧ x.Low = y.Low ∧ x.High = y.High ∧ x.Last = y.Last := by cases x; cases y; simp
structure Label where
  Name : ByteArray
  Word : ByteArray
  deriving DecidableEq
instance instTyLabel : Ty Label := Ty.iso (fun s : Label => (s.Name, s.Word))
theorem kf_Label {w : World} {x : Label} {cs : List Value} {F : Foot} (h : KF w x cs F) : cs = [.string x.Name, .string x.Word] ∧ F = [] := by
  obtain ⟨_, _, _, _, rfl, rfl, ⟨rfl, rfl⟩, ⟨rfl, rfl⟩⟩ := h
  exact ⟨rfl, rfl⟩
theorem kf_Label_mk (w : World) (x : Label) : KF w x [.string x.Name, .string x.Word] [] := ⟨_, _, _, _, rfl, rfl, ⟨rfl, rfl⟩, ⟨rfl, rfl⟩⟩
theorem ks_Label {w : World} {A : Option Addr} {xs : List Label} {F : Foot} (h : KS w A xs F) (i : Nat) (hi : i < xs.length) :
    ∃ b o, A = some ⟨b, o, none⟩ ∧ b < w.heap.size ∧ b ∈ F ∧ w.cell? ⟨b, o + i * 2, none⟩ = some (.string xs[i].Name) ∧ w.cell? ⟨b, o + i * 2 + 1, none⟩ = some (.string xs[i].Word) := by
  obtain ⟨b, o, cs, G, hA, hb, hk, hin, hlt, hc⟩ := h.get i hi
  obtain ⟨rfl, _⟩ := kf_Label hk
  exact ⟨b, o, hA, hlt, hb, hc 0 _ rfl, (by have := hc 1 _ rfl; rw [Nat.add_assoc]; exact this)⟩
theorem Label.eq_iff (x y : Label) : x = y ↔ x.Name = y.Name ∧ x.Word = y.Word := by cases x; cases y; simp
structure Match where
  Kind : Int
  Name : ByteArray
  Word : ByteArray
  deriving DecidableEq
instance instTyMatch : Ty Match := Ty.iso (fun s : Match => (s.Kind, (s.Name, s.Word)))
theorem kf_Match {w : World} {x : Match} {cs : List Value} {F : Foot} (h : KF w x cs F) : cs = [.int .i64 x.Kind, .string x.Name, .string x.Word] ∧ F = [] := by
  obtain ⟨_, _, _, _, rfl, rfl, ⟨rfl, rfl⟩, ⟨_, _, _, _, rfl, rfl, ⟨rfl, rfl⟩, ⟨rfl, rfl⟩⟩⟩ := h
  exact ⟨rfl, rfl⟩
theorem kf_Match_mk (w : World) (x : Match) : KF w x [.int .i64 x.Kind, .string x.Name, .string x.Word] [] := ⟨_, _, _, _, rfl, rfl, ⟨rfl, rfl⟩, ⟨_, _, _, _, rfl, rfl, ⟨rfl, rfl⟩, ⟨rfl, rfl⟩⟩⟩
theorem ks_Match {w : World} {A : Option Addr} {xs : List Match} {F : Foot} (h : KS w A xs F) (i : Nat) (hi : i < xs.length) :
    ∃ b o, A = some ⟨b, o, none⟩ ∧ b < w.heap.size ∧ b ∈ F ∧ w.cell? ⟨b, o + i * 3, none⟩ = some (.int .i64 xs[i].Kind) ∧ w.cell? ⟨b, o + i * 3 + 1, none⟩ = some (.string xs[i].Name) ∧ w.cell? ⟨b, o + i * 3 + 2, none⟩ = some (.string xs[i].Word) := by
  obtain ⟨b, o, cs, G, hA, hb, hk, hin, hlt, hc⟩ := h.get i hi
  obtain ⟨rfl, _⟩ := kf_Match hk
  exact ⟨b, o, hA, hlt, hb, hc 0 _ rfl, (by have := hc 1 _ rfl; rw [Nat.add_assoc]; exact this), (by have := hc 2 _ rfl; rw [Nat.add_assoc]; exact this)⟩
theorem Match.eq_iff (x y : Match) : x = y ↔ x.Kind = y.Kind ∧ x.Name = y.Name ∧ x.Word = y.Word := by cases x; cases y; simp
structure Row where
  Labels : _root_.List Label
  List : _root_.List Sample
  deriving DecidableEq
instance instTyRow : Ty Row := Ty.iso (fun s : Row => (s.Labels, s.List))
theorem kf_Row {w : World} {x : Row} {cs : List Value} {F : Foot} (h : KF w x cs F) : ∃ A0 c0 G0 A1 c1 G1, cs = [.slice A0 x.Labels.length c0, .slice A1 x.List.length c1] ∧ F = G0 ++ G1 ∧ x.Labels.length ≤ c0 ∧ c0 ≤ maxLen ∧ (A0 = none → c0 = 0) ∧ KS w A0 x.Labels G0 ∧ x.List.length ≤ c1 ∧ c1 ≤ maxLen ∧ (A1 = none → c1 = 0) ∧ KS w A1 x.List G1 := by
  obtain ⟨_, _, _, _, rfl, rfl, ⟨A0, c0, rfl, l0, m0, z0, k0⟩, ⟨A1, c1, rfl, l1, m1, z1, k1⟩⟩ := h
  exact ⟨A0, c0, _, A1, c1, _, rfl, by simp, l0, m0, z0, k0, l1, m1, z1, k1⟩
theorem kf_Row_mk (w : World) (x : Row) {A0 : Option Addr} {c0 : Nat} {G0 : Foot} (l0 : x.Labels.length ≤ c0) (m0 : c0 ≤ maxLen) (z0 : A0 = none → c0 = 0) (k0 : KS w A0 x.Labels G0) {A1 : Option Addr} {c1 : Nat} {G1 : Foot} (l1 : x.List.length ≤ c1) (m1 : c1 ≤ maxLen) (z1 : A1 = none → c1 = 0) (k1 : KS w A1 x.List G1) : KF w x [.slice A0 x.Labels.length c0, .slice A1 x.List.length c1] (G0 ++ G1) := by
  have h : KF w x _ _ := (show KF w ((x.Labels, x.List)) _ _ from ⟨_, _, _, _, rfl, rfl, ⟨A0, c0, rfl, l0, m0, z0, k0⟩, ⟨A1, c1, rfl, l1, m1, z1, k1⟩⟩)
  simpa using h
theorem ks_Row {w : World} {A : Option Addr} {xs : List Row} {F : Foot} (h : KS w A xs F) (i : Nat) (hi : i < xs.length) :
    ∃ b o A0 c0 G0 A1 c1 G1, A = some ⟨b, o, none⟩ ∧ b < w.heap.size ∧ b ∈ F ∧ w.cell? ⟨b, o + i * 2, none⟩ = some (.slice A0 xs[i].Labels.length c0) ∧ w.cell? ⟨b, o + i * 2 + 1, none⟩ = some (.slice A1 xs[i].List.length c1) ∧ xs[i].Labels.length ≤ c0 ∧ c0 ≤ maxLen ∧ (A0 = none → c0 = 0) ∧ KS w A0 xs[i].Labels G0 ∧ (∀ k ∈ G0, k ∈ F) ∧ xs[i].List.length ≤ c1 ∧ c1 ≤ maxLen ∧ (A1 = none → c1 = 0) ∧ KS w A1 xs[i].List G1 ∧ (∀ k ∈ G1, k ∈ F) := by
  obtain ⟨b, o, cs, G, hA, hb, hk, hin, hlt, hc⟩ := h.get i hi
  obtain ⟨A0, c0, G0, A1, c1, G1, rfl, hF, l0, m0, z0, k0, l1, m1, z1, k1⟩ := kf_Row hk
  exact ⟨b, o, A0, c0, G0, A1, c1, G1, hA, hlt, hb, hc 0 _ rfl, (by have := hc 1 _ rfl; rw [Nat.add_assoc]; exact this), l0, m0, z0, k0, fun k hk => hin k (by rw [hF]; simp [hk]), l1, m1, z1, k1, fun k hk => hin k (by rw [hF]; simp [hk])⟩
theorem Row.eq_iff (x y : Row) : x = y ↔ x.Labels = y.Labels ∧ x.List = y.List := by cases x; cases y; simp
structure Table where
  Rows : _root_.List Row
  High : Int
  Floor : Int
  deriving DecidableEq
instance instTyTable : Ty Table := Ty.iso (fun s : Table => (s.Rows, (s.High, s.Floor)))
theorem kf_Table {w : World} {x : Table} {cs : List Value} {F : Foot} (h : KF w x cs F) : ∃ A0 c0 G0, cs = [.slice A0 x.Rows.length c0, .int .i64 x.High, .int .i64 x.Floor] ∧ F = G0 ∧ x.Rows.length ≤ c0 ∧ c0 ≤ maxLen ∧ (A0 = none → c0 = 0) ∧ KS w A0 x.Rows G0 := by
  obtain ⟨_, _, _, _, rfl, rfl, ⟨A0, c0, rfl, l0, m0, z0, k0⟩, ⟨_, _, _, _, rfl, rfl, ⟨rfl, rfl⟩, ⟨rfl, rfl⟩⟩⟩ := h
  exact ⟨A0, c0, _, rfl, by simp, l0, m0, z0, k0⟩
theorem kf_Table_mk (w : World) (x : Table) {A0 : Option Addr} {c0 : Nat} {G0 : Foot} (l0 : x.Rows.length ≤ c0) (m0 : c0 ≤ maxLen) (z0 : A0 = none → c0 = 0) (k0 : KS w A0 x.Rows G0) : KF w x [.slice A0 x.Rows.length c0, .int .i64 x.High, .int .i64 x.Floor] (G0) := by
  have h : KF w x _ _ := (show KF w ((x.Rows, (x.High, x.Floor))) _ _ from ⟨_, _, _, _, rfl, rfl, ⟨A0, c0, rfl, l0, m0, z0, k0⟩, ⟨_, _, _, _, rfl, rfl, ⟨rfl, rfl⟩, ⟨rfl, rfl⟩⟩⟩)
  simpa using h
theorem ks_Table {w : World} {A : Option Addr} {xs : List Table} {F : Foot} (h : KS w A xs F) (i : Nat) (hi : i < xs.length) :
    ∃ b o A0 c0 G0, A = some ⟨b, o, none⟩ ∧ b < w.heap.size ∧ b ∈ F ∧ w.cell? ⟨b, o + i * 3, none⟩ = some (.slice A0 xs[i].Rows.length c0) ∧ w.cell? ⟨b, o + i * 3 + 1, none⟩ = some (.int .i64 xs[i].High) ∧ w.cell? ⟨b, o + i * 3 + 2, none⟩ = some (.int .i64 xs[i].Floor) ∧ xs[i].Rows.length ≤ c0 ∧ c0 ≤ maxLen ∧ (A0 = none → c0 = 0) ∧ KS w A0 xs[i].Rows G0 ∧ (∀ k ∈ G0, k ∈ F) := by
  obtain ⟨b, o, cs, G, hA, hb, hk, hin, hlt, hc⟩ := h.get i hi
  obtain ⟨A0, c0, G0, rfl, hF, l0, m0, z0, k0⟩ := kf_Table hk
  exact ⟨b, o, A0, c0, G0, hA, hlt, hb, hc 0 _ rfl, (by have := hc 1 _ rfl; rw [Nat.add_assoc]; exact this), (by have := hc 2 _ rfl; rw [Nat.add_assoc]; exact this), l0, m0, z0, k0, fun k hk => hin k (by rw [hF]; simp [hk])⟩
theorem Table.eq_iff (x y : Table) : x = y ↔ x.Rows = y.Rows ∧ x.High = y.High ∧ x.Floor = y.Floor := by cases x; cases y; simp
structure Block where
  Low : Int
  High : Int
  Rows : _root_.List Row
  deriving DecidableEq
instance instTyBlock : Ty Block := Ty.iso (fun s : Block => (s.Low, (s.High, s.Rows)))
theorem kf_Block {w : World} {x : Block} {cs : List Value} {F : Foot} (h : KF w x cs F) : ∃ A2 c2 G2, cs = [.int .i64 x.Low, .int .i64 x.High, .slice A2 x.Rows.length c2] ∧ F = G2 ∧ x.Rows.length ≤ c2 ∧ c2 ≤ maxLen ∧ (A2 = none → c2 = 0) ∧ KS w A2 x.Rows G2 := by
  obtain ⟨_, _, _, _, rfl, rfl, ⟨rfl, rfl⟩, ⟨_, _, _, _, rfl, rfl, ⟨rfl, rfl⟩, ⟨A2, c2, rfl, l2, m2, z2, k2⟩⟩⟩ := h
  exact ⟨A2, c2, _, rfl, by simp, l2, m2, z2, k2⟩
theorem kf_Block_mk (w : World) (x : Block) {A2 : Option Addr} {c2 : Nat} {G2 : Foot} (l2 : x.Rows.length ≤ c2) (m2 : c2 ≤ maxLen) (z2 : A2 = none → c2 = 0) (k2 : KS w A2 x.Rows G2) : KF w x [.int .i64 x.Low, .int .i64 x.High, .slice A2 x.Rows.length c2] (G2) := by
  have h : KF w x _ _ := (show KF w ((x.Low, (x.High, x.Rows))) _ _ from ⟨_, _, _, _, rfl, rfl, ⟨rfl, rfl⟩, ⟨_, _, _, _, rfl, rfl, ⟨rfl, rfl⟩, ⟨A2, c2, rfl, l2, m2, z2, k2⟩⟩⟩)
  simpa using h
theorem ks_Block {w : World} {A : Option Addr} {xs : List Block} {F : Foot} (h : KS w A xs F) (i : Nat) (hi : i < xs.length) :
    ∃ b o A2 c2 G2, A = some ⟨b, o, none⟩ ∧ b < w.heap.size ∧ b ∈ F ∧ w.cell? ⟨b, o + i * 3, none⟩ = some (.int .i64 xs[i].Low) ∧ w.cell? ⟨b, o + i * 3 + 1, none⟩ = some (.int .i64 xs[i].High) ∧ w.cell? ⟨b, o + i * 3 + 2, none⟩ = some (.slice A2 xs[i].Rows.length c2) ∧ xs[i].Rows.length ≤ c2 ∧ c2 ≤ maxLen ∧ (A2 = none → c2 = 0) ∧ KS w A2 xs[i].Rows G2 ∧ (∀ k ∈ G2, k ∈ F) := by
  obtain ⟨b, o, cs, G, hA, hb, hk, hin, hlt, hc⟩ := h.get i hi
  obtain ⟨A2, c2, G2, rfl, hF, l2, m2, z2, k2⟩ := kf_Block hk
  exact ⟨b, o, A2, c2, G2, hA, hlt, hb, hc 0 _ rfl, (by have := hc 1 _ rfl; rw [Nat.add_assoc]; exact this), (by have := hc 2 _ rfl; rw [Nat.add_assoc]; exact this), l2, m2, z2, k2, fun k hk => hin k (by rw [hF]; simp [hk])⟩
theorem Block.eq_iff (x y : Block) : x = y ↔ x.Low = y.Low ∧ x.High = y.High ∧ x.Rows = y.Rows := by cases x; cases y; simp
structure Held where
  Id : Int
  Block : Block
  deriving DecidableEq
instance instTyHeld : Ty Held := Ty.iso (fun s : Held => (s.Id, s.Block))
theorem kf_Held {w : World} {x : Held} {cs : List Value} {F : Foot} (h : KF w x cs F) : ∃ A3 c3 G3, cs = [.int .i64 x.Id, .int .i64 x.Block.Low, .int .i64 x.Block.High, .slice A3 x.Block.Rows.length c3] ∧ F = G3 ∧ x.Block.Rows.length ≤ c3 ∧ c3 ≤ maxLen ∧ (A3 = none → c3 = 0) ∧ KS w A3 x.Block.Rows G3 := by
  obtain ⟨_, _, _, _, rfl, rfl, ⟨rfl, rfl⟩, hs1⟩ := h
  obtain ⟨A3, c3, G3, rfl, rfl, l3, m3, z3, k3⟩ := kf_Block hs1
  exact ⟨A3, c3, _, rfl, by simp, l3, m3, z3, k3⟩
theorem kf_Held_mk (w : World) (x : Held) {A3 : Option Addr} {c3 : Nat} {G3 : Foot} (l3 : x.Block.Rows.length ≤ c3) (m3 : c3 ≤ maxLen) (z3 : A3 = none → c3 = 0) (k3 : KS w A3 x.Block.Rows G3) : KF w x [.int .i64 x.Id, .int .i64 x.Block.Low, .int .i64 x.Block.High, .slice A3 x.Block.Rows.length c3] (G3) := by
  have h : KF w x _ _ := (show KF w ((x.Id, x.Block)) _ _ from ⟨_, _, _, _, rfl, rfl, ⟨rfl, rfl⟩, (kf_Block_mk w x.Block l3 m3 z3 k3)⟩)
  simpa using h
theorem ks_Held {w : World} {A : Option Addr} {xs : List Held} {F : Foot} (h : KS w A xs F) (i : Nat) (hi : i < xs.length) :
    ∃ b o A3 c3 G3, A = some ⟨b, o, none⟩ ∧ b < w.heap.size ∧ b ∈ F ∧ w.cell? ⟨b, o + i * 4, none⟩ = some (.int .i64 xs[i].Id) ∧ w.cell? ⟨b, o + i * 4 + 1, none⟩ = some (.int .i64 xs[i].Block.Low) ∧ w.cell? ⟨b, o + i * 4 + 2, none⟩ = some (.int .i64 xs[i].Block.High) ∧ w.cell? ⟨b, o + i * 4 + 3, none⟩ = some (.slice A3 xs[i].Block.Rows.length c3) ∧ xs[i].Block.Rows.length ≤ c3 ∧ c3 ≤ maxLen ∧ (A3 = none → c3 = 0) ∧ KS w A3 xs[i].Block.Rows G3 ∧ (∀ k ∈ G3, k ∈ F) := by
  obtain ⟨b, o, cs, G, hA, hb, hk, hin, hlt, hc⟩ := h.get i hi
  obtain ⟨A3, c3, G3, rfl, hF, l3, m3, z3, k3⟩ := kf_Held hk
  exact ⟨b, o, A3, c3, G3, hA, hlt, hb, hc 0 _ rfl, (by have := hc 1 _ rfl; rw [Nat.add_assoc]; exact this), (by have := hc 2 _ rfl; rw [Nat.add_assoc]; exact this), (by have := hc 3 _ rfl; rw [Nat.add_assoc]; exact this), l3, m3, z3, k3, fun k hk => hin k (by rw [hF]; simp [hk])⟩
theorem Held.eq_iff (x y : Held) : x = y ↔ x.Id = y.Id ∧ x.Block = y.Block := by cases x; cases y; simp
structure Tomb where
  Before : Int
  List : _root_.List Match
  From : Int
  To : Int
  deriving DecidableEq
instance instTyTomb : Ty Tomb := Ty.iso (fun s : Tomb => (s.Before, (s.List, (s.From, s.To))))
theorem kf_Tomb {w : World} {x : Tomb} {cs : List Value} {F : Foot} (h : KF w x cs F) : ∃ A1 c1 G1, cs = [.int .i64 x.Before, .slice A1 x.List.length c1, .int .i64 x.From, .int .i64 x.To] ∧ F = G1 ∧ x.List.length ≤ c1 ∧ c1 ≤ maxLen ∧ (A1 = none → c1 = 0) ∧ KS w A1 x.List G1 := by
  obtain ⟨_, _, _, _, rfl, rfl, ⟨rfl, rfl⟩, ⟨_, _, _, _, rfl, rfl, ⟨A1, c1, rfl, l1, m1, z1, k1⟩, ⟨_, _, _, _, rfl, rfl, ⟨rfl, rfl⟩, ⟨rfl, rfl⟩⟩⟩⟩ := h
  exact ⟨A1, c1, _, rfl, by simp, l1, m1, z1, k1⟩
theorem kf_Tomb_mk (w : World) (x : Tomb) {A1 : Option Addr} {c1 : Nat} {G1 : Foot} (l1 : x.List.length ≤ c1) (m1 : c1 ≤ maxLen) (z1 : A1 = none → c1 = 0) (k1 : KS w A1 x.List G1) : KF w x [.int .i64 x.Before, .slice A1 x.List.length c1, .int .i64 x.From, .int .i64 x.To] (G1) := by
  have h : KF w x _ _ := (show KF w ((x.Before, (x.List, (x.From, x.To)))) _ _ from ⟨_, _, _, _, rfl, rfl, ⟨rfl, rfl⟩, ⟨_, _, _, _, rfl, rfl, ⟨A1, c1, rfl, l1, m1, z1, k1⟩, ⟨_, _, _, _, rfl, rfl, ⟨rfl, rfl⟩, ⟨rfl, rfl⟩⟩⟩⟩)
  simpa using h
theorem ks_Tomb {w : World} {A : Option Addr} {xs : List Tomb} {F : Foot} (h : KS w A xs F) (i : Nat) (hi : i < xs.length) :
    ∃ b o A1 c1 G1, A = some ⟨b, o, none⟩ ∧ b < w.heap.size ∧ b ∈ F ∧ w.cell? ⟨b, o + i * 4, none⟩ = some (.int .i64 xs[i].Before) ∧ w.cell? ⟨b, o + i * 4 + 1, none⟩ = some (.slice A1 xs[i].List.length c1) ∧ w.cell? ⟨b, o + i * 4 + 2, none⟩ = some (.int .i64 xs[i].From) ∧ w.cell? ⟨b, o + i * 4 + 3, none⟩ = some (.int .i64 xs[i].To) ∧ xs[i].List.length ≤ c1 ∧ c1 ≤ maxLen ∧ (A1 = none → c1 = 0) ∧ KS w A1 xs[i].List G1 ∧ (∀ k ∈ G1, k ∈ F) := by
  obtain ⟨b, o, cs, G, hA, hb, hk, hin, hlt, hc⟩ := h.get i hi
  obtain ⟨A1, c1, G1, rfl, hF, l1, m1, z1, k1⟩ := kf_Tomb hk
  exact ⟨b, o, A1, c1, G1, hA, hlt, hb, hc 0 _ rfl, (by have := hc 1 _ rfl; rw [Nat.add_assoc]; exact this), (by have := hc 2 _ rfl; rw [Nat.add_assoc]; exact this), (by have := hc 3 _ rfl; rw [Nat.add_assoc]; exact this), l1, m1, z1, k1, fun k hk => hin k (by rw [hF]; simp [hk])⟩
theorem Tomb.eq_iff (x y : Tomb) : x = y ↔ x.Before = y.Before ∧ x.List = y.List ∧ x.From = y.From ∧ x.To = y.To := by cases x; cases y; simp
structure Store where
  Next : Int
  Fresh : Int
  Head : Table
  Held : _root_.List Held
  Tombs : _root_.List Tomb
  deriving DecidableEq
instance instTyStore : Ty Store := Ty.iso (fun s : Store => (s.Next, (s.Fresh, (s.Head, (s.Held, s.Tombs)))))
theorem kf_Store {w : World} {x : Store} {cs : List Value} {F : Foot} (h : KF w x cs F) : ∃ A2 c2 G2 A5 c5 G5 A6 c6 G6, cs = [.int .i64 x.Next, .int .i64 x.Fresh, .slice A2 x.Head.Rows.length c2, .int .i64 x.Head.High, .int .i64 x.Head.Floor, .slice A5 x.Held.length c5, .slice A6 x.Tombs.length c6] ∧ F = G2 ++ G5 ++ G6 ∧ x.Head.Rows.length ≤ c2 ∧ c2 ≤ maxLen ∧ (A2 = none → c2 = 0) ∧ KS w A2 x.Head.Rows G2 ∧ x.Held.length ≤ c5 ∧ c5 ≤ maxLen ∧ (A5 = none → c5 = 0) ∧ KS w A5 x.Held G5 ∧ x.Tombs.length ≤ c6 ∧ c6 ≤ maxLen ∧ (A6 = none → c6 = 0) ∧ KS w A6 x.Tombs G6 := by
  obtain ⟨_, _, _, _, rfl, rfl, ⟨rfl, rfl⟩, ⟨_, _, _, _, rfl, rfl, ⟨rfl, rfl⟩, ⟨_, _, _, _, rfl, rfl, hs2, ⟨_, _, _, _, rfl, rfl, ⟨A5, c5, rfl, l5, m5, z5, k5⟩, ⟨A6, c6, rfl, l6, m6, z6, k6⟩⟩⟩⟩⟩ := h
  obtain ⟨A2, c2, G2, rfl, rfl, l2, m2, z2, k2⟩ := kf_Table hs2
  exact ⟨A2, c2, _, A5, c5, _, A6, c6, _, rfl, by simp, l2, m2, z2, k2, l5, m5, z5, k5, l6, m6, z6, k6⟩
theorem kf_Store_mk (w : World) (x : Store) {A2 : Option Addr} {c2 : Nat} {G2 : Foot} (l2 : x.Head.Rows.length ≤ c2) (m2 : c2 ≤ maxLen) (z2 : A2 = none → c2 = 0) (k2 : KS w A2 x.Head.Rows G2) {A5 : Option Addr} {c5 : Nat} {G5 : Foot} (l5 : x.Held.length ≤ c5) (m5 : c5 ≤ maxLen) (z5 : A5 = none → c5 = 0) (k5 : KS w A5 x.Held G5) {A6 : Option Addr} {c6 : Nat} {G6 : Foot} (l6 : x.Tombs.length ≤ c6) (m6 : c6 ≤ maxLen) (z6 : A6 = none → c6 = 0) (k6 : KS w A6 x.Tombs G6) : KF w x [.int .i64 x.Next, .int .i64 x.Fresh, .slice A2 x.Head.Rows.length c2, .int .i64 x.Head.High, .int .i64 x.Head.Floor, .slice A5 x.Held.length c5, .slice A6 x.Tombs.length c6] (G2 ++ G5 ++ G6) := by
  have h : KF w x _ _ := (show KF w ((x.Next, (x.Fresh, (x.Head, (x.Held, x.Tombs))))) _ _ from ⟨_, _, _, _, rfl, rfl, ⟨rfl, rfl⟩, ⟨_, _, _, _, rfl, rfl, ⟨rfl, rfl⟩, ⟨_, _, _, _, rfl, rfl, (kf_Table_mk w x.Head l2 m2 z2 k2), ⟨_, _, _, _, rfl, rfl, ⟨A5, c5, rfl, l5, m5, z5, k5⟩, ⟨A6, c6, rfl, l6, m6, z6, k6⟩⟩⟩⟩⟩)
  simpa using h
theorem ks_Store {w : World} {A : Option Addr} {xs : List Store} {F : Foot} (h : KS w A xs F) (i : Nat) (hi : i < xs.length) :
    ∃ b o A2 c2 G2 A5 c5 G5 A6 c6 G6, A = some ⟨b, o, none⟩ ∧ b < w.heap.size ∧ b ∈ F ∧ w.cell? ⟨b, o + i * 7, none⟩ = some (.int .i64 xs[i].Next) ∧ w.cell? ⟨b, o + i * 7 + 1, none⟩ = some (.int .i64 xs[i].Fresh) ∧ w.cell? ⟨b, o + i * 7 + 2, none⟩ = some (.slice A2 xs[i].Head.Rows.length c2) ∧ w.cell? ⟨b, o + i * 7 + 3, none⟩ = some (.int .i64 xs[i].Head.High) ∧ w.cell? ⟨b, o + i * 7 + 4, none⟩ = some (.int .i64 xs[i].Head.Floor) ∧ w.cell? ⟨b, o + i * 7 + 5, none⟩ = some (.slice A5 xs[i].Held.length c5) ∧ w.cell? ⟨b, o + i * 7 + 6, none⟩ = some (.slice A6 xs[i].Tombs.length c6) ∧ xs[i].Head.Rows.length ≤ c2 ∧ c2 ≤ maxLen ∧ (A2 = none → c2 = 0) ∧ KS w A2 xs[i].Head.Rows G2 ∧ (∀ k ∈ G2, k ∈ F) ∧ xs[i].Held.length ≤ c5 ∧ c5 ≤ maxLen ∧ (A5 = none → c5 = 0) ∧ KS w A5 xs[i].Held G5 ∧ (∀ k ∈ G5, k ∈ F) ∧ xs[i].Tombs.length ≤ c6 ∧ c6 ≤ maxLen ∧ (A6 = none → c6 = 0) ∧ KS w A6 xs[i].Tombs G6 ∧ (∀ k ∈ G6, k ∈ F) := by
  obtain ⟨b, o, cs, G, hA, hb, hk, hin, hlt, hc⟩ := h.get i hi
  obtain ⟨A2, c2, G2, A5, c5, G5, A6, c6, G6, rfl, hF, l2, m2, z2, k2, l5, m5, z5, k5, l6, m6, z6, k6⟩ := kf_Store hk
  exact ⟨b, o, A2, c2, G2, A5, c5, G5, A6, c6, G6, hA, hlt, hb, hc 0 _ rfl, (by have := hc 1 _ rfl; rw [Nat.add_assoc]; exact this), (by have := hc 2 _ rfl; rw [Nat.add_assoc]; exact this), (by have := hc 3 _ rfl; rw [Nat.add_assoc]; exact this), (by have := hc 4 _ rfl; rw [Nat.add_assoc]; exact this), (by have := hc 5 _ rfl; rw [Nat.add_assoc]; exact this), (by have := hc 6 _ rfl; rw [Nat.add_assoc]; exact this), l2, m2, z2, k2, fun k hk => hin k (by rw [hF]; simp [hk]), l5, m5, z5, k5, fun k hk => hin k (by rw [hF]; simp [hk]), l6, m6, z6, k6, fun k hk => hin k (by rw [hF]; simp [hk])⟩
theorem Store.eq_iff (x y : Store) : x = y ↔ x.Next = y.Next ∧ x.Fresh = y.Fresh ∧ x.Head = y.Head ∧ x.Held = y.Held ∧ x.Tombs = y.Tombs := by cases x; cases y; simp
structure Entry where
  Labels : _root_.List Label
  T : Int
  V : Int
  deriving DecidableEq
instance instTyEntry : Ty Entry := Ty.iso (fun s : Entry => (s.Labels, (s.T, s.V)))
theorem kf_Entry {w : World} {x : Entry} {cs : List Value} {F : Foot} (h : KF w x cs F) : ∃ A0 c0 G0, cs = [.slice A0 x.Labels.length c0, .int .i64 x.T, .int .i64 x.V] ∧ F = G0 ∧ x.Labels.length ≤ c0 ∧ c0 ≤ maxLen ∧ (A0 = none → c0 = 0) ∧ KS w A0 x.Labels G0 := by
  obtain ⟨_, _, _, _, rfl, rfl, ⟨A0, c0, rfl, l0, m0, z0, k0⟩, ⟨_, _, _, _, rfl, rfl, ⟨rfl, rfl⟩, ⟨rfl, rfl⟩⟩⟩ := h
  exact ⟨A0, c0, _, rfl, by simp, l0, m0, z0, k0⟩
theorem kf_Entry_mk (w : World) (x : Entry) {A0 : Option Addr} {c0 : Nat} {G0 : Foot} (l0 : x.Labels.length ≤ c0) (m0 : c0 ≤ maxLen) (z0 : A0 = none → c0 = 0) (k0 : KS w A0 x.Labels G0) : KF w x [.slice A0 x.Labels.length c0, .int .i64 x.T, .int .i64 x.V] (G0) := by
  have h : KF w x _ _ := (show KF w ((x.Labels, (x.T, x.V))) _ _ from ⟨_, _, _, _, rfl, rfl, ⟨A0, c0, rfl, l0, m0, z0, k0⟩, ⟨_, _, _, _, rfl, rfl, ⟨rfl, rfl⟩, ⟨rfl, rfl⟩⟩⟩)
  simpa using h
theorem ks_Entry {w : World} {A : Option Addr} {xs : List Entry} {F : Foot} (h : KS w A xs F) (i : Nat) (hi : i < xs.length) :
    ∃ b o A0 c0 G0, A = some ⟨b, o, none⟩ ∧ b < w.heap.size ∧ b ∈ F ∧ w.cell? ⟨b, o + i * 3, none⟩ = some (.slice A0 xs[i].Labels.length c0) ∧ w.cell? ⟨b, o + i * 3 + 1, none⟩ = some (.int .i64 xs[i].T) ∧ w.cell? ⟨b, o + i * 3 + 2, none⟩ = some (.int .i64 xs[i].V) ∧ xs[i].Labels.length ≤ c0 ∧ c0 ≤ maxLen ∧ (A0 = none → c0 = 0) ∧ KS w A0 xs[i].Labels G0 ∧ (∀ k ∈ G0, k ∈ F) := by
  obtain ⟨b, o, cs, G, hA, hb, hk, hin, hlt, hc⟩ := h.get i hi
  obtain ⟨A0, c0, G0, rfl, hF, l0, m0, z0, k0⟩ := kf_Entry hk
  exact ⟨b, o, A0, c0, G0, hA, hlt, hb, hc 0 _ rfl, (by have := hc 1 _ rfl; rw [Nat.add_assoc]; exact this), (by have := hc 2 _ rfl; rw [Nat.add_assoc]; exact this), l0, m0, z0, k0, fun k hk => hin k (by rw [hF]; simp [hk])⟩
theorem Entry.eq_iff (x y : Entry) : x = y ↔ x.Labels = y.Labels ∧ x.T = y.T ∧ x.V = y.V := by cases x; cases y; simp
structure FileText where
  Id : Int
  Text : ByteArray
  deriving DecidableEq
instance instTyFileText : Ty FileText := Ty.iso (fun s : FileText => (s.Id, s.Text))
theorem kf_FileText {w : World} {x : FileText} {cs : List Value} {F : Foot} (h : KF w x cs F) : cs = [.int .i64 x.Id, .string x.Text] ∧ F = [] := by
  obtain ⟨_, _, _, _, rfl, rfl, ⟨rfl, rfl⟩, ⟨rfl, rfl⟩⟩ := h
  exact ⟨rfl, rfl⟩
theorem kf_FileText_mk (w : World) (x : FileText) : KF w x [.int .i64 x.Id, .string x.Text] [] := ⟨_, _, _, _, rfl, rfl, ⟨rfl, rfl⟩, ⟨rfl, rfl⟩⟩
theorem ks_FileText {w : World} {A : Option Addr} {xs : List FileText} {F : Foot} (h : KS w A xs F) (i : Nat) (hi : i < xs.length) :
    ∃ b o, A = some ⟨b, o, none⟩ ∧ b < w.heap.size ∧ b ∈ F ∧ w.cell? ⟨b, o + i * 2, none⟩ = some (.int .i64 xs[i].Id) ∧ w.cell? ⟨b, o + i * 2 + 1, none⟩ = some (.string xs[i].Text) := by
  obtain ⟨b, o, cs, G, hA, hb, hk, hin, hlt, hc⟩ := h.get i hi
  obtain ⟨rfl, _⟩ := kf_FileText hk
  exact ⟨b, o, hA, hlt, hb, hc 0 _ rfl, (by have := hc 1 _ rfl; rw [Nat.add_assoc]; exact this)⟩
theorem FileText.eq_iff (x y : FileText) : x = y ↔ x.Id = y.Id ∧ x.Text = y.Text := by cases x; cases y; simp
structure Write where
  Kind : Int
  Id : Int
  Text : ByteArray
  deriving DecidableEq
instance instTyWrite : Ty Write := Ty.iso (fun s : Write => (s.Kind, (s.Id, s.Text)))
theorem kf_Write {w : World} {x : Write} {cs : List Value} {F : Foot} (h : KF w x cs F) : cs = [.int .i64 x.Kind, .int .i64 x.Id, .string x.Text] ∧ F = [] := by
  obtain ⟨_, _, _, _, rfl, rfl, ⟨rfl, rfl⟩, ⟨_, _, _, _, rfl, rfl, ⟨rfl, rfl⟩, ⟨rfl, rfl⟩⟩⟩ := h
  exact ⟨rfl, rfl⟩
theorem kf_Write_mk (w : World) (x : Write) : KF w x [.int .i64 x.Kind, .int .i64 x.Id, .string x.Text] [] := ⟨_, _, _, _, rfl, rfl, ⟨rfl, rfl⟩, ⟨_, _, _, _, rfl, rfl, ⟨rfl, rfl⟩, ⟨rfl, rfl⟩⟩⟩
theorem ks_Write {w : World} {A : Option Addr} {xs : List Write} {F : Foot} (h : KS w A xs F) (i : Nat) (hi : i < xs.length) :
    ∃ b o, A = some ⟨b, o, none⟩ ∧ b < w.heap.size ∧ b ∈ F ∧ w.cell? ⟨b, o + i * 3, none⟩ = some (.int .i64 xs[i].Kind) ∧ w.cell? ⟨b, o + i * 3 + 1, none⟩ = some (.int .i64 xs[i].Id) ∧ w.cell? ⟨b, o + i * 3 + 2, none⟩ = some (.string xs[i].Text) := by
  obtain ⟨b, o, cs, G, hA, hb, hk, hin, hlt, hc⟩ := h.get i hi
  obtain ⟨rfl, _⟩ := kf_Write hk
  exact ⟨b, o, hA, hlt, hb, hc 0 _ rfl, (by have := hc 1 _ rfl; rw [Nat.add_assoc]; exact this), (by have := hc 2 _ rfl; rw [Nat.add_assoc]; exact this)⟩
theorem Write.eq_iff (x y : Write) : x = y ↔ x.Kind = y.Kind ∧ x.Id = y.Id ∧ x.Text = y.Text := by cases x; cases y; simp
structure Disk where
  Log : ByteArray
  List : ByteArray
  Files : _root_.List FileText
  deriving DecidableEq
instance instTyDisk : Ty Disk := Ty.iso (fun s : Disk => (s.Log, (s.List, s.Files)))
theorem kf_Disk {w : World} {x : Disk} {cs : List Value} {F : Foot} (h : KF w x cs F) : ∃ A2 c2 G2, cs = [.string x.Log, .string x.List, .slice A2 x.Files.length c2] ∧ F = G2 ∧ x.Files.length ≤ c2 ∧ c2 ≤ maxLen ∧ (A2 = none → c2 = 0) ∧ KS w A2 x.Files G2 := by
  obtain ⟨_, _, _, _, rfl, rfl, ⟨rfl, rfl⟩, ⟨_, _, _, _, rfl, rfl, ⟨rfl, rfl⟩, ⟨A2, c2, rfl, l2, m2, z2, k2⟩⟩⟩ := h
  exact ⟨A2, c2, _, rfl, by simp, l2, m2, z2, k2⟩
theorem kf_Disk_mk (w : World) (x : Disk) {A2 : Option Addr} {c2 : Nat} {G2 : Foot} (l2 : x.Files.length ≤ c2) (m2 : c2 ≤ maxLen) (z2 : A2 = none → c2 = 0) (k2 : KS w A2 x.Files G2) : KF w x [.string x.Log, .string x.List, .slice A2 x.Files.length c2] (G2) := by
  have h : KF w x _ _ := (show KF w ((x.Log, (x.List, x.Files))) _ _ from ⟨_, _, _, _, rfl, rfl, ⟨rfl, rfl⟩, ⟨_, _, _, _, rfl, rfl, ⟨rfl, rfl⟩, ⟨A2, c2, rfl, l2, m2, z2, k2⟩⟩⟩)
  simpa using h
theorem ks_Disk {w : World} {A : Option Addr} {xs : List Disk} {F : Foot} (h : KS w A xs F) (i : Nat) (hi : i < xs.length) :
    ∃ b o A2 c2 G2, A = some ⟨b, o, none⟩ ∧ b < w.heap.size ∧ b ∈ F ∧ w.cell? ⟨b, o + i * 3, none⟩ = some (.string xs[i].Log) ∧ w.cell? ⟨b, o + i * 3 + 1, none⟩ = some (.string xs[i].List) ∧ w.cell? ⟨b, o + i * 3 + 2, none⟩ = some (.slice A2 xs[i].Files.length c2) ∧ xs[i].Files.length ≤ c2 ∧ c2 ≤ maxLen ∧ (A2 = none → c2 = 0) ∧ KS w A2 xs[i].Files G2 ∧ (∀ k ∈ G2, k ∈ F) := by
  obtain ⟨b, o, cs, G, hA, hb, hk, hin, hlt, hc⟩ := h.get i hi
  obtain ⟨A2, c2, G2, rfl, hF, l2, m2, z2, k2⟩ := kf_Disk hk
  exact ⟨b, o, A2, c2, G2, hA, hlt, hb, hc 0 _ rfl, (by have := hc 1 _ rfl; rw [Nat.add_assoc]; exact this), (by have := hc 2 _ rfl; rw [Nat.add_assoc]; exact this), l2, m2, z2, k2, fun k hk => hin k (by rw [hF]; simp [hk])⟩
theorem Disk.eq_iff (x y : Disk) : x = y ↔ x.Log = y.Log ∧ x.List = y.List ∧ x.Files = y.Files := by cases x; cases y; simp
structure Wld where
  Disk : Disk
  Up : Bool
  Store : Store
  Table : Table
  deriving DecidableEq
instance instTyWld : Ty Wld := Ty.iso (fun s : Wld => (s.Disk, (s.Up, (s.Store, s.Table))))
theorem kf_Wld {w : World} {x : Wld} {cs : List Value} {F : Foot} (h : KF w x cs F) : ∃ A2 c2 G2 A6 c6 G6 A9 c9 G9 A10 c10 G10 A11 c11 G11, cs = [.string x.Disk.Log, .string x.Disk.List, .slice A2 x.Disk.Files.length c2, .bool x.Up, .int .i64 x.Store.Next, .int .i64 x.Store.Fresh, .slice A6 x.Store.Head.Rows.length c6, .int .i64 x.Store.Head.High, .int .i64 x.Store.Head.Floor, .slice A9 x.Store.Held.length c9, .slice A10 x.Store.Tombs.length c10, .slice A11 x.Table.Rows.length c11, .int .i64 x.Table.High, .int .i64 x.Table.Floor] ∧ F = G2 ++ G6 ++ G9 ++ G10 ++ G11 ∧ x.Disk.Files.length ≤ c2 ∧ c2 ≤ maxLen ∧ (A2 = none → c2 = 0) ∧ KS w A2 x.Disk.Files G2 ∧ x.Store.Head.Rows.length ≤ c6 ∧ c6 ≤ maxLen ∧ (A6 = none → c6 = 0) ∧ KS w A6 x.Store.Head.Rows G6 ∧ x.Store.Held.length ≤ c9 ∧ c9 ≤ maxLen ∧ (A9 = none → c9 = 0) ∧ KS w A9 x.Store.Held G9 ∧ x.Store.Tombs.length ≤ c10 ∧ c10 ≤ maxLen ∧ (A10 = none → c10 = 0) ∧ KS w A10 x.Store.Tombs G10 ∧ x.Table.Rows.length ≤ c11 ∧ c11 ≤ maxLen ∧ (A11 = none → c11 = 0) ∧ KS w A11 x.Table.Rows G11 := by
  obtain ⟨_, _, _, _, rfl, rfl, hs0, ⟨_, _, _, _, rfl, rfl, ⟨rfl, rfl⟩, ⟨_, _, _, _, rfl, rfl, hs2, hs3⟩⟩⟩ := h
  obtain ⟨A2, c2, G2, rfl, rfl, l2, m2, z2, k2⟩ := kf_Disk hs0
  obtain ⟨A6, c6, G6, A9, c9, G9, A10, c10, G10, rfl, rfl, l6, m6, z6, k6, l9, m9, z9, k9, l10, m10, z10, k10⟩ := kf_Store hs2
  obtain ⟨A11, c11, G11, rfl, rfl, l11, m11, z11, k11⟩ := kf_Table hs3
  exact ⟨A2, c2, _, A6, c6, _, A9, c9, _, A10, c10, _, A11, c11, _, rfl, by simp, l2, m2, z2, k2, l6, m6, z6, k6, l9, m9, z9, k9, l10, m10, z10, k10, l11, m11, z11, k11⟩
theorem kf_Wld_mk (w : World) (x : Wld) {A2 : Option Addr} {c2 : Nat} {G2 : Foot} (l2 : x.Disk.Files.length ≤ c2) (m2 : c2 ≤ maxLen) (z2 : A2 = none → c2 = 0) (k2 : KS w A2 x.Disk.Files G2) {A6 : Option Addr} {c6 : Nat} {G6 : Foot} (l6 : x.Store.Head.Rows.length ≤ c6) (m6 : c6 ≤ maxLen) (z6 : A6 = none → c6 = 0) (k6 : KS w A6 x.Store.Head.Rows G6) {A9 : Option Addr} {c9 : Nat} {G9 : Foot} (l9 : x.Store.Held.length ≤ c9) (m9 : c9 ≤ maxLen) (z9 : A9 = none → c9 = 0) (k9 : KS w A9 x.Store.Held G9) {A10 : Option Addr} {c10 : Nat} {G10 : Foot} (l10 : x.Store.Tombs.length ≤ c10) (m10 : c10 ≤ maxLen) (z10 : A10 = none → c10 = 0) (k10 : KS w A10 x.Store.Tombs G10) {A11 : Option Addr} {c11 : Nat} {G11 : Foot} (l11 : x.Table.Rows.length ≤ c11) (m11 : c11 ≤ maxLen) (z11 : A11 = none → c11 = 0) (k11 : KS w A11 x.Table.Rows G11) : KF w x [.string x.Disk.Log, .string x.Disk.List, .slice A2 x.Disk.Files.length c2, .bool x.Up, .int .i64 x.Store.Next, .int .i64 x.Store.Fresh, .slice A6 x.Store.Head.Rows.length c6, .int .i64 x.Store.Head.High, .int .i64 x.Store.Head.Floor, .slice A9 x.Store.Held.length c9, .slice A10 x.Store.Tombs.length c10, .slice A11 x.Table.Rows.length c11, .int .i64 x.Table.High, .int .i64 x.Table.Floor] (G2 ++ G6 ++ G9 ++ G10 ++ G11) := by
  have h : KF w x _ _ := (show KF w ((x.Disk, (x.Up, (x.Store, x.Table)))) _ _ from ⟨_, _, _, _, rfl, rfl, (kf_Disk_mk w x.Disk l2 m2 z2 k2), ⟨_, _, _, _, rfl, rfl, ⟨rfl, rfl⟩, ⟨_, _, _, _, rfl, rfl, (kf_Store_mk w x.Store l6 m6 z6 k6 l9 m9 z9 k9 l10 m10 z10 k10), (kf_Table_mk w x.Table l11 m11 z11 k11)⟩⟩⟩)
  simpa using h
theorem ks_Wld {w : World} {A : Option Addr} {xs : List Wld} {F : Foot} (h : KS w A xs F) (i : Nat) (hi : i < xs.length) :
    ∃ b o A2 c2 G2 A6 c6 G6 A9 c9 G9 A10 c10 G10 A11 c11 G11, A = some ⟨b, o, none⟩ ∧ b < w.heap.size ∧ b ∈ F ∧ w.cell? ⟨b, o + i * 14, none⟩ = some (.string xs[i].Disk.Log) ∧ w.cell? ⟨b, o + i * 14 + 1, none⟩ = some (.string xs[i].Disk.List) ∧ w.cell? ⟨b, o + i * 14 + 2, none⟩ = some (.slice A2 xs[i].Disk.Files.length c2) ∧ w.cell? ⟨b, o + i * 14 + 3, none⟩ = some (.bool xs[i].Up) ∧ w.cell? ⟨b, o + i * 14 + 4, none⟩ = some (.int .i64 xs[i].Store.Next) ∧ w.cell? ⟨b, o + i * 14 + 5, none⟩ = some (.int .i64 xs[i].Store.Fresh) ∧ w.cell? ⟨b, o + i * 14 + 6, none⟩ = some (.slice A6 xs[i].Store.Head.Rows.length c6) ∧ w.cell? ⟨b, o + i * 14 + 7, none⟩ = some (.int .i64 xs[i].Store.Head.High) ∧ w.cell? ⟨b, o + i * 14 + 8, none⟩ = some (.int .i64 xs[i].Store.Head.Floor) ∧ w.cell? ⟨b, o + i * 14 + 9, none⟩ = some (.slice A9 xs[i].Store.Held.length c9) ∧ w.cell? ⟨b, o + i * 14 + 10, none⟩ = some (.slice A10 xs[i].Store.Tombs.length c10) ∧ w.cell? ⟨b, o + i * 14 + 11, none⟩ = some (.slice A11 xs[i].Table.Rows.length c11) ∧ w.cell? ⟨b, o + i * 14 + 12, none⟩ = some (.int .i64 xs[i].Table.High) ∧ w.cell? ⟨b, o + i * 14 + 13, none⟩ = some (.int .i64 xs[i].Table.Floor) ∧ xs[i].Disk.Files.length ≤ c2 ∧ c2 ≤ maxLen ∧ (A2 = none → c2 = 0) ∧ KS w A2 xs[i].Disk.Files G2 ∧ (∀ k ∈ G2, k ∈ F) ∧ xs[i].Store.Head.Rows.length ≤ c6 ∧ c6 ≤ maxLen ∧ (A6 = none → c6 = 0) ∧ KS w A6 xs[i].Store.Head.Rows G6 ∧ (∀ k ∈ G6, k ∈ F) ∧ xs[i].Store.Held.length ≤ c9 ∧ c9 ≤ maxLen ∧ (A9 = none → c9 = 0) ∧ KS w A9 xs[i].Store.Held G9 ∧ (∀ k ∈ G9, k ∈ F) ∧ xs[i].Store.Tombs.length ≤ c10 ∧ c10 ≤ maxLen ∧ (A10 = none → c10 = 0) ∧ KS w A10 xs[i].Store.Tombs G10 ∧ (∀ k ∈ G10, k ∈ F) ∧ xs[i].Table.Rows.length ≤ c11 ∧ c11 ≤ maxLen ∧ (A11 = none → c11 = 0) ∧ KS w A11 xs[i].Table.Rows G11 ∧ (∀ k ∈ G11, k ∈ F) := by
  obtain ⟨b, o, cs, G, hA, hb, hk, hin, hlt, hc⟩ := h.get i hi
  obtain ⟨A2, c2, G2, A6, c6, G6, A9, c9, G9, A10, c10, G10, A11, c11, G11, rfl, hF, l2, m2, z2, k2, l6, m6, z6, k6, l9, m9, z9, k9, l10, m10, z10, k10, l11, m11, z11, k11⟩ := kf_Wld hk
  exact ⟨b, o, A2, c2, G2, A6, c6, G6, A9, c9, G9, A10, c10, G10, A11, c11, G11, hA, hlt, hb, hc 0 _ rfl, (by have := hc 1 _ rfl; rw [Nat.add_assoc]; exact this), (by have := hc 2 _ rfl; rw [Nat.add_assoc]; exact this), (by have := hc 3 _ rfl; rw [Nat.add_assoc]; exact this), (by have := hc 4 _ rfl; rw [Nat.add_assoc]; exact this), (by have := hc 5 _ rfl; rw [Nat.add_assoc]; exact this), (by have := hc 6 _ rfl; rw [Nat.add_assoc]; exact this), (by have := hc 7 _ rfl; rw [Nat.add_assoc]; exact this), (by have := hc 8 _ rfl; rw [Nat.add_assoc]; exact this), (by have := hc 9 _ rfl; rw [Nat.add_assoc]; exact this), (by have := hc 10 _ rfl; rw [Nat.add_assoc]; exact this), (by have := hc 11 _ rfl; rw [Nat.add_assoc]; exact this), (by have := hc 12 _ rfl; rw [Nat.add_assoc]; exact this), (by have := hc 13 _ rfl; rw [Nat.add_assoc]; exact this), l2, m2, z2, k2, fun k hk => hin k (by rw [hF]; simp [hk]), l6, m6, z6, k6, fun k hk => hin k (by rw [hF]; simp [hk]), l9, m9, z9, k9, fun k hk => hin k (by rw [hF]; simp [hk]), l10, m10, z10, k10, fun k hk => hin k (by rw [hF]; simp [hk]), l11, m11, z11, k11, fun k hk => hin k (by rw [hF]; simp [hk])⟩
theorem Wld.eq_iff (x y : Wld) : x = y ↔ x.Disk = y.Disk ∧ x.Up = y.Up ∧ x.Store = y.Store ∧ x.Table = y.Table := by cases x; cases y; simp

end Go.Proofs.Ytnchefajiedjiaa.AL
