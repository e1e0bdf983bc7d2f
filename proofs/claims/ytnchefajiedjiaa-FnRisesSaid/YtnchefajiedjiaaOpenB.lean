/-
  Arguments of bytes and bools. No program in sight.
-/
import Derived.Test.YtnchefajiedjiaaOpen
namespace Go.Proofs.Ytnchefajiedjiaa.AL
open Go Go.RowKit
open Ty (KF)
theorem opn_u8 {P : Program} {t : TypeId} (ht : P.underlying t = some (.int .u8)) : Opn P t UInt8 := by
  intro H enc W fuel cs x h _
  obtain ⟨n, rfl, _, hw⟩ := DataW.trod_int ht h
  have hb : 0 ≤ n ∧ n ≤ 255 := by
    simp [Lit.wf, IntKind.min, IntKind.max, IntKind.bits, IntKind.signed] at hw
    omega
  obtain ⟨m, rfl⟩ := Int.eq_ofNat_of_zero_le hb.1
  refine ⟨UInt8.ofNat m, [], ?_, rfl⟩
  have : (UInt8.ofNat m).toNat = m := by simp; omega
  rw [this]
end Go.Proofs.Ytnchefajiedjiaa.AL
