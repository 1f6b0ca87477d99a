/- LazyLocks holds: a worker alone that is done has no lock, and changes one word a step at most. No condition. -/
import Derived.Test.YtnomicnfgdjdeaaLazyLocksV
import Derived.Test.YtnomicnfgdjdeaaLazyLaw
namespace Go.Proofs.Ytnomicnfgdjdeaa.lazyLocks
open Go.RowKit Go.Proofs.Ytnomicnfgdjdeaa.Ab
set_option maxRecDepth 100000 in
theorem lifted (os : Os) (started : os.Started) (H : Type) (enc : TypeId × Value → H) :
    ReturnsInHanded {} Try.checked os 7 .any (Rows.lazyLocksSpec.pre6 enc Try.prog Try.f7 Rows.lazyLocksRow.domain false) (Rows.lazyLocksSpec.post enc Try.prog Try.f7 false true false false) :=
  law_lifted (C := Try.checked) (tb := 4) Γ_ok own started (by kernel_rfl) Try.func7 laidOut (ks := [kIs, kI, kI]) (by kernel_rfl) rfl Try.underlying4 rfl
    (fun ds h => by
      have h2 : ds.length = 3 := by rw [h, Try.params7]; rfl
      match ds, h2 with
      | [_, _, _], _ => rfl)
    (ChangeSpec.witness6 (enc := enc) (C := Try.checked) false ⟨#[], #[.slice none 0 0, .int .i64 0, .int .i64 0], []⟩ 8 (by kernel_rfl) (by kernel_rfl) (by kernel_rfl) (by kernel_rfl))
    locks_cd
theorem over : Rows.lazyLocksRow.holds Try.pinned (OpenSpec.ofChange Rows.lazyLocksSpec) :=
  OpenClaim.holds_of_wide 7 Try.f7 rfl rfl rfl rfl rfl rfl rfl ⟨rfl, rfl, rfl, rfl, rfl⟩ rfl rfl rfl rfl rfl (by kernel_rfl) Try.func7 (by kernel_rfl)
    (of_decide_eq_true (by kernel_rfl)) (by unfold Func.isWrapper; first | (rw [if_pos (by decide +kernel)]; kernel_rfl) | (rw [if_neg (by decide +kernel)]; exact ⟨rfl, rfl⟩))
    (fun os started H enc _ => lifted os started H enc)
end Go.Proofs.Ytnomicnfgdjdeaa.lazyLocks
namespace Go.Proofs.Ytnomicnfgdjdeaa
/-- The row. -/
theorem lazyLocks_holds : Rows.LazyLocksSaid := lazyLocks.over
end Go.Proofs.Ytnomicnfgdjdeaa
