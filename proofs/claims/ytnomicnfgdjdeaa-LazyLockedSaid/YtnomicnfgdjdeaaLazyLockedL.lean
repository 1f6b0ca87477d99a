/- LazyLocked holds: where a lock that it wants is taken, one worker alone does not end, and changes no key. No condition. -/
import Derived.Test.YtnomicnfgdjdeaaLazyLockedV
import Derived.Test.YtnomicnfgdjdeaaLazyLaw
namespace Go.Proofs.Ytnomicnfgdjdeaa.lazyLocked
open Go.RowKit Go.Proofs.Ytnomicnfgdjdeaa.Ab
set_option maxRecDepth 100000 in
theorem lifted (os : Os) (started : os.Started) (H : Type) (enc : TypeId × Value → H) :
    ReturnsInHanded {} Try.checked os 6 .any (Rows.lazyLockedSpec.pre6 enc Try.prog Try.f6 Rows.lazyLockedRow.domain false) (Rows.lazyLockedSpec.post enc Try.prog Try.f6 false true false false) :=
  law_lifted (C := Try.checked) (tb := 4) Γ_ok own started (by kernel_rfl) Try.func6 laidOut (ks := [kIs, kI, kI, kI]) (by kernel_rfl) rfl Try.underlying4 rfl
    (fun ds h => by
      have h2 : ds.length = 4 := by rw [h, Try.params6]; rfl
      match ds, h2 with
      | [_, _, _, _], _ => rfl)
    (ChangeSpec.witness6 (enc := enc) (C := Try.checked) false ⟨#[], #[.slice none 0 0, .int .i64 0, .int .i64 0, .int .i64 0], []⟩ 8 (by kernel_rfl) (by kernel_rfl) (by kernel_rfl) (by kernel_rfl))
    locked_cd
theorem over : Rows.lazyLockedRow.holds Try.pinned (OpenSpec.ofChange Rows.lazyLockedSpec) :=
  OpenClaim.holds_of_wide 6 Try.f6 rfl rfl rfl rfl rfl rfl rfl ⟨rfl, rfl, rfl, rfl, rfl⟩ rfl rfl rfl rfl rfl (by kernel_rfl) Try.func6 (by kernel_rfl)
    (of_decide_eq_true (by kernel_rfl)) (by unfold Func.isWrapper; first | (rw [if_pos (by decide +kernel)]; kernel_rfl) | (rw [if_neg (by decide +kernel)]; exact ⟨rfl, rfl⟩))
    (fun os started H enc _ => lifted os started H enc)
end Go.Proofs.Ytnomicnfgdjdeaa.lazyLocked
namespace Go.Proofs.Ytnomicnfgdjdeaa
/-- The row. -/
theorem lazyLocked_holds : Rows.LazyLockedSaid := lazyLocked.over
end Go.Proofs.Ytnomicnfgdjdeaa
