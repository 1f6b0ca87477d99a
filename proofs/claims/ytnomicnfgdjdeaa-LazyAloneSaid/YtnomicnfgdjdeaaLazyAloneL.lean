/- LazyAlone holds: of a chain that is still one worker alone does what a set does. No condition. -/
import Derived.Test.YtnomicnfgdjdeaaLazyAloneV
import Derived.Test.YtnomicnfgdjdeaaLazyLaw
namespace Go.Proofs.Ytnomicnfgdjdeaa.lazyAlone
open Go.RowKit Go.Proofs.Ytnomicnfgdjdeaa.Ab
set_option maxRecDepth 100000 in
theorem lifted (os : Os) (started : os.Started) (H : Type) (enc : TypeId × Value → H) :
    ReturnsInHanded {} Try.checked os 5 .any (Rows.lazyAloneSpec.pre6 enc Try.prog Try.f5 Rows.lazyAloneRow.domain false) (Rows.lazyAloneSpec.post enc Try.prog Try.f5 false true false false) :=
  law_lifted (C := Try.checked) (tb := 4) Γ_ok own started (by kernel_rfl) Try.func5 laidOut (ks := [kIs, kPs]) (by kernel_rfl) rfl Try.underlying4 rfl
    (fun ds h => by
      have h2 : ds.length = 2 := by rw [h, Try.params5]; rfl
      match ds, h2 with
      | [_, _], _ => rfl)
    (ChangeSpec.witness6 (enc := enc) (C := Try.checked) false ⟨#[], #[.slice none 0 0, .slice none 0 0], []⟩ 8 (by kernel_rfl) (by kernel_rfl) (by kernel_rfl) (by kernel_rfl))
    alone_cd
theorem over : Rows.lazyAloneRow.holds Try.pinned (OpenSpec.ofChange Rows.lazyAloneSpec) :=
  OpenClaim.holds_of_wide 5 Try.f5 rfl rfl rfl rfl rfl rfl rfl ⟨rfl, rfl, rfl, rfl, rfl⟩ rfl rfl rfl rfl rfl (by kernel_rfl) Try.func5 (by kernel_rfl)
    (of_decide_eq_true (by kernel_rfl)) (by unfold Func.isWrapper; first | (rw [if_pos (by decide +kernel)]; kernel_rfl) | (rw [if_neg (by decide +kernel)]; exact ⟨rfl, rfl⟩))
    (fun os started H enc _ => lifted os started H enc)
end Go.Proofs.Ytnomicnfgdjdeaa.lazyAlone
namespace Go.Proofs.Ytnomicnfgdjdeaa
/-- The row. -/
theorem lazyAlone_holds : Rows.LazyAloneSaid := lazyAlone.over
end Go.Proofs.Ytnomicnfgdjdeaa
