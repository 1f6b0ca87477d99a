/- LazyThreads holds: by which thread, and to which node, an operation is done, makes no difference. No condition. -/
import Derived.Test.YtnomicnfgdjdeaaLazyThreadsV
import Derived.Test.YtnomicnfgdjdeaaLazyLaw
namespace Go.Proofs.Ytnomicnfgdjdeaa.lazyThreads
open Go.RowKit Go.Proofs.Ytnomicnfgdjdeaa.Ab
set_option maxRecDepth 100000 in
theorem lifted (os : Os) (started : os.Started) (H : Type) (enc : TypeId × Value → H) :
    ReturnsInHanded {} Try.checked os 8 .any (Rows.lazyThreadsSpec.pre6 enc Try.prog Try.f8 Rows.lazyThreadsRow.domain false) (Rows.lazyThreadsSpec.post enc Try.prog Try.f8 false true false false) :=
  law_lifted (C := Try.checked) (tb := 4) Γ_ok own started (by kernel_rfl) Try.func8 laidOut (ks := [kIs, kI, kI, kN 2, kN 2]) (by kernel_rfl) rfl Try.underlying4 rfl
    (fun ds h => by
      have h2 : ds.length = 5 := by rw [h, Try.params8]; rfl
      match ds, h2 with
      | [_, _, _, _, _], _ => rfl)
    (ChangeSpec.witness6 (enc := enc) (C := Try.checked) false ⟨#[], #[.slice none 0 0, .int .i64 0, .int .i64 0, .agg #[.int .i64 0, .int .i64 0], .agg #[.int .i64 0, .int .i64 0]], []⟩ 8 (by kernel_rfl) (by kernel_rfl) (by kernel_rfl) (by kernel_rfl))
    threads_cd
theorem over : Rows.lazyThreadsRow.holds Try.pinned (OpenSpec.ofChange Rows.lazyThreadsSpec) :=
  OpenClaim.holds_of_wide 8 Try.f8 rfl rfl rfl rfl rfl rfl rfl ⟨rfl, rfl, rfl, rfl, rfl⟩ rfl rfl rfl rfl rfl (by kernel_rfl) Try.func8 (by kernel_rfl)
    (of_decide_eq_true (by kernel_rfl)) (by unfold Func.isWrapper; first | (rw [if_pos (by decide +kernel)]; kernel_rfl) | (rw [if_neg (by decide +kernel)]; exact ⟨rfl, rfl⟩))
    (fun os started H enc _ => lifted os started H enc)
end Go.Proofs.Ytnomicnfgdjdeaa.lazyThreads
namespace Go.Proofs.Ytnomicnfgdjdeaa
/-- The row. -/
theorem lazyThreads_holds : Rows.LazyThreadsSaid := lazyThreads.over
end Go.Proofs.Ytnomicnfgdjdeaa
