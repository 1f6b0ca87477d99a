/- MemNoughts holds: what does nothing may be left out. No condition. -/
import Derived.Test.YtcolbaaecbhkdaaMemLaw
import Derived.Test.YtcolbaaecbhkdaaMemNoughtsV
namespace Go.Proofs.Ytcolbaaecbhkdaa.memNoughts
open Go.RowKit Go.Proofs.Ytcolbaaecbhkdaa.Ab
set_option maxRecDepth 100000 in
theorem lifted (os : Os) (started : os.Started) (H : Type) (enc : TypeId × Value → H) :
    ReturnsInHanded {} Try.checked os 10 .any (Rows.memNoughtsSpec.pre6 enc Try.prog Try.f10 Rows.memNoughtsRow.domain false) (Rows.memNoughtsSpec.post enc Try.prog Try.f10 false true false false) :=
  law_lifted (C := Try.checked) (tb := 4) Γ_ok own started (by kernel_rfl) Try.func10 laidOut (ks := [kRs]) (by kernel_rfl) rfl Try.underlying4 rfl
    (fun ds h => by
      have h2 : ds.length = 1 := by rw [h, Try.params10]; rfl
      match ds, h2 with
      | [_], _ => rfl)
    (ChangeSpec.witness6 (enc := enc) (C := Try.checked) false ⟨#[], #[.slice none 0 0], []⟩ 8 (by kernel_rfl) (by kernel_rfl) (by kernel_rfl) (by kernel_rfl))
    noughts_cd
theorem over : Rows.memNoughtsRow.holds Try.pinned (OpenSpec.ofChange Rows.memNoughtsSpec) :=
  OpenClaim.holds_of_wide 10 Try.f10 rfl rfl rfl rfl rfl rfl rfl ⟨rfl, rfl, rfl, rfl, rfl⟩ rfl rfl rfl rfl rfl (by kernel_rfl) Try.func10 (by kernel_rfl)
    (of_decide_eq_true (by kernel_rfl)) (by unfold Func.isWrapper; first | (rw [if_pos (by decide +kernel)]; kernel_rfl) | (rw [if_neg (by decide +kernel)]; exact ⟨rfl, rfl⟩))
    (fun os started H enc _ => lifted os started H enc)
end Go.Proofs.Ytcolbaaecbhkdaa.memNoughts
namespace Go.Proofs.Ytcolbaaecbhkdaa
/-- The row. -/
theorem memNoughts_holds : Rows.MemNoughtsSaid := memNoughts.over
end Go.Proofs.Ytcolbaaecbhkdaa
