/- MemTells holds: what accesses do, and find, is as the document says. No condition. -/
import Derived.Test.YtcolbaaecbhkdaaMemLaw
import Derived.Test.YtcolbaaecbhkdaaMemTellsV
namespace Go.Proofs.Ytcolbaaecbhkdaa.memTells
open Go.RowKit Go.Proofs.Ytcolbaaecbhkdaa.Ab
set_option maxRecDepth 100000 in
theorem lifted (os : Os) (started : os.Started) (H : Type) (enc : TypeId × Value → H) :
    ReturnsInHanded {} Try.checked os 3 .any (Rows.memTellsSpec.pre6 enc Try.prog Try.f3 Rows.memTellsRow.domain false) (Rows.memTellsSpec.post enc Try.prog Try.f3 false true false false) :=
  law_lifted (C := Try.checked) (tb := 4) Γ_ok own started (by kernel_rfl) Try.func3 laidOut (ks := [kIs, kRs, kR, kRs]) (by kernel_rfl) rfl Try.underlying4 rfl
    (fun ds h => by
      have h2 : ds.length = 4 := by rw [h, Try.params3]; rfl
      match ds, h2 with
      | [_, _, _, _], _ => rfl)
    (ChangeSpec.witness6 (enc := enc) (C := Try.checked) false ⟨#[], #[.slice none 0 0, .slice none 0 0, .agg #[.int .i64 0, .int .i64 0, .int .i64 0, .int .i64 0], .slice none 0 0], []⟩ 8 (by kernel_rfl) (by kernel_rfl) (by kernel_rfl) (by kernel_rfl))
    tells_cd
theorem over : Rows.memTellsRow.holds Try.pinned (OpenSpec.ofChange Rows.memTellsSpec) :=
  OpenClaim.holds_of_wide 3 Try.f3 rfl rfl rfl rfl rfl rfl rfl ⟨rfl, rfl, rfl, rfl, rfl⟩ rfl rfl rfl rfl rfl (by kernel_rfl) Try.func3 (by kernel_rfl)
    (of_decide_eq_true (by kernel_rfl)) (by unfold Func.isWrapper; first | (rw [if_pos (by decide +kernel)]; kernel_rfl) | (rw [if_neg (by decide +kernel)]; exact ⟨rfl, rfl⟩))
    (fun os started H enc _ => lifted os started H enc)
end Go.Proofs.Ytcolbaaecbhkdaa.memTells
namespace Go.Proofs.Ytcolbaaecbhkdaa
/-- The row. -/
theorem memTells_holds : Rows.MemTellsSaid := memTells.over
end Go.Proofs.Ytcolbaaecbhkdaa
