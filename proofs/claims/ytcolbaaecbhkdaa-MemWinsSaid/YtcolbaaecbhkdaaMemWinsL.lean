/- MemWins holds: of Cas with one Old the first one alone is Done. No condition. -/
import Derived.Test.YtcolbaaecbhkdaaMemLaw
import Derived.Test.YtcolbaaecbhkdaaMemWinsV
namespace Go.Proofs.Ytcolbaaecbhkdaa.memWins
open Go.RowKit Go.Proofs.Ytcolbaaecbhkdaa.Ab
set_option maxRecDepth 100000 in
theorem lifted (os : Os) (started : os.Started) (H : Type) (enc : TypeId × Value → H) :
    ReturnsInHanded {} Try.checked os 5 .any (Rows.memWinsSpec.pre6 enc Try.prog Try.f5 Rows.memWinsRow.domain false) (Rows.memWinsSpec.post enc Try.prog Try.f5 false true false false) :=
  law_lifted (C := Try.checked) (tb := 4) Γ_ok own started (by kernel_rfl) Try.func5 laidOut (ks := [kI, kIs]) (by kernel_rfl) rfl Try.underlying4 rfl
    (fun ds h => by
      have h2 : ds.length = 2 := by rw [h, Try.params5]; rfl
      match ds, h2 with
      | [_, _], _ => rfl)
    (ChangeSpec.witness6 (enc := enc) (C := Try.checked) false ⟨#[], #[.int .i64 0, .slice none 0 0], []⟩ 8 (by kernel_rfl) (by kernel_rfl) (by kernel_rfl) (by kernel_rfl))
    wins_cd
theorem over : Rows.memWinsRow.holds Try.pinned (OpenSpec.ofChange Rows.memWinsSpec) :=
  OpenClaim.holds_of_wide 5 Try.f5 rfl rfl rfl rfl rfl rfl rfl ⟨rfl, rfl, rfl, rfl, rfl⟩ rfl rfl rfl rfl rfl (by kernel_rfl) Try.func5 (by kernel_rfl)
    (of_decide_eq_true (by kernel_rfl)) (by unfold Func.isWrapper; first | (rw [if_pos (by decide +kernel)]; kernel_rfl) | (rw [if_neg (by decide +kernel)]; exact ⟨rfl, rfl⟩))
    (fun os started H enc _ => lifted os started H enc)
end Go.Proofs.Ytcolbaaecbhkdaa.memWins
namespace Go.Proofs.Ytcolbaaecbhkdaa
/-- The row. -/
theorem memWins_holds : Rows.MemWinsSaid := memWins.over
end Go.Proofs.Ytcolbaaecbhkdaa
