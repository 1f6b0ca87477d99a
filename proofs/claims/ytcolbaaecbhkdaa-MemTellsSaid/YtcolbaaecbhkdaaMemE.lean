/- The environment of the seat is the program's. No condition. -/
import Derived.Test.YtcolbaaecbhkdaaMemV
import Derived.Test.YtcolbaaecbhkdaaAb17
import Derived.Test.YtcolbaaecbhkdaaAb18
import Derived.KernelRfl
namespace Go.Proofs.Ytcolbaaecbhkdaa.Ab
open Go.RowKit
theorem ok3 : okFn Try.prog g3 Try.f3 = true := by kernel_rfl
theorem ok4 : okFn Try.prog g4 Try.f4 = true := by kernel_rfl
theorem ok5 : okFn Try.prog g5 Try.f5 = true := by kernel_rfl
theorem ok6 : okFn Try.prog g6 Try.f6 = true := by kernel_rfl
theorem ok7 : okFn Try.prog g7 Try.f7 = true := by kernel_rfl
theorem ok8 : okFn Try.prog g8 Try.f8 = true := by kernel_rfl
theorem ok10 : okFn Try.prog g10 Try.f10 = true := by kernel_rfl
theorem ok11 : okFn Try.prog g11 Try.f11 = true := by kernel_rfl
theorem ok12 : okFn Try.prog g12 Try.f12 = true := by kernel_rfl
theorem ok13 : okFn Try.prog g13 Try.f13 = true := by kernel_rfl
theorem ok14 : okFn Try.prog g14 Try.f14 = true := by kernel_rfl
theorem ok15 : okFn Try.prog g15 Try.f15 = true := by kernel_rfl
theorem ok16 : okFn Try.prog g16 Try.f16 = true := by kernel_rfl
theorem ok17 : okFn Try.prog g17 Try.f17 = true := by kernel_rfl
theorem ok18 : okFn Try.prog g18 Try.f18 = true := by kernel_rfl
theorem ok19 : okFn Try.prog g19 Try.f19 = true := by kernel_rfl
theorem ok21 : okFn Try.prog g21 Try.f21 = true := by kernel_rfl
theorem ok22 : okFn Try.prog g22 Try.f22 = true := by kernel_rfl
theorem ok23 : okFn Try.prog g23 Try.f23 = true := by kernel_rfl
theorem okClone : cloneB Try.prog Try.f20 3 1 8 [.int .i64 0] 22 = true := by kernel_rfl
theorem mixed : Try.prog.follows .mixedOrders = true := by kernel_rfl
theorem Γ_ok : EnvOk Try.prog Γ where
  mixed := mixed
  fn := by
    intro f fn h
    simp only [Γ] at h
    unfold memFn at h
    split at h
    all_goals first | (cases h; done) | (simp only [Option.some.injEq] at h; subst h)
    · exact ⟨_, Try.func3, ok3⟩
    · exact ⟨_, Try.func4, ok4⟩
    · exact ⟨_, Try.func5, ok5⟩
    · exact ⟨_, Try.func6, ok6⟩
    · exact ⟨_, Try.func7, ok7⟩
    · exact ⟨_, Try.func8, ok8⟩
    · exact ⟨_, Try.func10, ok10⟩
    · exact ⟨_, Try.func11, ok11⟩
    · exact ⟨_, Try.func12, ok12⟩
    · exact ⟨_, Try.func13, ok13⟩
    · exact ⟨_, Try.func14, ok14⟩
    · exact ⟨_, Try.func15, ok15⟩
    · exact ⟨_, Try.func16, ok16⟩
    · exact ⟨_, Try.func17, ok17⟩
    · exact ⟨_, Try.func18, ok18⟩
    · exact ⟨_, Try.func19, ok19⟩
    · exact ⟨_, Try.func21, ok21⟩
    · exact ⟨_, Try.func22, ok22⟩
    · exact ⟨_, Try.func23, ok23⟩
  ext := by
    intro f args r _ h
    simp only [Γ, memExt] at h
    split at h
    · split at h
      · rename_i es hes
        simp only [Option.some.injEq] at h
        subst h
        exact clone_spec mixed Try.func20 okClone hes
      · cases h
    · cases h
end Go.Proofs.Ytcolbaaecbhkdaa.Ab
