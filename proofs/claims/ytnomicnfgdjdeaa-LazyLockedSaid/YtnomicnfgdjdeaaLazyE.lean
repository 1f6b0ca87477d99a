/- The environment of the seat is the program's. No condition. -/
import Derived.Test.YtnomicnfgdjdeaaLazyV
import Derived.Test.YtnomicnfgdjdeaaAb17
import Derived.Test.YtnomicnfgdjdeaaAb18
import Derived.KernelRfl
namespace Go.Proofs.Ytnomicnfgdjdeaa.Ab
open Go.RowKit
theorem ok3 : okFn Try.prog g3 Try.f3 = true := by kernel_rfl
theorem ok4 : okFn Try.prog g4 Try.f4 = true := by kernel_rfl
theorem ok5 : okFn Try.prog g5 Try.f5 = true := by kernel_rfl
theorem ok6 : okFn Try.prog g6 Try.f6 = true := by kernel_rfl
theorem ok7 : okFn Try.prog g7 Try.f7 = true := by kernel_rfl
theorem ok8 : okFn Try.prog g8 Try.f8 = true := by kernel_rfl
theorem ok9 : okFn Try.prog g9 Try.f9 = true := by kernel_rfl
theorem ok13 : okFn Try.prog g13 Try.f13 = true := by kernel_rfl
theorem ok14 : okFn Try.prog g14 Try.f14 = true := by kernel_rfl
theorem ok15 : okFn Try.prog g15 Try.f15 = true := by kernel_rfl
theorem ok16 : okFn Try.prog g16 Try.f16 = true := by kernel_rfl
theorem ok17 : okFn Try.prog g17 Try.f17 = true := by kernel_rfl
theorem ok18 : okFn Try.prog g18 Try.f18 = true := by kernel_rfl
theorem ok19 : okFn Try.prog g19 Try.f19 = true := by kernel_rfl
theorem ok20 : okFn Try.prog g20 Try.f20 = true := by kernel_rfl
theorem ok21 : okFn Try.prog g21 Try.f21 = true := by kernel_rfl
theorem ok22 : okFn Try.prog g22 Try.f22 = true := by kernel_rfl
theorem ok23 : okFn Try.prog g23 Try.f23 = true := by kernel_rfl
theorem ok24 : okFn Try.prog g24 Try.f24 = true := by kernel_rfl
theorem ok25 : okFn Try.prog g25 Try.f25 = true := by kernel_rfl
theorem ok26 : okFn Try.prog g26 Try.f26 = true := by kernel_rfl
theorem ok27 : okFn Try.prog g27 Try.f27 = true := by kernel_rfl
theorem ok28 : okFn Try.prog g28 Try.f28 = true := by kernel_rfl
theorem ok29 : okFn Try.prog g29 Try.f29 = true := by kernel_rfl
theorem ok39 : okFn Try.prog g39 Try.f39 = true := by kernel_rfl
theorem ok40 : okFn Try.prog g40 Try.f40 = true := by kernel_rfl
theorem ok42 : okFn Try.prog g42 Try.f42 = true := by kernel_rfl
theorem ok43 : okFn Try.prog g43 Try.f43 = true := by kernel_rfl
theorem ok44 : okFn Try.prog g44 Try.f44 = true := by kernel_rfl
theorem ok45 : okFn Try.prog g45 Try.f45 = true := by kernel_rfl
theorem ok46 : okFn Try.prog g46 Try.f46 = true := by kernel_rfl
theorem ok47 : okFn Try.prog g47 Try.f47 = true := by kernel_rfl
theorem ok48 : okFn Try.prog g48 Try.f48 = true := by kernel_rfl
theorem ok49 : okFn Try.prog g49 Try.f49 = true := by kernel_rfl
theorem ok50 : okFn Try.prog g50 Try.f50 = true := by kernel_rfl
theorem ok51 : okFn Try.prog g51 Try.f51 = true := by kernel_rfl
theorem ok52 : okFn Try.prog g52 Try.f52 = true := by kernel_rfl
theorem ok53 : okFn Try.prog g53 Try.f53 = true := by kernel_rfl
theorem ok60 : okFn Try.prog g60 Try.f60 = true := by kernel_rfl
theorem ok61 : okFn Try.prog g61 Try.f61 = true := by kernel_rfl
theorem ok62 : okFn Try.prog g62 Try.f62 = true := by kernel_rfl
theorem ok63 : okFn Try.prog g63 Try.f63 = true := by kernel_rfl
theorem ok64 : okFn Try.prog g64 Try.f64 = true := by kernel_rfl
theorem ok65 : okFn Try.prog g65 Try.f65 = true := by kernel_rfl
theorem ok66 : okFn Try.prog g66 Try.f66 = true := by kernel_rfl
theorem ok67 : okFn Try.prog g67 Try.f67 = true := by kernel_rfl
theorem ok68 : okFn Try.prog g68 Try.f68 = true := by kernel_rfl
theorem ok69 : okFn Try.prog g69 Try.f69 = true := by kernel_rfl
theorem ok72 : okFn Try.prog g72 Try.f72 = true := by kernel_rfl
theorem ok73 : okFn Try.prog g73 Try.f73 = true := by kernel_rfl
theorem ok74 : okFn Try.prog g74 Try.f74 = true := by kernel_rfl
theorem ok75 : okFn Try.prog g75 Try.f75 = true := by kernel_rfl
theorem ok76 : okFn Try.prog g76 Try.f76 = true := by kernel_rfl
theorem ok77 : okFn Try.prog g77 Try.f77 = true := by kernel_rfl
theorem ok78 : okFn Try.prog g78 Try.f78 = true := by kernel_rfl
theorem ok79 : okFn Try.prog g79 Try.f79 = true := by kernel_rfl
theorem ok80 : okFn Try.prog g80 Try.f80 = true := by kernel_rfl
theorem ok83 : okFn Try.prog g83 Try.f83 = true := by kernel_rfl
theorem ok84 : okFn Try.prog g84 Try.f84 = true := by kernel_rfl
theorem ok85 : okFn Try.prog g85 Try.f85 = true := by kernel_rfl
theorem okClone : cloneB Try.prog Try.f41 3 1 8 [.int .i64 0] 22 = true := by kernel_rfl
theorem mixed : Try.prog.follows .mixedOrders = true := by kernel_rfl
theorem Γ_ok : EnvOk Try.prog Γ where
  mixed := mixed
  fn := by
    intro f fn h
    simp only [Γ] at h
    unfold lazyFn at h
    split at h
    all_goals first | (cases h; done) | (simp only [Option.some.injEq] at h; subst h)
    · exact ⟨_, Try.func3, ok3⟩
    · exact ⟨_, Try.func4, ok4⟩
    · exact ⟨_, Try.func5, ok5⟩
    · exact ⟨_, Try.func6, ok6⟩
    · exact ⟨_, Try.func7, ok7⟩
    · exact ⟨_, Try.func8, ok8⟩
    · exact ⟨_, Try.func9, ok9⟩
    · exact ⟨_, Try.func13, ok13⟩
    · exact ⟨_, Try.func14, ok14⟩
    · exact ⟨_, Try.func15, ok15⟩
    · exact ⟨_, Try.func16, ok16⟩
    · exact ⟨_, Try.func17, ok17⟩
    · exact ⟨_, Try.func18, ok18⟩
    · exact ⟨_, Try.func19, ok19⟩
    · exact ⟨_, Try.func20, ok20⟩
    · exact ⟨_, Try.func21, ok21⟩
    · exact ⟨_, Try.func22, ok22⟩
    · exact ⟨_, Try.func23, ok23⟩
    · exact ⟨_, Try.func24, ok24⟩
    · exact ⟨_, Try.func25, ok25⟩
    · exact ⟨_, Try.func26, ok26⟩
    · exact ⟨_, Try.func27, ok27⟩
    · exact ⟨_, Try.func28, ok28⟩
    · exact ⟨_, Try.func29, ok29⟩
    · exact ⟨_, Try.func39, ok39⟩
    · exact ⟨_, Try.func40, ok40⟩
    · exact ⟨_, Try.func42, ok42⟩
    · exact ⟨_, Try.func43, ok43⟩
    · exact ⟨_, Try.func44, ok44⟩
    · exact ⟨_, Try.func45, ok45⟩
    · exact ⟨_, Try.func46, ok46⟩
    · exact ⟨_, Try.func47, ok47⟩
    · exact ⟨_, Try.func48, ok48⟩
    · exact ⟨_, Try.func49, ok49⟩
    · exact ⟨_, Try.func50, ok50⟩
    · exact ⟨_, Try.func51, ok51⟩
    · exact ⟨_, Try.func52, ok52⟩
    · exact ⟨_, Try.func53, ok53⟩
    · exact ⟨_, Try.func60, ok60⟩
    · exact ⟨_, Try.func61, ok61⟩
    · exact ⟨_, Try.func62, ok62⟩
    · exact ⟨_, Try.func63, ok63⟩
    · exact ⟨_, Try.func64, ok64⟩
    · exact ⟨_, Try.func65, ok65⟩
    · exact ⟨_, Try.func66, ok66⟩
    · exact ⟨_, Try.func67, ok67⟩
    · exact ⟨_, Try.func68, ok68⟩
    · exact ⟨_, Try.func69, ok69⟩
    · exact ⟨_, Try.func72, ok72⟩
    · exact ⟨_, Try.func73, ok73⟩
    · exact ⟨_, Try.func74, ok74⟩
    · exact ⟨_, Try.func75, ok75⟩
    · exact ⟨_, Try.func76, ok76⟩
    · exact ⟨_, Try.func77, ok77⟩
    · exact ⟨_, Try.func78, ok78⟩
    · exact ⟨_, Try.func79, ok79⟩
    · exact ⟨_, Try.func80, ok80⟩
    · exact ⟨_, Try.func83, ok83⟩
    · exact ⟨_, Try.func84, ok84⟩
    · exact ⟨_, Try.func85, ok85⟩
  ext := by
    intro f args r _ h
    simp only [Γ, lazyExt] at h
    split at h
    · split at h
      · rename_i es hes
        simp only [Option.some.injEq] at h
        subst h
        exact clone_spec mixed Try.func41 okClone hes
      · cases h
    · cases h
end Go.Proofs.Ytnomicnfgdjdeaa.Ab
