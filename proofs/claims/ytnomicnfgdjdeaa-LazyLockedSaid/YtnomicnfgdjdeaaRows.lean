/-
  No cell of these rows narrows 'for every input' (looked for: loops, veiled, ifaces, maps, wideKeys, modest, calm, conditions, laid).
  DERIVED. THE GIVEN ROWS OF THIS SEAT. 10 by the template 'for every input the law returns true; each argument reads behind the call as it read before'; 0 by the template 'total and deterministic' (their statements: YtnomicnfgdjdeaaTotals.lean).
  GIVEN WITH THE SEED: the statements are not yours to turn. If you find one false, say at which input.
  Laid BY PROGRAM, IN A SANDBOX (cutbox-rows.mjs): the forced cells as the released guide's own fill.sh prints them over the translation 7143fdd7d2d4c72c… (all of the seat's roots in one cut). By AI agents, Wed Nov 11 2026. No macro, syntax, notation, axiom, sorry.
-/
import Derived.Test.YtnomicnfgdjdeaaChecked
import GoSem.Claim
import GoSem.ClaimJoined
import GoSem.ClaimMapViews
import Derived.JoinedTies
import Derived.KernelRfl
namespace Go.Proofs.Ytnomicnfgdjdeaa
/- THE CELL 'sum', in the pinned program and in every row, IS THE sha256 OF THE DUMP (.gsa) THAT YtnomicnfgdjdeaaProg.lean LOADS. Nothing in Lean hashes anything: it is a label: what it is worth is what the hold of that sum in a sandbox is worth. -/
noncomputable def Try.pinned : Pinned := { name := "ytnomicnfgdjdeaa", sum := "7143fdd7d2d4c72c81d7d90d9ab7ac38edd86b3b6011377f60833a9bcb675fd2", checked := Try.checked }
namespace Rows
def none {H : Type} : Left H := { results := [], args := [] }

/-- 'bellwetherlaw12.LazyTells': WHATEVER THE INPUT: true; the input reads as it did. -/
def lazyTellsSpec : ChangeSpec := { name := "lazyTells", fn := fun _ => fun
  | [d1, d2, d3, d4, d5, d6, d7, d8] => { results := [.lit (.bool true)], args := [d1, d2, d3, d4, d5, d6, d7, d8] }
  | _ => none }
def lazyTellsRow : OpenClaim := { program := "ytnomicnfgdjdeaa", sum := "7143fdd7d2d4c72c81d7d90d9ab7ac38edd86b3b6011377f60833a9bcb675fd2", func := "bellwether/bellwetherlaw12.LazyTells", spec := "lazyTells", apart := false }
def LazyTellsSaid : Prop := lazyTellsRow.holds Try.pinned (OpenSpec.ofChange lazyTellsSpec)

/-- ITS FALSE NEIGHBOUR: 'it returns false'. Refute it at one input. -/
def lazyTellsWrong : ChangeSpec := { name := "lazyTells", fn := fun _ => fun
  | [d1, d2, d3, d4, d5, d6, d7, d8] => { results := [.lit (.bool false)], args := [d1, d2, d3, d4, d5, d6, d7, d8] }
  | _ => none }
def LazyTellsWrongFalsely : Prop := lazyTellsRow.holds Try.pinned (OpenSpec.ofChange lazyTellsWrong)

/-- 'bellwetherlaw12.LazyRuns': WHATEVER THE INPUT: true; the input reads as it did. -/
def lazyRunsSpec : ChangeSpec := { name := "lazyRuns", fn := fun _ => fun
  | [d1, d2, d3, d4, d5] => { results := [.lit (.bool true)], args := [d1, d2, d3, d4, d5] }
  | _ => none }
def lazyRunsRow : OpenClaim := { program := "ytnomicnfgdjdeaa", sum := "7143fdd7d2d4c72c81d7d90d9ab7ac38edd86b3b6011377f60833a9bcb675fd2", func := "bellwether/bellwetherlaw12.LazyRuns", spec := "lazyRuns", apart := false }
def LazyRunsSaid : Prop := lazyRunsRow.holds Try.pinned (OpenSpec.ofChange lazyRunsSpec)

/-- ITS FALSE NEIGHBOUR: 'it returns false'. Refute it at one input. -/
def lazyRunsWrong : ChangeSpec := { name := "lazyRuns", fn := fun _ => fun
  | [d1, d2, d3, d4, d5] => { results := [.lit (.bool false)], args := [d1, d2, d3, d4, d5] }
  | _ => none }
def LazyRunsWrongFalsely : Prop := lazyRunsRow.holds Try.pinned (OpenSpec.ofChange lazyRunsWrong)

/-- 'bellwetherlaw12.LazyAlone': WHATEVER THE INPUT: true; the input reads as it did. -/
def lazyAloneSpec : ChangeSpec := { name := "lazyAlone", fn := fun _ => fun
  | [d1, d2] => { results := [.lit (.bool true)], args := [d1, d2] }
  | _ => none }
def lazyAloneRow : OpenClaim := { program := "ytnomicnfgdjdeaa", sum := "7143fdd7d2d4c72c81d7d90d9ab7ac38edd86b3b6011377f60833a9bcb675fd2", func := "bellwether/bellwetherlaw12.LazyAlone", spec := "lazyAlone", apart := false }
def LazyAloneSaid : Prop := lazyAloneRow.holds Try.pinned (OpenSpec.ofChange lazyAloneSpec)

/-- ITS FALSE NEIGHBOUR: 'it returns false'. Refute it at one input. -/
def lazyAloneWrong : ChangeSpec := { name := "lazyAlone", fn := fun _ => fun
  | [d1, d2] => { results := [.lit (.bool false)], args := [d1, d2] }
  | _ => none }
def LazyAloneWrongFalsely : Prop := lazyAloneRow.holds Try.pinned (OpenSpec.ofChange lazyAloneWrong)

/-- 'bellwetherlaw12.LazyLocked': WHATEVER THE INPUT: true; the input reads as it did. -/
def lazyLockedSpec : ChangeSpec := { name := "lazyLocked", fn := fun _ => fun
  | [d1, d2, d3, d4] => { results := [.lit (.bool true)], args := [d1, d2, d3, d4] }
  | _ => none }
def lazyLockedRow : OpenClaim := { program := "ytnomicnfgdjdeaa", sum := "7143fdd7d2d4c72c81d7d90d9ab7ac38edd86b3b6011377f60833a9bcb675fd2", func := "bellwether/bellwetherlaw12.LazyLocked", spec := "lazyLocked", apart := false }
def LazyLockedSaid : Prop := lazyLockedRow.holds Try.pinned (OpenSpec.ofChange lazyLockedSpec)

/-- ITS FALSE NEIGHBOUR: 'it returns false'. Refute it at one input. -/
def lazyLockedWrong : ChangeSpec := { name := "lazyLocked", fn := fun _ => fun
  | [d1, d2, d3, d4] => { results := [.lit (.bool false)], args := [d1, d2, d3, d4] }
  | _ => none }
def LazyLockedWrongFalsely : Prop := lazyLockedRow.holds Try.pinned (OpenSpec.ofChange lazyLockedWrong)

/-- 'bellwetherlaw12.LazyLocks': WHATEVER THE INPUT: true; the input reads as it did. -/
def lazyLocksSpec : ChangeSpec := { name := "lazyLocks", fn := fun _ => fun
  | [d1, d2, d3] => { results := [.lit (.bool true)], args := [d1, d2, d3] }
  | _ => none }
def lazyLocksRow : OpenClaim := { program := "ytnomicnfgdjdeaa", sum := "7143fdd7d2d4c72c81d7d90d9ab7ac38edd86b3b6011377f60833a9bcb675fd2", func := "bellwether/bellwetherlaw12.LazyLocks", spec := "lazyLocks", apart := false }
def LazyLocksSaid : Prop := lazyLocksRow.holds Try.pinned (OpenSpec.ofChange lazyLocksSpec)

/-- ITS FALSE NEIGHBOUR: 'it returns false'. Refute it at one input. -/
def lazyLocksWrong : ChangeSpec := { name := "lazyLocks", fn := fun _ => fun
  | [d1, d2, d3] => { results := [.lit (.bool false)], args := [d1, d2, d3] }
  | _ => none }
def LazyLocksWrongFalsely : Prop := lazyLocksRow.holds Try.pinned (OpenSpec.ofChange lazyLocksWrong)

/-- 'bellwetherlaw12.LazyThreads': WHATEVER THE INPUT: true; the input reads as it did. -/
def lazyThreadsSpec : ChangeSpec := { name := "lazyThreads", fn := fun _ => fun
  | [d1, d2, d3, d4, d5] => { results := [.lit (.bool true)], args := [d1, d2, d3, d4, d5] }
  | _ => none }
def lazyThreadsRow : OpenClaim := { program := "ytnomicnfgdjdeaa", sum := "7143fdd7d2d4c72c81d7d90d9ab7ac38edd86b3b6011377f60833a9bcb675fd2", func := "bellwether/bellwetherlaw12.LazyThreads", spec := "lazyThreads", apart := false }
def LazyThreadsSaid : Prop := lazyThreadsRow.holds Try.pinned (OpenSpec.ofChange lazyThreadsSpec)

/-- ITS FALSE NEIGHBOUR: 'it returns false'. Refute it at one input. -/
def lazyThreadsWrong : ChangeSpec := { name := "lazyThreads", fn := fun _ => fun
  | [d1, d2, d3, d4, d5] => { results := [.lit (.bool false)], args := [d1, d2, d3, d4, d5] }
  | _ => none }
def LazyThreadsWrongFalsely : Prop := lazyThreadsRow.holds Try.pinned (OpenSpec.ofChange lazyThreadsWrong)

/-- 'bellwetherlaw12.LazyAnew': WHATEVER THE INPUT: true; the input reads as it did. -/
def lazyAnewSpec : ChangeSpec := { name := "lazyAnew", fn := fun _ => fun
  | [d1, d2, d3, d4] => { results := [.lit (.bool true)], args := [d1, d2, d3, d4] }
  | _ => none }
def lazyAnewRow : OpenClaim := { program := "ytnomicnfgdjdeaa", sum := "7143fdd7d2d4c72c81d7d90d9ab7ac38edd86b3b6011377f60833a9bcb675fd2", func := "bellwether/bellwetherlaw12.LazyAnew", spec := "lazyAnew", apart := false }
def LazyAnewSaid : Prop := lazyAnewRow.holds Try.pinned (OpenSpec.ofChange lazyAnewSpec)

/-- ITS FALSE NEIGHBOUR: 'it returns false'. Refute it at one input. -/
def lazyAnewWrong : ChangeSpec := { name := "lazyAnew", fn := fun _ => fun
  | [d1, d2, d3, d4] => { results := [.lit (.bool false)], args := [d1, d2, d3, d4] }
  | _ => none }
def LazyAnewWrongFalsely : Prop := lazyAnewRow.holds Try.pinned (OpenSpec.ofChange lazyAnewWrong)

/-- 'bellwetherlaw13.CrowdTells': WHATEVER THE INPUT: true; the input reads as it did. -/
def crowdTellsSpec : ChangeSpec := { name := "crowdTells", fn := fun _ => fun
  | [d1, d2, d3, d4, d5, d6, d7, d8] => { results := [.lit (.bool true)], args := [d1, d2, d3, d4, d5, d6, d7, d8] }
  | _ => none }
def crowdTellsRow : OpenClaim := { program := "ytnomicnfgdjdeaa", sum := "7143fdd7d2d4c72c81d7d90d9ab7ac38edd86b3b6011377f60833a9bcb675fd2", func := "bellwether/bellwetherlaw13.CrowdTells", spec := "crowdTells", unfollowed := true, recurses := true, apart := false }
def CrowdTellsSaid : Prop := crowdTellsRow.holds Try.pinned (OpenSpec.ofChange crowdTellsSpec)

/-- ITS FALSE NEIGHBOUR: 'it returns false'. Refute it at one input. -/
def crowdTellsWrong : ChangeSpec := { name := "crowdTells", fn := fun _ => fun
  | [d1, d2, d3, d4, d5, d6, d7, d8] => { results := [.lit (.bool false)], args := [d1, d2, d3, d4, d5, d6, d7, d8] }
  | _ => none }
def CrowdTellsWrongFalsely : Prop := crowdTellsRow.holds Try.pinned (OpenSpec.ofChange crowdTellsWrong)

/-- 'bellwetherlaw13.CrowdTurns': WHATEVER THE INPUT: true; the input reads as it did. -/
def crowdTurnsSpec : ChangeSpec := { name := "crowdTurns", fn := fun _ => fun
  | [d1, d2, d3, d4] => { results := [.lit (.bool true)], args := [d1, d2, d3, d4] }
  | _ => none }
def crowdTurnsRow : OpenClaim := { program := "ytnomicnfgdjdeaa", sum := "7143fdd7d2d4c72c81d7d90d9ab7ac38edd86b3b6011377f60833a9bcb675fd2", func := "bellwether/bellwetherlaw13.CrowdTurns", spec := "crowdTurns", unfollowed := true, recurses := true, apart := false }
def CrowdTurnsSaid : Prop := crowdTurnsRow.holds Try.pinned (OpenSpec.ofChange crowdTurnsSpec)

/-- ITS FALSE NEIGHBOUR: 'it returns false'. Refute it at one input. -/
def crowdTurnsWrong : ChangeSpec := { name := "crowdTurns", fn := fun _ => fun
  | [d1, d2, d3, d4] => { results := [.lit (.bool false)], args := [d1, d2, d3, d4] }
  | _ => none }
def CrowdTurnsWrongFalsely : Prop := crowdTurnsRow.holds Try.pinned (OpenSpec.ofChange crowdTurnsWrong)

/-- 'bellwetherlaw13.CrowdOne': WHATEVER THE INPUT: true; the input reads as it did. -/
def crowdOneSpec : ChangeSpec := { name := "crowdOne", fn := fun _ => fun
  | [d1, d2, d3, d4] => { results := [.lit (.bool true)], args := [d1, d2, d3, d4] }
  | _ => none }
def crowdOneRow : OpenClaim := { program := "ytnomicnfgdjdeaa", sum := "7143fdd7d2d4c72c81d7d90d9ab7ac38edd86b3b6011377f60833a9bcb675fd2", func := "bellwether/bellwetherlaw13.CrowdOne", spec := "crowdOne", unfollowed := true, recurses := true, apart := false }
def CrowdOneSaid : Prop := crowdOneRow.holds Try.pinned (OpenSpec.ofChange crowdOneSpec)

/-- ITS FALSE NEIGHBOUR: 'it returns false'. Refute it at one input. -/
def crowdOneWrong : ChangeSpec := { name := "crowdOne", fn := fun _ => fun
  | [d1, d2, d3, d4] => { results := [.lit (.bool false)], args := [d1, d2, d3, d4] }
  | _ => none }
def CrowdOneWrongFalsely : Prop := crowdOneRow.holds Try.pinned (OpenSpec.ofChange crowdOneWrong)

/- THE SECOND FORM. 'bulk': how many values and letters a reading holds, each counted each time it is reached (what is shared counts as often as it is met; a slice's spare places count too). A statement '..UptoSaid' is the law's where the arguments, and the package variables that the reading takes, are together of bulk at most 1048576: NARROWER than '..Said'. Prove '..Said' where nothing that the law and all that it calls make is longer than what came in: it says more and counts as full. Else prove '..UptoSaid'. A law counts once. -/
mutual
def uptoBulk {H : Type} : DataW H → Nat
  | .lit (.string bytes) => bytes.length + 1
  | .lit _ => 1
  | .nil => 1
  | .ptr d => uptoBulk d + 1
  | .slice elems spare => uptoBulkAll elems + uptoBulkAll spare + 1
  | .agg parts => uptoBulkAll parts + 1
  | .iface _ d => uptoBulk d + 1
  | .map entries => uptoBulkEntries entries + 1
  | .held _ => 1
def uptoBulkAll {H : Type} : List (DataW H) → Nat
  | [] => 0
  | d :: r => uptoBulk d + uptoBulkAll r
def uptoBulkEntries {H : Type} : List (Lit × DataW H) → Nat
  | [] => 0
  | x :: r => uptoBulkEntry x + uptoBulkEntries r
def uptoBulkEntry {H : Type} : Lit × DataW H → Nat
  | (.string bytes, d) => bytes.length + uptoBulk d + 1
  | (_, d) => uptoBulk d + 1
 end
def uptoSmall : (H : Type) → List (DataW H) → Bool := fun _ ds => decide (uptoBulkAll ds ≤ 1048576)
def OpenSpec.upto (s : _root_.Go.ChangeSpec) : _root_.Go.OpenSpec := { _root_.Go.OpenSpec.ofChange s with cond := some uptoSmall }

/-- 'bellwetherlaw12.LazyTells', WHERE WHAT IT READS IS OF BULK AT MOST 1048576: true; the input reads as it did. -/
def lazyTellsUptoRow : OpenClaim := { program := "ytnomicnfgdjdeaa", sum := "7143fdd7d2d4c72c81d7d90d9ab7ac38edd86b3b6011377f60833a9bcb675fd2", func := "bellwether/bellwetherlaw12.LazyTells", spec := "lazyTells", apart := false, narrowed := true }
def LazyTellsUptoSaid : Prop := lazyTellsUptoRow.holds Try.pinned (OpenSpec.upto lazyTellsSpec)

/-- 'bellwetherlaw12.LazyRuns', WHERE WHAT IT READS IS OF BULK AT MOST 1048576: true; the input reads as it did. -/
def lazyRunsUptoRow : OpenClaim := { program := "ytnomicnfgdjdeaa", sum := "7143fdd7d2d4c72c81d7d90d9ab7ac38edd86b3b6011377f60833a9bcb675fd2", func := "bellwether/bellwetherlaw12.LazyRuns", spec := "lazyRuns", apart := false, narrowed := true }
def LazyRunsUptoSaid : Prop := lazyRunsUptoRow.holds Try.pinned (OpenSpec.upto lazyRunsSpec)

/-- 'bellwetherlaw12.LazyAlone', WHERE WHAT IT READS IS OF BULK AT MOST 1048576: true; the input reads as it did. -/
def lazyAloneUptoRow : OpenClaim := { program := "ytnomicnfgdjdeaa", sum := "7143fdd7d2d4c72c81d7d90d9ab7ac38edd86b3b6011377f60833a9bcb675fd2", func := "bellwether/bellwetherlaw12.LazyAlone", spec := "lazyAlone", apart := false, narrowed := true }
def LazyAloneUptoSaid : Prop := lazyAloneUptoRow.holds Try.pinned (OpenSpec.upto lazyAloneSpec)

/-- 'bellwetherlaw12.LazyLocked', WHERE WHAT IT READS IS OF BULK AT MOST 1048576: true; the input reads as it did. -/
def lazyLockedUptoRow : OpenClaim := { program := "ytnomicnfgdjdeaa", sum := "7143fdd7d2d4c72c81d7d90d9ab7ac38edd86b3b6011377f60833a9bcb675fd2", func := "bellwether/bellwetherlaw12.LazyLocked", spec := "lazyLocked", apart := false, narrowed := true }
def LazyLockedUptoSaid : Prop := lazyLockedUptoRow.holds Try.pinned (OpenSpec.upto lazyLockedSpec)

/-- 'bellwetherlaw12.LazyLocks', WHERE WHAT IT READS IS OF BULK AT MOST 1048576: true; the input reads as it did. -/
def lazyLocksUptoRow : OpenClaim := { program := "ytnomicnfgdjdeaa", sum := "7143fdd7d2d4c72c81d7d90d9ab7ac38edd86b3b6011377f60833a9bcb675fd2", func := "bellwether/bellwetherlaw12.LazyLocks", spec := "lazyLocks", apart := false, narrowed := true }
def LazyLocksUptoSaid : Prop := lazyLocksUptoRow.holds Try.pinned (OpenSpec.upto lazyLocksSpec)

/-- 'bellwetherlaw12.LazyThreads', WHERE WHAT IT READS IS OF BULK AT MOST 1048576: true; the input reads as it did. -/
def lazyThreadsUptoRow : OpenClaim := { program := "ytnomicnfgdjdeaa", sum := "7143fdd7d2d4c72c81d7d90d9ab7ac38edd86b3b6011377f60833a9bcb675fd2", func := "bellwether/bellwetherlaw12.LazyThreads", spec := "lazyThreads", apart := false, narrowed := true }
def LazyThreadsUptoSaid : Prop := lazyThreadsUptoRow.holds Try.pinned (OpenSpec.upto lazyThreadsSpec)

/-- 'bellwetherlaw12.LazyAnew', WHERE WHAT IT READS IS OF BULK AT MOST 1048576: true; the input reads as it did. -/
def lazyAnewUptoRow : OpenClaim := { program := "ytnomicnfgdjdeaa", sum := "7143fdd7d2d4c72c81d7d90d9ab7ac38edd86b3b6011377f60833a9bcb675fd2", func := "bellwether/bellwetherlaw12.LazyAnew", spec := "lazyAnew", apart := false, narrowed := true }
def LazyAnewUptoSaid : Prop := lazyAnewUptoRow.holds Try.pinned (OpenSpec.upto lazyAnewSpec)

/-- 'bellwetherlaw13.CrowdTells', WHERE WHAT IT READS IS OF BULK AT MOST 1048576: true; the input reads as it did. -/
def crowdTellsUptoRow : OpenClaim := { program := "ytnomicnfgdjdeaa", sum := "7143fdd7d2d4c72c81d7d90d9ab7ac38edd86b3b6011377f60833a9bcb675fd2", func := "bellwether/bellwetherlaw13.CrowdTells", spec := "crowdTells", unfollowed := true, recurses := true, apart := false, narrowed := true }
def CrowdTellsUptoSaid : Prop := crowdTellsUptoRow.holds Try.pinned (OpenSpec.upto crowdTellsSpec)

/-- 'bellwetherlaw13.CrowdTurns', WHERE WHAT IT READS IS OF BULK AT MOST 1048576: true; the input reads as it did. -/
def crowdTurnsUptoRow : OpenClaim := { program := "ytnomicnfgdjdeaa", sum := "7143fdd7d2d4c72c81d7d90d9ab7ac38edd86b3b6011377f60833a9bcb675fd2", func := "bellwether/bellwetherlaw13.CrowdTurns", spec := "crowdTurns", unfollowed := true, recurses := true, apart := false, narrowed := true }
def CrowdTurnsUptoSaid : Prop := crowdTurnsUptoRow.holds Try.pinned (OpenSpec.upto crowdTurnsSpec)

/-- 'bellwetherlaw13.CrowdOne', WHERE WHAT IT READS IS OF BULK AT MOST 1048576: true; the input reads as it did. -/
def crowdOneUptoRow : OpenClaim := { program := "ytnomicnfgdjdeaa", sum := "7143fdd7d2d4c72c81d7d90d9ab7ac38edd86b3b6011377f60833a9bcb675fd2", func := "bellwether/bellwetherlaw13.CrowdOne", spec := "crowdOne", unfollowed := true, recurses := true, apart := false, narrowed := true }
def CrowdOneUptoSaid : Prop := crowdOneUptoRow.holds Try.pinned (OpenSpec.upto crowdOneSpec)

end Rows
end Go.Proofs.Ytnomicnfgdjdeaa
