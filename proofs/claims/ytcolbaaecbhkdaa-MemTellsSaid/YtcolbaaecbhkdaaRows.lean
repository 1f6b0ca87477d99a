/-
  No cell of these rows narrows 'for every input' (looked for: loops, veiled, ifaces, maps, wideKeys, modest, calm, conditions, laid).
  DERIVED. THE GIVEN ROWS OF THIS SEAT. 8 by the template 'for every input the law returns true; each argument reads behind the call as it read before'; 0 by the template 'total and deterministic' (their statements: YtcolbaaecbhkdaaTotals.lean).
  GIVEN WITH THE SEED: the statements are not yours to turn. If you find one false, say at which input.
  Laid BY PROGRAM, IN A SANDBOX (cutbox-rows.mjs): the forced cells as the released guide's own fill.sh prints them over the translation 786f0585e9577ac1… (all of the seat's roots in one cut). By AI agents, Wed Nov 11 2026. No macro, syntax, notation, axiom, sorry.
-/
import Derived.Test.YtcolbaaecbhkdaaChecked
import GoSem.Claim
import GoSem.ClaimJoined
import GoSem.ClaimMapViews
import Derived.JoinedTies
import Derived.KernelRfl
namespace Go.Proofs.Ytcolbaaecbhkdaa
/- THE CELL 'sum', in the pinned program and in every row, IS THE sha256 OF THE DUMP (.gsa) THAT YtcolbaaecbhkdaaProg.lean LOADS. Nothing in Lean hashes anything: it is a label: what it is worth is what the hold of that sum in a sandbox is worth. -/
noncomputable def Try.pinned : Pinned := { name := "ytcolbaaecbhkdaa", sum := "786f0585e9577ac113af6aa8eb0d751e93562f14aa7cdc1b97290cf87b3cc8bf", checked := Try.checked }
namespace Rows
def none {H : Type} : Left H := { results := [], args := [] }

/-- 'bellwetherlaw02.MemTells': WHATEVER THE INPUT: true; the input reads as it did. -/
def memTellsSpec : ChangeSpec := { name := "memTells", fn := fun _ => fun
  | [d1, d2, d3, d4] => { results := [.lit (.bool true)], args := [d1, d2, d3, d4] }
  | _ => none }
def memTellsRow : OpenClaim := { program := "ytcolbaaecbhkdaa", sum := "786f0585e9577ac113af6aa8eb0d751e93562f14aa7cdc1b97290cf87b3cc8bf", func := "bellwether/bellwetherlaw02.MemTells", spec := "memTells", apart := false }
def MemTellsSaid : Prop := memTellsRow.holds Try.pinned (OpenSpec.ofChange memTellsSpec)

/-- ITS FALSE NEIGHBOUR: 'it returns false'. Refute it at one input. -/
def memTellsWrong : ChangeSpec := { name := "memTells", fn := fun _ => fun
  | [d1, d2, d3, d4] => { results := [.lit (.bool false)], args := [d1, d2, d3, d4] }
  | _ => none }
def MemTellsWrongFalsely : Prop := memTellsRow.holds Try.pinned (OpenSpec.ofChange memTellsWrong)

/-- 'bellwetherlaw02.MemLast': WHATEVER THE INPUT: true; the input reads as it did. -/
def memLastSpec : ChangeSpec := { name := "memLast", fn := fun _ => fun
  | [d] => { results := [.lit (.bool true)], args := [d] }
  | _ => none }
def memLastRow : OpenClaim := { program := "ytcolbaaecbhkdaa", sum := "786f0585e9577ac113af6aa8eb0d751e93562f14aa7cdc1b97290cf87b3cc8bf", func := "bellwether/bellwetherlaw02.MemLast", spec := "memLast", apart := false }
def MemLastSaid : Prop := memLastRow.holds Try.pinned (OpenSpec.ofChange memLastSpec)

/-- ITS FALSE NEIGHBOUR: 'it returns false'. Refute it at one input. -/
def memLastWrong : ChangeSpec := { name := "memLast", fn := fun _ => fun
  | [d] => { results := [.lit (.bool false)], args := [d] }
  | _ => none }
def MemLastWrongFalsely : Prop := memLastRow.holds Try.pinned (OpenSpec.ofChange memLastWrong)

/-- 'bellwetherlaw02.MemWins': WHATEVER THE INPUT: true; the input reads as it did. -/
def memWinsSpec : ChangeSpec := { name := "memWins", fn := fun _ => fun
  | [d1, d2] => { results := [.lit (.bool true)], args := [d1, d2] }
  | _ => none }
def memWinsRow : OpenClaim := { program := "ytcolbaaecbhkdaa", sum := "786f0585e9577ac113af6aa8eb0d751e93562f14aa7cdc1b97290cf87b3cc8bf", func := "bellwether/bellwetherlaw02.MemWins", spec := "memWins", apart := false }
def MemWinsSaid : Prop := memWinsRow.holds Try.pinned (OpenSpec.ofChange memWinsSpec)

/-- ITS FALSE NEIGHBOUR: 'it returns false'. Refute it at one input. -/
def memWinsWrong : ChangeSpec := { name := "memWins", fn := fun _ => fun
  | [d1, d2] => { results := [.lit (.bool false)], args := [d1, d2] }
  | _ => none }
def MemWinsWrongFalsely : Prop := memWinsRow.holds Try.pinned (OpenSpec.ofChange memWinsWrong)

/-- 'bellwetherlaw02.MemParts': WHATEVER THE INPUT: true; the input reads as it did. -/
def memPartsSpec : ChangeSpec := { name := "memParts", fn := fun _ => fun
  | [d1, d2, d3, d4] => { results := [.lit (.bool true)], args := [d1, d2, d3, d4] }
  | _ => none }
def memPartsRow : OpenClaim := { program := "ytcolbaaecbhkdaa", sum := "786f0585e9577ac113af6aa8eb0d751e93562f14aa7cdc1b97290cf87b3cc8bf", func := "bellwether/bellwetherlaw02.MemParts", spec := "memParts", apart := false }
def MemPartsSaid : Prop := memPartsRow.holds Try.pinned (OpenSpec.ofChange memPartsSpec)

/-- ITS FALSE NEIGHBOUR: 'it returns false'. Refute it at one input. -/
def memPartsWrong : ChangeSpec := { name := "memParts", fn := fun _ => fun
  | [d1, d2, d3, d4] => { results := [.lit (.bool false)], args := [d1, d2, d3, d4] }
  | _ => none }
def MemPartsWrongFalsely : Prop := memPartsRow.holds Try.pinned (OpenSpec.ofChange memPartsWrong)

/-- 'bellwetherlaw02.MemAdds': WHATEVER THE INPUT: true; the input reads as it did. -/
def memAddsSpec : ChangeSpec := { name := "memAdds", fn := fun _ => fun
  | [d1, d2] => { results := [.lit (.bool true)], args := [d1, d2] }
  | _ => none }
def memAddsRow : OpenClaim := { program := "ytcolbaaecbhkdaa", sum := "786f0585e9577ac113af6aa8eb0d751e93562f14aa7cdc1b97290cf87b3cc8bf", func := "bellwether/bellwetherlaw02.MemAdds", spec := "memAdds", apart := false }
def MemAddsSaid : Prop := memAddsRow.holds Try.pinned (OpenSpec.ofChange memAddsSpec)

/-- ITS FALSE NEIGHBOUR: 'it returns false'. Refute it at one input. -/
def memAddsWrong : ChangeSpec := { name := "memAdds", fn := fun _ => fun
  | [d1, d2] => { results := [.lit (.bool false)], args := [d1, d2] }
  | _ => none }
def MemAddsWrongFalsely : Prop := memAddsRow.holds Try.pinned (OpenSpec.ofChange memAddsWrong)

/-- 'bellwetherlaw02.MemLocks': WHATEVER THE INPUT: true; the input reads as it did. -/
def memLocksSpec : ChangeSpec := { name := "memLocks", fn := fun _ => fun
  | [d] => { results := [.lit (.bool true)], args := [d] }
  | _ => none }
def memLocksRow : OpenClaim := { program := "ytcolbaaecbhkdaa", sum := "786f0585e9577ac113af6aa8eb0d751e93562f14aa7cdc1b97290cf87b3cc8bf", func := "bellwether/bellwetherlaw02.MemLocks", spec := "memLocks", apart := false }
def MemLocksSaid : Prop := memLocksRow.holds Try.pinned (OpenSpec.ofChange memLocksSpec)

/-- ITS FALSE NEIGHBOUR: 'it returns false'. Refute it at one input. -/
def memLocksWrong : ChangeSpec := { name := "memLocks", fn := fun _ => fun
  | [d] => { results := [.lit (.bool false)], args := [d] }
  | _ => none }
def MemLocksWrongFalsely : Prop := memLocksRow.holds Try.pinned (OpenSpec.ofChange memLocksWrong)

/-- 'bellwethertop.Names': WHATEVER THE INPUT: true; the input reads as it did. -/
def namesSpec : ChangeSpec := { name := "names", fn := fun _ => fun
  | [] => { results := [.lit (.bool true)], args := [] }
  | _ => none }
def namesRow : OpenClaim := { program := "ytcolbaaecbhkdaa", sum := "786f0585e9577ac113af6aa8eb0d751e93562f14aa7cdc1b97290cf87b3cc8bf", func := "bellwether/bellwethertop.Names", spec := "names", apart := false }
def NamesSaid : Prop := namesRow.holds Try.pinned (OpenSpec.ofChange namesSpec)

/-- ITS FALSE NEIGHBOUR: 'it returns false'. Refute it at one input. -/
def namesWrong : ChangeSpec := { name := "names", fn := fun _ => fun
  | [] => { results := [.lit (.bool false)], args := [] }
  | _ => none }
def NamesWrongFalsely : Prop := namesRow.holds Try.pinned (OpenSpec.ofChange namesWrong)

/-- 'bellwetherlaw02.MemNoughts': WHATEVER THE INPUT: true; the input reads as it did. -/
def memNoughtsSpec : ChangeSpec := { name := "memNoughts", fn := fun _ => fun
  | [d] => { results := [.lit (.bool true)], args := [d] }
  | _ => none }
def memNoughtsRow : OpenClaim := { program := "ytcolbaaecbhkdaa", sum := "786f0585e9577ac113af6aa8eb0d751e93562f14aa7cdc1b97290cf87b3cc8bf", func := "bellwether/bellwetherlaw02.MemNoughts", spec := "memNoughts", apart := false }
def MemNoughtsSaid : Prop := memNoughtsRow.holds Try.pinned (OpenSpec.ofChange memNoughtsSpec)

/-- ITS FALSE NEIGHBOUR: 'it returns false'. Refute it at one input. -/
def memNoughtsWrong : ChangeSpec := { name := "memNoughts", fn := fun _ => fun
  | [d] => { results := [.lit (.bool false)], args := [d] }
  | _ => none }
def MemNoughtsWrongFalsely : Prop := memNoughtsRow.holds Try.pinned (OpenSpec.ofChange memNoughtsWrong)

/- THE SECOND FORM. 'bulk': how many values and letters a reading holds, each counted each time it is reached (what is shared counts as often as it is met; a slice's spare places count too). A statement '..UptoSaid' is the law's where the arguments, and the package variables that the reading takes, are together of bulk at most 1048576: NARROWER than '..Said'. Prove '..Said' where nothing that the law and all that it calls make is longer than what came in: it says more and counts as full. Else prove '..UptoSaid'. A law counts once. -/
mutual
def uptoBulk {H : Type} : DataW H → Nat
  | .lit (.string bytes) => bytes.length + 1
  | .lit _ => 1
  | .nil => 1
  | .ptr d => uptoBulk d + 1
  | .slice elems spare => uptoBulkAll elems + uptoBulkAll spare + 1
  | .agg parts => uptoBulkAll parts + 1
  | .iface _ d => uptoBulk d + 1
  | .map entries => uptoBulkEntries entries + 1
  | .held _ => 1
def uptoBulkAll {H : Type} : List (DataW H) → Nat
  | [] => 0
  | d :: r => uptoBulk d + uptoBulkAll r
def uptoBulkEntries {H : Type} : List (Lit × DataW H) → Nat
  | [] => 0
  | x :: r => uptoBulkEntry x + uptoBulkEntries r
def uptoBulkEntry {H : Type} : Lit × DataW H → Nat
  | (.string bytes, d) => bytes.length + uptoBulk d + 1
  | (_, d) => uptoBulk d + 1
 end
def uptoSmall : (H : Type) → List (DataW H) → Bool := fun _ ds => decide (uptoBulkAll ds ≤ 1048576)
def OpenSpec.upto (s : _root_.Go.ChangeSpec) : _root_.Go.OpenSpec := { _root_.Go.OpenSpec.ofChange s with cond := some uptoSmall }

/-- 'bellwetherlaw02.MemTells', WHERE WHAT IT READS IS OF BULK AT MOST 1048576: true; the input reads as it did. -/
def memTellsUptoRow : OpenClaim := { program := "ytcolbaaecbhkdaa", sum := "786f0585e9577ac113af6aa8eb0d751e93562f14aa7cdc1b97290cf87b3cc8bf", func := "bellwether/bellwetherlaw02.MemTells", spec := "memTells", apart := false, narrowed := true }
def MemTellsUptoSaid : Prop := memTellsUptoRow.holds Try.pinned (OpenSpec.upto memTellsSpec)

/-- 'bellwetherlaw02.MemLast', WHERE WHAT IT READS IS OF BULK AT MOST 1048576: true; the input reads as it did. -/
def memLastUptoRow : OpenClaim := { program := "ytcolbaaecbhkdaa", sum := "786f0585e9577ac113af6aa8eb0d751e93562f14aa7cdc1b97290cf87b3cc8bf", func := "bellwether/bellwetherlaw02.MemLast", spec := "memLast", apart := false, narrowed := true }
def MemLastUptoSaid : Prop := memLastUptoRow.holds Try.pinned (OpenSpec.upto memLastSpec)

/-- 'bellwetherlaw02.MemWins', WHERE WHAT IT READS IS OF BULK AT MOST 1048576: true; the input reads as it did. -/
def memWinsUptoRow : OpenClaim := { program := "ytcolbaaecbhkdaa", sum := "786f0585e9577ac113af6aa8eb0d751e93562f14aa7cdc1b97290cf87b3cc8bf", func := "bellwether/bellwetherlaw02.MemWins", spec := "memWins", apart := false, narrowed := true }
def MemWinsUptoSaid : Prop := memWinsUptoRow.holds Try.pinned (OpenSpec.upto memWinsSpec)

/-- 'bellwetherlaw02.MemParts', WHERE WHAT IT READS IS OF BULK AT MOST 1048576: true; the input reads as it did. -/
def memPartsUptoRow : OpenClaim := { program := "ytcolbaaecbhkdaa", sum := "786f0585e9577ac113af6aa8eb0d751e93562f14aa7cdc1b97290cf87b3cc8bf", func := "bellwether/bellwetherlaw02.MemParts", spec := "memParts", apart := false, narrowed := true }
def MemPartsUptoSaid : Prop := memPartsUptoRow.holds Try.pinned (OpenSpec.upto memPartsSpec)

/-- 'bellwetherlaw02.MemAdds', WHERE WHAT IT READS IS OF BULK AT MOST 1048576: true; the input reads as it did. -/
def memAddsUptoRow : OpenClaim := { program := "ytcolbaaecbhkdaa", sum := "786f0585e9577ac113af6aa8eb0d751e93562f14aa7cdc1b97290cf87b3cc8bf", func := "bellwether/bellwetherlaw02.MemAdds", spec := "memAdds", apart := false, narrowed := true }
def MemAddsUptoSaid : Prop := memAddsUptoRow.holds Try.pinned (OpenSpec.upto memAddsSpec)

/-- 'bellwetherlaw02.MemLocks', WHERE WHAT IT READS IS OF BULK AT MOST 1048576: true; the input reads as it did. -/
def memLocksUptoRow : OpenClaim := { program := "ytcolbaaecbhkdaa", sum := "786f0585e9577ac113af6aa8eb0d751e93562f14aa7cdc1b97290cf87b3cc8bf", func := "bellwether/bellwetherlaw02.MemLocks", spec := "memLocks", apart := false, narrowed := true }
def MemLocksUptoSaid : Prop := memLocksUptoRow.holds Try.pinned (OpenSpec.upto memLocksSpec)

/-- 'bellwethertop.Names', WHERE WHAT IT READS IS OF BULK AT MOST 1048576: true; the input reads as it did. -/
def namesUptoRow : OpenClaim := { program := "ytcolbaaecbhkdaa", sum := "786f0585e9577ac113af6aa8eb0d751e93562f14aa7cdc1b97290cf87b3cc8bf", func := "bellwether/bellwethertop.Names", spec := "names", apart := false, narrowed := true }
def NamesUptoSaid : Prop := namesUptoRow.holds Try.pinned (OpenSpec.upto namesSpec)

/-- 'bellwetherlaw02.MemNoughts', WHERE WHAT IT READS IS OF BULK AT MOST 1048576: true; the input reads as it did. -/
def memNoughtsUptoRow : OpenClaim := { program := "ytcolbaaecbhkdaa", sum := "786f0585e9577ac113af6aa8eb0d751e93562f14aa7cdc1b97290cf87b3cc8bf", func := "bellwether/bellwetherlaw02.MemNoughts", spec := "memNoughts", apart := false, narrowed := true }
def MemNoughtsUptoSaid : Prop := memNoughtsUptoRow.holds Try.pinned (OpenSpec.upto memNoughtsSpec)

end Rows
end Go.Proofs.Ytcolbaaecbhkdaa
