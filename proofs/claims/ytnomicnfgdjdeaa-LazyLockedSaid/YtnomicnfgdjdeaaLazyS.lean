/- What a step of a worker comes to, in plain Lean. No condition. -/
import Derived.Test.YtnomicnfgdjdeaaLazyV
namespace Go.Proofs.Ytnomicnfgdjdeaa.Ab
open Go.RowKit

structure Wk where
  kind : Int
  pc : Int
  r0 : Int
  r1 : Int
  r2 : Int
  r3 : Int
  r4 : Int
  r5 : Int
  r6 : Int
  r7 : Int
  r8 : Int
  r9 : Int
  done : Bool
  out : Int
  deriving DecidableEq
def Wk.ok (w : Wk) : Prop := i64 w.kind ∧ i64 w.pc ∧ i64 w.r0 ∧ i64 w.r1 ∧ i64 w.r2 ∧ i64 w.r3 ∧ i64 w.r4 ∧ i64 w.r5 ∧ i64 w.r6 ∧ i64 w.r7 ∧ i64 w.r8 ∧ i64 w.r9 ∧ i64 w.out
def Wk.c (w : Wk) : List AVal := [.int .i64 w.kind, .int .i64 w.pc, .int .i64 w.r0, .int .i64 w.r1, .int .i64 w.r2, .int .i64 w.r3, .int .i64 w.r4, .int .i64 w.r5, .int .i64 w.r6, .int .i64 w.r7, .int .i64 w.r8, .int .i64 w.r9, .bool w.done, .int .i64 w.out]
theorem Wk.c_len (a : Wk) : a.c.length = 14 := rfl
theorem Wk.c_nr (a : Wk) : a.c.all AVal.noRef = true := rfl
theorem Wk.c_take (a : Wk) : a.c.take 14 = a.c := rfl
theorem Wk.c_drop (a : Wk) : a.c.drop 14 = [] := rfl
attribute [simp] Wk.c_len Wk.c_nr Wk.c_take Wk.c_drop
/-- The place of a node's word; below 0: there is no such node. -/
def placeS (m : List Int) (node word : Int) : Int := if 0 ≤ node ∧ node < (m.length : Int) / 4 then 4 * node + word else -1
def touchS (m : List Int) (op node word to : Int) : List Int × Fnd × Int := doS m ⟨op, placeS m node word, 0, to⟩
structure Tch where
  op : Int
  node : Int
  word : Int
  to : Int
/-- The access of a worker; none: there is no such PC. -/
def accS (w : Wk) : Option Tch :=
  if w.pc = 0 then some ⟨1, 0, 1, 0⟩
  else if w.pc = 1 then some ⟨1, w.r2, 0, 0⟩
  else if w.pc = 2 then some ⟨1, w.r2, 1, 0⟩
  else if w.kind = 3 then if w.pc = 3 then some ⟨1, w.r2, 3, 0⟩ else none
  else if w.pc = 10 then some ⟨3, w.r1, 2, w.r4⟩
  else if w.pc = 11 then some ⟨3, w.r2, 2, w.r4⟩
  else if w.pc = 12 then some ⟨1, w.r1, 3, 0⟩
  else if w.pc = 13 then some ⟨1, w.r2, 3, 0⟩
  else if w.pc = 14 then some ⟨1, w.r1, 1, 0⟩
  else if w.pc = 15 ∧ w.kind = 1 then some ⟨2, w.r3, 0, w.r0⟩
  else if w.pc = 16 ∧ w.kind = 1 then some ⟨2, w.r3, 1, w.r2⟩
  else if w.pc = 17 ∧ w.kind = 2 then some ⟨2, w.r2, 3, 1⟩
  else if w.pc = 18 ∧ w.kind = 1 then some ⟨2, w.r1, 1, w.r3⟩
  else if w.pc = 19 ∧ w.kind = 2 then some ⟨1, w.r2, 1, 0⟩
  else if w.pc = 20 then some ⟨2, w.r2, 2, 0⟩
  else if w.pc = 21 then some ⟨2, w.r1, 2, 0⟩
  else if w.pc = 22 ∧ w.kind = 2 then some ⟨2, w.r1, 1, w.r6⟩
  else none
def toS (w : Wk) (pc r7 : Int) : Wk := { w with pc := pc, r7 := r7 }
def nextS (w : Wk) (f : Fnd) : Wk :=
  if w.pc = 0 then { w with r1 := 0, r2 := f.v, pc := 1 }
  else if w.pc = 1 then if f.v < w.r0 then { w with pc := 2 } else { w with r5 := f.v, pc := if w.kind = 3 then 3 else 10 }
  else if w.pc = 2 then { w with r1 := w.r2, r2 := f.v, pc := 1 }
  else if w.pc = 3 then { w with done := true, out := if w.r5 = w.r0 ∧ f.v = 0 then 1 else 0 }
  else if w.pc = 10 then if f.d then { w with pc := 11 } else { w with pc := 0 }
  else if w.pc = 11 then if f.d then { w with pc := 12 } else toS w 21 (-1)
  else if w.pc = 12 then if f.v = 0 then { w with pc := 13 } else toS w 20 (-1)
  else if w.pc = 13 then if f.v = 0 then { w with pc := 14 } else toS w 20 (-1)
  else if w.pc = 14 then if f.v ≠ w.r2 then toS w 20 (-1) else if w.r5 = w.r0 then (if w.kind = 1 then toS w 20 0 else { w with pc := 17 }) else (if w.kind = 1 then { w with pc := 15 } else toS w 20 0)
  else if w.pc = 15 then { w with pc := 16 }
  else if w.pc = 16 then { w with pc := 18 }
  else if w.pc = 17 then { w with pc := 19 }
  else if w.pc = 18 then toS w 20 1
  else if w.pc = 22 then toS w 20 1
  else if w.pc = 19 then { w with r6 := f.v, pc := 22 }
  else if w.pc = 20 then { w with pc := 21 }
  else if w.r7 = -1 then { w with pc := 0 }
  else { w with done := true, out := w.r7 }
def stepS (m : List Int) (w : Wk) : List Int × Wk × Int :=
  if w.done = true ∨ w.kind < 1 ∨ 3 < w.kind then (m, w, 1)
  else match accS w with
    | none => (m, w, 1)
    | some a => if (touchS m a.op a.node a.word a.to).2.2 = 0 then ((touchS m a.op a.node a.word a.to).1, nextS w (touchS m a.op a.node a.word a.to).2.1, 0) else (m, w, (touchS m a.op a.node a.word a.to).2.2)
end Go.Proofs.Ytnomicnfgdjdeaa.Ab
