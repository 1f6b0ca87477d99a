/- What an operation of the interpreter says of memory: relations between worlds, the store's invariant, operands. Part of a layer that interprets Go code over values. No condition. -/
import Derived.Test.YtnomicnfgdjdeaaAb2
namespace Go.Proofs.Ytnomicnfgdjdeaa.Ab
open Go.RowKit

theorem RepV.arg {I : Nat → Prop} {ρ ρ' : Nat → Option ORep} {w : World} {a : AVal} {v : Value} (h : RepV I ρ w a v) (hn : a.argOk = true) : RepV I ρ' w a v := by
  cases h with
  | agg cs vs hl hcell hv =>
    refine .agg cs vs hl hcell (fun j x hx => (hv j x hx).free ?_)
    simp only [AVal.argOk, List.all_eq_true] at hn
    exact hn x (List.mem_of_getElem? hx)
  | any v => exact .any v
  | bool b => exact .bool b
  | int k n => exact .int k n
  | str s => exact .str s
  | nilp => exact .nilp
  | list sz es A c vals h1 h2 h3 h4 h5 => exact RepV.free (.list sz es A c vals h1 h2 h3 h4 h5) rfl
  | vec b r h => simp [AVal.argOk, AVal.noRef] at hn
  | ptr b e j r k h hk => simp [AVal.argOk, AVal.noRef] at hn
  | fptr cs a vals h1 h2 h3 h4 h5 => exact RepV.free (.fptr cs a vals h1 h2 h3 h4 h5) rfl
  | tup cs vs hl hv => simp [AVal.argOk, AVal.noRef] at hn
  | func f caps vs hl hv => exact RepV.free (.func f caps vs hl hv) (by simpa [AVal.argOk] using hn)

/-! ### A block of the store in memory -/
structure BlkRep (I : Nat → Prop) (ρ : Nat → Option ORep) (w : World) (r : ORep) (B : Blk) : Prop where
  len : r.len = B.es.length
  sz : r.sz = B.sz
  ty : r.ty = B.ty
  pos : 0 < B.sz
  sizes : ∀ e ∈ B.es, e.length = B.sz
  cells : ∀ e ∈ B.es, ∀ x ∈ e, x.isCell = true
  out : ∀ k, r.blk = some k → ¬ I k
  row : ∃ vals : List Value, w.ownsRow 0 B.ty B.sz r.hdr r.len vals ∧ ∀ (p : Nat) x, B.es.flatten[p]? = some x → RepV I ρ w x (vals.getD p undef)

theorem BlkRep.lt {I : Nat → Prop} {ρ : Nat → Option ORep} {w : World} {r : ORep} {B : Blk} (h : BlkRep I ρ w r B) {k : Nat} (hk : r.blk = some k) : k < w.heap.size := by
  obtain ⟨vals, ho, _⟩ := h.row
  exact (ho.lt k (by simp [ORep.hdr, hk, Value.ownBlock])).2

/-- Memory elsewhere may change, and more may be frozen. -/
theorem BlkRep.mono {I I' : Nat → Prop} {ρ ρ' : Nat → Option ORep} {w w' : World} {r : ORep} {B : Blk} (h : BlkRep I ρ w r B)
    (hI : ∀ b, I b → I' b) (hρ : ∀ i s, ρ i = some s → ρ' i = some s) (hw : ∀ b, I b → w'.heap[b]? = w.heap[b]?)
    (hk : ∀ k, r.blk = some k → ¬ I' k ∧ w'.heap[k]? = w.heap[k]?) : BlkRep I' ρ' w' r B := by
  obtain ⟨vals, ho, hv⟩ := h.row
  refine ⟨h.len, h.sz, h.ty, h.pos, h.sizes, h.cells, fun k e => (hk k e).1, vals, ⟨ho.1, ?_⟩, fun p x hx => (hv p x hx).mono hI hρ hw⟩
  rcases ho.2 with hn | ⟨g, cap, cur, e1, e2, e3, e4⟩
  · exact .inl hn
  · refine .inr ⟨g, cap, cur, e1, e2, ?_, e4⟩
    have : r.blk = some g := by
      simp only [ORep.hdr, Value.slice.injEq] at e1
      cases hb : r.blk with
      | none => simp [hb] at e1
      | some k => simp [hb] at e1; rw [e1.1]
    rw [(hk g this).2]
    exact e3

/-! ### What a pure step does to the world -/
structure PEv (I : Nat → Prop) (w : World) (I' : Nat → Prop) (w' : World) : Prop where
  sub : ∀ b, I b → I' b
  new : ∀ b, I' b → I b ∨ w.heap.size ≤ b
  dom : ∀ b, I' b → b < w'.heap.size
  os : w'.os = w.os
  tape : w'.tape = w.tape
  output : w'.output = w.output
  size : w.heap.size ≤ w'.heap.size
  same : ∀ b, b < w.heap.size → w'.heap[b]? = w.heap[b]?
theorem PEv.refl {I : Nat → Prop} {w : World} (h : ∀ b, I b → b < w.heap.size) : PEv I w I w :=
  ⟨fun _ h => h, fun _ h => .inl h, h, rfl, rfl, rfl, Nat.le_refl _, fun _ _ => rfl⟩
theorem PEv.trans {I1 I2 I3 : Nat → Prop} {w1 w2 w3 : World} (h : PEv I1 w1 I2 w2) (k : PEv I2 w2 I3 w3) : PEv I1 w1 I3 w3 where
  sub b hb := k.sub b (h.sub b hb)
  new b hb := by
    rcases k.new b hb with h1 | h1
    · exact h.new b h1
    · exact .inr (Nat.le_trans h.size h1)
  dom := k.dom
  os := k.os.trans h.os
  tape := k.tape.trans h.tape
  output := k.output.trans h.output
  size := Nat.le_trans h.size k.size
  same b hb := (k.same b (Nat.lt_of_lt_of_le hb h.size)).trans (h.same b hb)
theorem PEv.below {I I' : Nat → Prop} {w w' : World} (h : PEv I w I' w') : Below w.heap.size w w' := ⟨h.os, h.tape, h.output, h.size, h.same⟩

/-! ### The store's invariant -/
structure Inv (I : Nat → Prop) (ρ : Nat → Option ORep) (m : List (Nat × Blk)) (nx : Nat) (w : World) : Prop where
  dom : ∀ b, I b → b < w.heap.size
  fresh : ∀ id, nx ≤ id → ρ id = none
  blk : ∀ id B, mg m id = some B → ∃ r, ρ id = some r ∧ BlkRep I ρ w r B
  inj : ∀ i j B C r s k, mg m i = some B → mg m j = some C → ρ i = some r → ρ j = some s → r.blk = some k → s.blk = some k → i = j
def Owned (ρ : Nat → Option ORep) (m : List (Nat × Blk)) (b : Nat) : Prop := ∃ id B r, mg m id = some B ∧ ρ id = some r ∧ r.blk = some b
/-- What a step does to the world, the frozen part and the store. -/
structure Evol (I : Nat → Prop) (ρ : Nat → Option ORep) (m : List (Nat × Blk)) (w : World) (I' : Nat → Prop) (ρ' : Nat → Option ORep) (m' : List (Nat × Blk)) (w' : World) : Prop where
  sub : ∀ b, I b → I' b
  new : ∀ b, I' b → I b ∨ Owned ρ m b ∨ w.heap.size ≤ b
  ext : ∀ id r, ρ id = some r → ρ' id = some r
  own : ∀ b, Owned ρ' m' b → Owned ρ m b ∨ w.heap.size ≤ b
  os : w'.os = w.os
  tape : w'.tape = w.tape
  output : w'.output = w.output
  size : w.heap.size ≤ w'.heap.size
  same : ∀ b, b < w.heap.size → ¬ Owned ρ m b → w'.heap[b]? = w.heap[b]?
theorem Evol.refl (I : Nat → Prop) (ρ : Nat → Option ORep) (m : List (Nat × Blk)) (w : World) : Evol I ρ m w I ρ m w :=
  ⟨fun _ h => h, fun _ h => .inl h, fun _ _ h => h, fun _ h => .inl h, rfl, rfl, rfl, Nat.le_refl _, fun _ _ _ => rfl⟩
theorem Evol.trans {I1 I2 I3 : Nat → Prop} {ρ1 ρ2 ρ3 : Nat → Option ORep} {m1 m2 m3 : List (Nat × Blk)} {w1 w2 w3 : World}
    (h : Evol I1 ρ1 m1 w1 I2 ρ2 m2 w2) (k : Evol I2 ρ2 m2 w2 I3 ρ3 m3 w3) : Evol I1 ρ1 m1 w1 I3 ρ3 m3 w3 where
  sub b hb := k.sub b (h.sub b hb)
  new b hb := by
    rcases k.new b hb with h1 | h1 | h1
    · exact h.new b h1
    · exact .inr (h.own b h1)
    · exact .inr (.inr (Nat.le_trans h.size h1))
  ext id r e := k.ext id r (h.ext id r e)
  own b hb := by
    rcases k.own b hb with h1 | h1
    · exact h.own b h1
    · exact .inr (Nat.le_trans h.size h1)
  os := k.os.trans h.os
  tape := k.tape.trans h.tape
  output := k.output.trans h.output
  size := Nat.le_trans h.size k.size
  same b hb hn := by
    refine (k.same b (Nat.lt_of_lt_of_le hb h.size) (fun ho => ?_)).trans (h.same b hb hn)
    rcases h.own b ho with h1 | h1
    · exact hn h1
    · omega
theorem Inv.not_frozen {I : Nat → Prop} {ρ : Nat → Option ORep} {m : List (Nat × Blk)} {nx : Nat} {w : World} (h : Inv I ρ m nx w) {b : Nat} (hb : Owned ρ m b) : ¬ I b := by
  obtain ⟨id, B, r, h1, h2, h3⟩ := hb
  obtain ⟨r', e1, e2⟩ := h.blk id B h1
  rw [h2] at e1
  cases e1
  exact e2.out b h3
theorem Evol.frozen {I I' : Nat → Prop} {ρ ρ' : Nat → Option ORep} {m m' : List (Nat × Blk)} {nx : Nat} {w w' : World} (hi : Inv I ρ m nx w) (h : Evol I ρ m w I' ρ' m' w') : ∀ b, I b → w'.heap[b]? = w.heap[b]? :=
  fun b hb => h.same b (hi.dom b hb) (fun ho => hi.not_frozen ho hb)
theorem Evol.rep {I I' : Nat → Prop} {ρ ρ' : Nat → Option ORep} {m m' : List (Nat × Blk)} {nx : Nat} {w w' : World} (hi : Inv I ρ m nx w) (h : Evol I ρ m w I' ρ' m' w') {a : AVal} {v : Value} (hr : RepV I ρ w a v) : RepV I' ρ' w' a v :=
  hr.mono h.sub h.ext (h.frozen hi)
/-- A pure step leaves the store as it was. -/
theorem PEv.evol {I I' : Nat → Prop} {ρ : Nat → Option ORep} {m : List (Nat × Blk)} {w w' : World} (h : PEv I w I' w') : Evol I ρ m w I' ρ m w' :=
  ⟨h.sub, fun b hb => (h.new b hb).imp id .inr, fun _ _ h => h, fun _ h => .inl h, h.os, h.tape, h.output, h.size, fun b hb _ => h.same b hb⟩
theorem PEv.inv {I I' : Nat → Prop} {ρ : Nat → Option ORep} {m : List (Nat × Blk)} {nx : Nat} {w w' : World} (hi : Inv I ρ m nx w) (h : PEv I w I' w') : Inv I' ρ m nx w' where
  dom := h.dom
  fresh := hi.fresh
  blk id B hB := by
    obtain ⟨r, e1, e2⟩ := hi.blk id B hB
    refine ⟨r, e1, e2.mono h.sub (fun _ _ h => h) (fun b hb => h.same b (hi.dom b hb)) (fun k hk => ⟨fun hk' => ?_, h.same k (e2.lt hk)⟩)⟩
    rcases h.new k hk' with h1 | h1
    · exact e2.out k hk h1
    · have := e2.lt hk; omega
  inj := hi.inj

/-! ### Slots -/
def RepS (I : Nat → Prop) (ρ : Nat → Option ORep) (w : World) (sl : List (Nat × AVal)) (tmps : Array Value) : Prop := ∀ t, RepV I ρ w (lk sl t) (tmps.getD t undef)
theorem RepS.mono {I I' : Nat → Prop} {ρ ρ' : Nat → Option ORep} {w w' : World} {sl : List (Nat × AVal)} {tmps : Array Value} (h : RepS I ρ w sl tmps)
    (hI : ∀ b, I b → I' b) (hρ : ∀ i r, ρ i = some r → ρ' i = some r) (hw : ∀ b, I b → w'.heap[b]? = w.heap[b]?) : RepS I' ρ' w' sl tmps := fun t => (h t).mono hI hρ hw
theorem RepS.put {I : Nat → Prop} {ρ : Nat → Option ORep} {w : World} {sl : List (Nat × AVal)} {a : Act} {x : AVal} {v : Value} (d : Option Nat) (h : RepS I ρ w sl a.tmps) (hd : ∀ t, d = some t → t < a.tmps.size) (hv : RepV I ρ w x v) :
    RepS I ρ w (putS d x sl) (a.put d v).tmps := by
  cases d with
  | none => exact h
  | some d =>
    intro t
    simp only [putS, lk, Act.put]
    split
    · rename_i e
      subst e
      simpa [hd d rfl] using hv
    · rename_i e
      have := h t
      simpa [Array.getElem?_setIfInBounds, e] using this
theorem put_size (a : Act) (d : Option Nat) (v : Value) : (a.put d v).tmps.size = a.tmps.size := by cases d <;> simp [Act.put]
theorem put_defers (a : Act) (d : Option Nat) (v : Value) : (a.put d v).defers = a.defers := by cases d <;> rfl
def okOpd : Opd → Operand → Bool
  | .t n, .tmp m => n == m
  | .c v, .const u => repB v u
  | .f g, .func h => g == h
  | _, _ => false
theorem okOpd_sound {I : Nat → Prop} {ρ : Nat → Option ORep} {w : World} {sl : List (Nat × AVal)} {a : Act} (h : RepS I ρ w sl a.tmps) {x : Opd} {y : Operand} (hok : okOpd x y = true) : RepV I ρ w (ev sl x) (a.eval y) := by
  cases x <;> cases y <;> simp only [okOpd, Bool.false_eq_true, beq_iff_eq] at hok
  · subst hok; exact h _
  · exact (repB_sound I ρ w).1 _ _ hok
  · subst hok; exact .func _ [] #[] rfl (by simp)

/-! ### What an operation gives -/
def OpGives (P : Program) (o : Oper) (a : Act) (w : World) (R : Value → World → Prop) : Prop :=
  match (execOp a.eval o).run P w with
  | .ok (.value v) w' => R v w'
  | .ok .skip w' => R undef w'
  | .ok (.enter f vs) w' => Calls P f vs w' (fun e w'' => ∃ v, e = .returned v ∧ R v w'')
  | _ => False
theorem OpGives.wp {P : Program} {o : Oper} {a : Act} {w : World} {R : Value → World → Prop} (h : OpGives P o a w R) {K : Act → World → Prop} {Q : Exit → Act → World → Prop}
    (hk : ∀ v w', R v w' → K (a.put o.dst v) w') : o.wp P a w K Q := by
  unfold OpGives at h
  unfold Oper.wp
  generalize (execOp a.eval o).run P w = r at h
  cases r with
  | halt => exact h.elim
  | ok n w' =>
    cases n <;> first | exact h.elim | skip
    · exact hk _ _ h
    · exact hk _ _ h
    · exact Calls.mono h (fun e w'' ⟨v, he, hr⟩ => by subst he; exact hk _ _ hr)
theorem OpGives.mono {P : Program} {o : Oper} {a : Act} {w : World} {R R' : Value → World → Prop} (h : OpGives P o a w R) (hr : ∀ v w', R v w' → R' v w') : OpGives P o a w R' := by
  unfold OpGives at *
  generalize (execOp a.eval o).run P w = r at *
  cases r with
  | halt => exact h.elim
  | ok n w' =>
    cases n <;> first | exact h.elim | skip
    · exact hr _ _ h
    · exact hr _ _ h
    · exact Calls.mono h (fun e w'' ⟨v, he, h2⟩ => ⟨v, he, hr _ _ h2⟩)
/-- It runs to a value. -/
theorem OpGives.of_run {P : Program} {o : Oper} {a : Act} {w w' : World} {v : Value} {R : Value → World → Prop} (h : (execOp a.eval o).run P w = .ok (.value v) w') (hr : R v w') : OpGives P o a w R := by
  unfold OpGives; rw [h]; exact hr
theorem OpGives.of_skip {P : Program} {o : Oper} {a : Act} {w w' : World} {R : Value → World → Prop} (h : (execOp a.eval o).run P w = .ok .skip w') (hr : R undef w') : OpGives P o a w R := by
  unfold OpGives; rw [h]; exact hr

end Go.Proofs.Ytnomicnfgdjdeaa.Ab
