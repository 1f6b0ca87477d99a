/- Pure operations of the interpreter are what the machine does: moves, numbers, structs, slices that are read. Part of a layer that interprets Go code over values. No condition. -/
import Derived.Test.YtnomicnfgdjdeaaAb3
import Derived.Great.FillDense
namespace Go.Proofs.Ytnomicnfgdjdeaa.Ab
open Go.RowKit

/-! ### Lists of elements of one size -/
theorem flat_get {α : Type} (sz : Nat) : ∀ (es : List (List α)), (∀ e ∈ es, e.length = sz) → ∀ i j, j < sz → es.flatten[i * sz + j]? = (es[i]?).bind (·[j]?)
  | [], _, i, j, _ => by simp
  | e :: r, h, i, j, hj => by
    have he : e.length = sz := h e (by simp)
    cases i with
    | zero => simp [List.getElem?_append_left (show j < e.length by omega)]
    | succ i =>
      have h1 : (i + 1) * sz + j = e.length + (i * sz + j) := by rw [he, Nat.add_mul]; omega
      simp only [List.flatten_cons, List.getElem?_cons_succ]
      rw [h1, List.getElem?_append_right (by omega)]
      have := flat_get sz r (fun x hx => h x (by simp [hx])) i j hj
      simpa using this
theorem flat_len {α : Type} (sz : Nat) : ∀ (es : List (List α)), (∀ e ∈ es, e.length = sz) → es.flatten.length = es.length * sz
  | [], _ => by simp
  | e :: r, h => by
    have := flat_len sz r (fun x hx => h x (by simp [hx]))
    simp only [List.flatten_cons, List.length_append, this, h e (by simp), List.length_cons, Nat.add_mul]
    omega
theorem split_index {p n sz : Nat} (h : p < n * sz) : ∃ i j, i < n ∧ j < sz ∧ p = i * sz + j := by
  have hs : 0 < sz := by
    rcases Nat.eq_zero_or_pos sz with h0 | h0
    · subst h0; simp at h
    · exact h0
  exact ⟨p / sz, p % sz, Nat.div_lt_of_lt_mul (by rwa [Nat.mul_comm] at h), Nat.mod_lt _ hs, by have := Nat.div_add_mod p sz; rw [Nat.mul_comm] at this; omega⟩

/-! ### Types -/
def aggB (P : Program) (t : TypeId) : Option Bool := (P.underlying t).map fun | .struct _ | .array .. => true | _ => false
def szB (P : Program) (t : TypeId) (n : Nat) : Bool := (P.info? t).map (·.size) == some n
def bytesB (P : Program) (t : TypeId) (n : Nat) : Bool := (P.info? t).map (·.bytes) == some n
def zeroB (P : Program) (t : TypeId) (zero : List AVal) : Bool :=
  match (P.info? t).bind (·.zero) with
  | some z => repBL zero z.cells.toList && zero.all AVal.isCell
  | none => false
def sliceB (P : Program) (t e : TypeId) : Bool := match P.underlying t with | some (.slice e') => e' == e | _ => false
theorem aggB_run {P : Program} {t : TypeId} {b : Bool} (h : aggB P t = some b) (w : World) : (isAgg t).run P w = .ok b w := by
  unfold aggB at h
  cases hu : P.underlying t with
  | none => simp [hu] at h
  | some d =>
    simp only [hu, Option.map_some, Option.some.injEq] at h
    unfold isAgg
    rw [Sem.run_bind, run_underlying hu w]
    subst h
    cases d <;> rfl
theorem szB_run {P : Program} {t : TypeId} {n : Nat} (h : szB P t n = true) (w : World) : (sizeOf t).run P w = .ok n w := by
  unfold szB at h
  cases hi : P.info? t with
  | none => simp [hi] at h
  | some i => simp [hi] at h; simp [sizeOf, typeInfo, hi, h]
theorem sliceB_spec {P : Program} {t e : TypeId} (h : sliceB P t e = true) : P.underlying t = some (.slice e) := by
  unfold sliceB at h
  split at h
  · rename_i e' he; simp at h; subst h; exact he
  · cases h
theorem zeroB_spec {P : Program} {t : TypeId} {zero : List AVal} (h : zeroB P t zero = true) : ∃ i z, P.info? t = some i ∧ i.zero = some z ∧ z.cells.size = zero.length ∧
    (∀ x ∈ zero, x.isCell = true) ∧ ∀ (I : Nat → Prop) ρ w (j : Nat) x, zero[j]? = some x → RepV I ρ w x (z.cells.getD j undef) := by
  unfold zeroB at h
  cases hi : P.info? t with
  | none => simp [hi] at h
  | some i =>
    cases hz : i.zero with
    | none => simp [hi, hz] at h
    | some z =>
      simp only [hi, hz, Option.bind_some, Bool.and_eq_true, List.all_eq_true] at h
      have h1 := (repB_sound (fun _ => False) (fun _ => none) default).2 _ _ h.1
      exact ⟨i, z, rfl, hz, by simpa using h1.1.symm, h.2, fun I ρ w j x hx => by simpa using ((repB_sound I ρ w).2 _ _ h.1).2 j x hx⟩

/-! ### A pure result -/
def PRes (I : Nat → Prop) (ρ : Nat → Option ORep) (w : World) (r : AVal) (v : Value) (w' : World) : Prop := ∃ I', PEv I w I' w' ∧ RepV I' ρ w' r v
section
variable {P : Program} {I : Nat → Prop} {ρ : Nat → Option ORep} {w : World} {sl : List (Nat × AVal)} {a : Act} {o : Oper}
theorem PRes.same {r : AVal} {v : Value} (hd : ∀ b, I b → b < w.heap.size) (h : RepV I ρ w r v) : PRes I ρ w r v w := ⟨I, PEv.refl hd, h⟩

theorem PEv.alloc (hd : ∀ b, I b → b < w.heap.size) (c : Obj) (J : Nat → Prop) (hJ : ∀ b, J b → b = w.heap.size) : PEv I w (fun b => I b ∨ J b) (w.alloc c) where
  sub b h := .inl h
  new b h := by rcases h with h | h; exact .inl h; have := hJ b h; exact .inr (by omega)
  dom b h := by simp only [World.size_alloc]; rcases h with h | h; have := hd b h; omega; have := hJ b h; omega
  os := rfl
  tape := rfl
  output := rfl
  size := by simp
  same b hb := heap_alloc_old w c b hb

/-- New cells, frozen: a slice. -/
theorem frozen_new (hd : ∀ b, I b → b < w.heap.size) (es : List (List AVal)) (sz c : Nat) (cells : Array Value) (e : TypeId) (hc : es.length ≤ c) (hs : ∀ x ∈ es, x.length = sz)
    (hn : noRefE es = true) (hsz : es.length * sz ≤ cells.size) (hv : ∀ (p : Nat) x, es.flatten[p]? = some x → RepV I ρ w x (cells.getD p undef)) :
    PRes I ρ w (.list sz es) (.slice (some ⟨w.heap.size, 0, none⟩) es.length c) (w.alloc (.cells cells e)) := by
  have ev := PEv.alloc (w := w) hd (.cells cells e) (fun b => b = w.heap.size) (fun b h => h)
  refine ⟨_, ev, .list sz es _ c (fun i j => cells.getD (i * sz + j) undef) hc hs ?_ (fun _ => ⟨_, rfl, rfl, .inr rfl, fun i j hi hj => ?_⟩) (fun i j x y hx hy => ?_)⟩
  · intro x hx y hy
    simp only [noRefE, List.all_eq_true] at hn
    exact hn x hx y hy
  · have hlt : i * sz + j < cells.size := by
      have : (i + 1) * sz ≤ es.length * sz := Nat.mul_le_mul_right _ hi
      rw [Nat.add_mul] at this; omega
    simp [hlt]
  · have hj : j < sz := by have := hs x (List.mem_of_getElem? hx); have := (List.getElem?_eq_some_iff.1 hy).1; omega
    have := hv (i * sz + j) y (by rw [flat_get sz es hs i j hj, hx]; exact hy)
    exact this.mono ev.sub (fun _ _ h => h) (fun b hb => ev.same b (hd b hb))

/-! ### Moves, tuples, numbers -/
theorem p_mov (hd : ∀ b, I b → b < w.heap.size) (hr : RepS I ρ w sl a.tmps) {x : Opd} {y : Operand} (ho : o.op = .move y ∨ o.op = .assign y) (hx : okOpd x y = true) :
    OpGives P o a w (PRes I ρ w (ev sl x)) := by
  refine .of_run (w' := w) (v := a.eval y) ?_ (.same hd (okOpd_sound hr hx))
  rcases ho with ho | ho <;> simp [execOp, ho]
theorem p_pick (hd : ∀ b, I b → b < w.heap.size) (hr : RepS I ρ w sl a.tmps) {c x y : Opd} {c' x' y' : Operand} (ho : o.op = .pick c' x' y') (hc : okOpd c c' = true) (hx : okOpd x x' = true) (hy : okOpd y y' = true)
    {t : Bool} (ht : ev sl c = .bool t) : OpGives P o a w (PRes I ρ w (if t then ev sl x else ev sl y)) := by
  have h := okOpd_sound hr hc
  rw [ht] at h
  have e : a.eval c' = .bool t := by generalize a.eval c' = v at h; cases h; rfl
  refine .of_run (w' := w) (v := if t then a.eval x' else a.eval y') (by simp [execOp, ho, e, asBool]) (.same hd ?_)
  cases t
  · exact okOpd_sound hr hy
  · exact okOpd_sound hr hx
theorem p_ext (hd : ∀ b, I b → b < w.heap.size) (hr : RepS I ρ w sl a.tmps) {x : Opd} {x' : Operand} {i : Nat} (ho : o.op = .extract x' i) (hx : okOpd x x' = true)
    {vs : List AVal} {r : AVal} (ht : ev sl x = .tup vs) (hi : vs[i]? = some r) : OpGives P o a w (PRes I ρ w r) := by
  have h := okOpd_sound hr hx
  rw [ht] at h
  generalize hv : a.eval x' = v at h
  cases h with
  | tup _ us hl hh =>
    have hlt : i < us.size := by have := (List.getElem?_eq_some_iff.1 hi).1; omega
    refine .of_run (w' := w) (v := us.getD i undef) (by simp [execOp, ho, hv, Instr.extract, hlt]) (.same hd (hh i r hi))
theorem eval_int (hr : RepS I ρ w sl a.tmps) {x : Opd} {x' : Operand} (hx : okOpd x x' = true) {k : IntKind} {n : Int} (ht : ev sl x = .int k n) : a.eval x' = .int k n := by
  have h := okOpd_sound hr hx
  rw [ht] at h
  generalize a.eval x' = v at h; cases h; rfl
theorem eval_bool (hr : RepS I ρ w sl a.tmps) {x : Opd} {x' : Operand} (hx : okOpd x x' = true) {b : Bool} (ht : ev sl x = .bool b) : a.eval x' = .bool b := by
  have h := okOpd_sound hr hx
  rw [ht] at h
  generalize a.eval x' = v at h; cases h; rfl
theorem p_bin_int (hd : ∀ b, I b → b < w.heap.size) (hr : RepS I ρ w sl a.tmps) {op : BinOp} {t u : TypeId} {x y : Opd} {x' y' : Operand} (ho : o.op = .binOp op t x' y' u) (hx : okOpd x x' = true) (hy : okOpd y y' = true)
    {k : IntKind} {m n : Int} {r : AVal} (h1 : ev sl x = .int k m) (h2 : ev sl y = .int k n) (hres : intOp op k m n = some r) : OpGives P o a w (PRes I ρ w r) := by
  have e1 := eval_int hr hx h1
  have e2 := eval_int hr hy h2
  have key : ∀ v, (binOp op t (.int k m) (.int k n)).run P w = .ok v w → RepV I ρ w r v → OpGives P o a w (PRes I ρ w r) := by
    intro v hv hrep
    refine .of_run (w' := w) (v := v) ?_ (.same hd hrep)
    have hg : (eqGuard op t x' y' (.int k m) (.int k n)).run P w = .ok () w := by cases op <;> rfl
    simp [execOp, ho, e1, e2, hg, hv]
  unfold intOp at hres
  split at hres
  all_goals first
    | (split at hres <;> first | (cases hres; done) | (simp only [Option.some.injEq] at hres; subst hres; rename_i hne; refine key _ ?_ (.int _ _); simp [binOp, Op.intDiv, hne]; done))
    | (simp only [Option.some.injEq] at hres; subst hres; refine key _ ?_ (by first | exact .int _ _ | exact .bool _); simp [binOp, Op.intArith, Op.intCmp]; done)
    | cases hres
theorem p_bin_bool (hd : ∀ b, I b → b < w.heap.size) (hr : RepS I ρ w sl a.tmps) {op : BinOp} {ne : Bool} {t u : TypeId} {x y : Opd} {x' y' : Operand} (ho : o.op = .binOp op t x' y' u) (hx : okOpd x x' = true) (hy : okOpd y y' = true)
    (hu : P.underlying t = some .bool) {m n : Bool} (h1 : ev sl x = .bool m) (h2 : ev sl y = .bool n) (hop : (op = .eql ∧ ne = false) ∨ (op = .neq ∧ ne = true)) : OpGives P o a w (PRes I ρ w (.bool (if ne then !(m == n) else m == n))) := by
  have e1 := eval_bool hr hx h1
  have e2 := eval_bool hr hy h2
  refine .of_run (w' := w) (v := .bool (if ne then !(m == n) else m == n)) ?_ (.same hd (.bool _))
  have he : (Op.equal t (.bool m) (.bool n)).run P w = .ok (m == n) w := run_equalIn_bool' w 9999 t m n hu
  rcases hop with ⟨rfl, rfl⟩ | ⟨rfl, rfl⟩
  · have hg : (eqGuard .eql t x' y' (.bool m) (.bool n)).run P w = .ok () w := rfl
    have hb : binOp .eql t (.bool m) (.bool n) = (do pure (.bool (← Op.equal t (.bool m) (.bool n)))) := rfl
    simp [execOp, ho, e1, e2, hg, hb, he]
  · have hg : (eqGuard .neq t x' y' (.bool m) (.bool n)).run P w = .ok () w := rfl
    have hb : binOp .neq t (.bool m) (.bool n) = (do pure (.bool (!(← Op.equal t (.bool m) (.bool n))))) := rfl
    simp [execOp, ho, e1, e2, hg, hb, he]
theorem p_not (hd : ∀ b, I b → b < w.heap.size) (hr : RepS I ρ w sl a.tmps) {t : TypeId} {x : Opd} {x' : Operand} (ho : o.op = .unOp .not t x') (hx : okOpd x x' = true) {b : Bool} (h1 : ev sl x = .bool b) :
    OpGives P o a w (PRes I ρ w (.bool (!b))) := by
  have e1 := eval_bool hr hx h1
  exact .of_run (w' := w) (v := .bool (!b)) (by simp [execOp, ho, e1, Op.unary]) (.same hd (.bool _))
theorem p_neg (hd : ∀ b, I b → b < w.heap.size) (hr : RepS I ρ w sl a.tmps) {t : TypeId} {x : Opd} {x' : Operand} (ho : o.op = .unOp .neg t x') (hx : okOpd x x' = true) {k : IntKind} {n : Int} (h1 : ev sl x = .int k n) :
    OpGives P o a w (PRes I ρ w (.int k (k.wrap (0 - n)))) := by
  have e1 := eval_int hr hx h1
  exact .of_run (w' := w) (v := .int k (k.wrap (0 - n))) (by simp [execOp, ho, e1, Op.unary, Op.intArith]) (.same hd (.int _ _))
theorem p_min (hd : ∀ b, I b → b < w.heap.size) (hr : RepS I ρ w sl a.tmps) {x y : Opd} {x' y' : Operand} {ts : Array TypeId} (ho : o.op = .call { callee := .builtin .min, args := #[x', y'], argTypes := ts }) (hx : okOpd x x' = true) (hy : okOpd y y' = true)
    {k : IntKind} {m n : Int} (h1 : ev sl x = .int k m) (h2 : ev sl y = .int k n) : OpGives P o a w (PRes I ρ w (.int k (if n < m then n else m))) := by
  have e1 := eval_int hr hx h1
  have e2 := eval_int hr hy h2
  exact .of_run (w' := w) (v := .int k (if n < m then n else m)) (by simp [execOp, ho, resolve, invoke, builtin, e1, e2, Builtin.min_, Builtin.min2]) (.same hd (.int _ _))
theorem p_max (hd : ∀ b, I b → b < w.heap.size) (hr : RepS I ρ w sl a.tmps) {x y : Opd} {x' y' : Operand} {ts : Array TypeId} (ho : o.op = .call { callee := .builtin .max, args := #[x', y'], argTypes := ts }) (hx : okOpd x x' = true) (hy : okOpd y y' = true)
    {k : IntKind} {m n : Int} (h1 : ev sl x = .int k m) (h2 : ev sl y = .int k n) : OpGives P o a w (PRes I ρ w (.int k (if n > m then n else m))) := by
  have e1 := eval_int hr hx h1
  have e2 := eval_int hr hy h2
  exact .of_run (w' := w) (v := .int k (if n > m then n else m)) (by simp [execOp, ho, resolve, invoke, builtin, e1, e2, Builtin.max_, Builtin.max2]) (.same hd (.int _ _))
/-- The pointer is not nil. -/
theorem p_nilc (hd : ∀ b, I b → b < w.heap.size) (hr : RepS I ρ w sl a.tmps) {x : Opd} {x' : Operand} (ho : o.op = .nilCheck x') (hx : okOpd x x' = true)
    (h : (∃ b e j, ev sl x = .ptr b e j) ∨ (∃ cs, ev sl x = .fptr cs)) : OpGives P o a w (PRes I ρ w (ev sl x)) := by
  have hh := okOpd_sound hr hx
  have : ∃ ad, a.eval x' = .pointer (some ad) := by
    rcases h with ⟨b, e, j, h⟩ | ⟨cs, h⟩
    · rw [h] at hh; generalize a.eval x' = v at hh; cases hh; exact ⟨_, rfl⟩
    · rw [h] at hh; generalize a.eval x' = v at hh; cases hh; exact ⟨_, rfl⟩
  obtain ⟨ad, e⟩ := this
  exact .of_run (w' := w) (v := a.eval x') (by simp [execOp, ho, e]) (.same hd hh)
theorem p_mkf (hd : ∀ b, I b → b < w.heap.size) (hr : RepS I ρ w sl a.tmps) {f : Nat} {xs : List Opd} {ys : Array Operand} (ho : o.op = .makeFunc (.func f) #[] ys) (hl : ys.size = xs.length)
    (hx : ∀ (j : Nat) x y, xs[j]? = some x → ys[j]? = some y → okOpd x y = true) : OpGives P o a w (PRes I ρ w (.func f (xs.map (ev sl)))) := by
  refine .of_run (w' := w) (v := .func (.func f) #[] (ys.map a.eval)) (by simp [execOp, ho, Instr.makeFunc]) (.same hd (.func f _ _ (by simpa using hl) (fun j x hj => ?_)))
  rw [List.getElem?_map, Option.map_eq_some_iff] at hj
  obtain ⟨y, hy, rfl⟩ := hj
  have hlt : j < ys.size := by have := (List.getElem?_eq_some_iff.1 hy).1; omega
  have := okOpd_sound hr (hx j y ys[j] hy (by simp [hlt]))
  simpa [hlt] using this
end
end Go.Proofs.Ytnomicnfgdjdeaa.Ab
