/- The check that an operation of the interpreter is one of the program, and what it then says. Part of a layer that interprets Go code over values. No condition. -/
import Derived.Test.YtnomicnfgdjdeaaAb8
namespace Go.Proofs.Ytnomicnfgdjdeaa.Ab
open Go.RowKit

def getB (o : Oper) (b : Builtin) : Option (List Operand × List TypeId) :=
  match o.op with
  | .call c => match c.callee with
    | .builtin b' => if b' = b then some (c.args.toList, c.argTypes.toList) else none
    | _ => none
  | _ => none
theorem getB_spec {o : Oper} {b : Builtin} {xs : List Operand} {ts : List TypeId} (h : getB o b = some (xs, ts)) : o.op = .call { callee := .builtin b, args := xs.toArray, argTypes := ts.toArray } := by
  unfold getB at h
  split at h
  · rename_i c hc
    split at h
    · rename_i b' hb
      split at h
      · rename_i e
        simp only [Option.some.injEq, Prod.mk.injEq] at h
        obtain ⟨rfl, rfl⟩ := h
        subst e
        rw [hc]
        cases c
        simp_all
      · cases h
    · cases h
  · cases h
def getF (o : Oper) : Option (Nat × List Operand) :=
  match o.op with
  | .call c => match c.callee with
    | .value (.func f) => some (f, c.args.toList)
    | _ => none
  | _ => none
theorem getF_spec {o : Oper} {f : Nat} {xs : List Operand} (h : getF o = some (f, xs)) : ∃ ys ts, o.op = .call { callee := .value (.func f), args := ys, argTypes := ts } ∧ ys.toList = xs := by
  unfold getF at h
  split at h
  · rename_i c hc
    split at h
    · rename_i f' hb
      simp only [Option.some.injEq, Prod.mk.injEq] at h
      obtain ⟨rfl, rfl⟩ := h
      refine ⟨c.args, c.argTypes, ?_, rfl⟩
      rw [hc, ← hb]
    · cases h
  · cases h
def okOpt : Option Opd → Option Operand → Bool
  | none, none => true
  | some x, some y => okOpd x y
  | _, _ => false
def isBoolT (P : Program) (t : TypeId) : Bool := match P.underlying t with | some .bool => true | _ => false
theorem isBoolT_spec {P : Program} {t : TypeId} (h : isBoolT P t = true) : P.underlying t = some .bool := by
  unfold isBoolT at h
  split at h
  · assumption
  · cases h
def fieldV (P : Program) (s : TypeId) (f off : Nat) (agg : Bool) (n : Nat) : Bool :=
  match P.underlying s with
  | some (.struct fs) => match fs[f]? with
    | some fd => fd.offset == off && (aggB P fd.type == some agg) && szB P fd.type n
    | none => false
  | _ => false
/-- Is this operation of the interpreter the program's? -/
def okOp (P : Program) (o : Oper) : AOp → Bool
  | .mov x => match o.op with | .move y => okOpd x y | .assign y => okOpd x y | _ => false
  | .pick c x y => match o.op with | .pick c' x' y' => okOpd c c' && okOpd x x' && okOpd y y' | _ => false
  | .ext t i => match o.op with | .extract t' j => okOpd t t' && i == j | _ => false
  | .bin op x y => match o.op with | .binOp op' _ x' y' _ => op == op' && okOpd x x' && okOpd y y' | _ => false
  | .eqb ne x y => match o.op with | .binOp op' t x' y' _ => op' == (if ne then .neq else .eql) && okOpd x x' && okOpd y y' && isBoolT P t | _ => false
  | .eqs ne ks x y => match o.op with | .binOp op' t x' y' _ => op' == (if ne then .neq else .eql) && okOpd x x' && okOpd y y' && flatK P 20 t == some ks && aggB P t == some true && !P.eqGuardType P.depth t | _ => false
  | .notb x => match o.op with | .unOp .not _ x' => okOpd x x' | _ => false
  | .neg x => match o.op with | .unOp .neg _ x' => okOpd x x' | _ => false
  | .build zero ps => match o.op with | .build t qs => zeroB P t zero && buildB P t && okParts (placesB P t) ps qs.toList | _ => false
  | .bsl sz zero len ps => match o.op with
    | .buildSlice t len' qs => len == len' && sliceB P t (P.elem t) && szB P (P.elem t) sz && zeroB P (P.elem t) zero && zero.length == sz && okParts (fun i => some (i * sz, sz)) (ps.map fun p => (p.1 * sz, sz, p.2)) qs.toList && decide (len * sz ≤ 2 ^ 24) && decide (len * sz ≠ 0)
    | _ => false
  | .mkl bytes zero n => match o.op with
    | .makeSlice t l c => okOpd n l && okOpd n c && sliceB P t (P.elem t) && bytesB P (P.elem t) bytes && zeroB P (P.elem t) zero && szB P (P.elem t) zero.length && decide (0 < bytes) && zero.all AVal.noRef
    | _ => false
  | .len x => match getB o .len with | some ([x'], [t]) => okOpd x x' && sliceB P t (P.elem t) | _ => false
  | .min2 x y => match getB o .min with | some ([x', y'], _) => okOpd x x' && okOpd y y' | _ => false
  | .max2 x y => match getB o .max with | some ([x', y'], _) => okOpd x x' && okOpd y y' | _ => false
  | .slf sz x lo hi => match o.op with | .slice t x' lo' hi' none => okOpd x x' && okOpt lo lo' && okOpt hi hi' && sliceB P t (P.elem t) && szB P (P.elem t) sz | _ => false
  | .ixf sz x i => match o.op with | .indexAddr t x' i' => okOpd x x' && okOpd i i' && sliceB P t (P.elem t) && szB P (P.elem t) sz | _ => false
  | .fad x off => match o.op with | .fieldAddr s x' f => okOpd x x' && fieldB P s f off | _ => false
  | .aix x i n sz => match o.op with | .indexAddr t x' i' => okOpd x x' && okOpd i i' && arrayB P t n sz | _ => false
  | .ldf x agg n => match o.op with | .load t x' => okOpd x x' && aggB P t == some agg && szB P t n | _ => false
  | .fld x off agg n => match o.op with | .field t x' f => okOpd x x' && fieldV P t f off agg n | _ => false
  | .nilc x => match o.op with | .nilCheck x' => okOpd x x' | _ => false
  | .apf sz bytes zero y => match getB o .append with | some ([.const (.slice none 0 0), y'], [t, t']) => t == t' && okOpd y y' && okApp P t (P.elem t) sz bytes zero | _ => false
  | .calp f xs => match getF o with | some (g, ys) => f == g && callB P f && okOpds xs ys | _ => false
  | .mkf f caps => match o.op with | .makeFunc (.func g) first ys => f == g && first.size == 0 && okOpds caps ys.toList | _ => false
  | .boxf _ x => match o.op with | .box _ x' => okOpd x x' | _ => false
  | .lenv x => match getB o .len with | some ([x'], [t]) => okOpd x x' && sliceB P t (P.elem t) | _ => false
  | .ixv sz x i => match o.op with | .indexAddr t x' i' => okOpd x x' && okOpd i i' && sliceB P t (P.elem t) && szB P (P.elem t) sz | _ => false
  | .ldv x agg n => match o.op with | .load t x' => okOpd x x' && aggB P t == some agg && szB P t n | _ => false
  | .st x y n => match o.op with | .store t x' y' => okOpd x x' && okOpd y y' && szB P t n | _ => false
  | .new ty zero => match o.op with | .alloc t => t == ty && zeroB P ty zero && decide (0 < zero.length) | _ => false
  | .nv _ sz => match o.op with | .move (.const (.slice none 0 0)) => decide (0 < sz) | .assign (.const (.slice none 0 0)) => decide (0 < sz) | _ => false
  | .box ty sz x => match o.op with | .box t x' => t == ty && okOpd x x' && decide (0 < sz) | _ => false
  | .app ty sz bytes zero x y => match getB o .append with | some ([x', y'], [t, t']) => t == t' && okOpd x x' && okOpd y y' && okApp P t ty sz bytes zero | _ => false
  | .appz ty sz bytes zero x y => match getB o .append with | some ([x', y'], [t, t']) => t == t' && okOpd x x' && okOpd y y' && okApp P t ty sz bytes zero | _ => false
  | .apn ty sz bytes zero y => match getB o .append with | some ([.const (.slice none 0 0), y'], [t, t']) => t == t' && okOpd y y' && okApp P t ty sz bytes zero | _ => false
  | .mkv ty bytes zero n => match o.op with
    | .makeSlice t l c => okOpd n l && okOpd n c && sliceB P t ty && bytesB P ty bytes && zeroB P ty zero && szB P ty zero.length && decide (0 < bytes) && decide (0 < zero.length)
    | _ => false
  | .bsv ty sz zero len ps => match o.op with
    | .buildSlice t len' qs => len == len' && sliceB P t ty && szB P ty sz && zeroB P ty zero && zero.length == sz && okParts (fun i => some (i * sz, sz)) (ps.map fun p => (p.1 * sz, sz, p.2)) qs.toList && decide (len * sz ≤ 2 ^ 24) && decide (0 < sz)
    | _ => false
  | .calf f xs => match getF o with | some (g, ys) => f == g && callB P f && okOpds xs ys | _ => false
  | .calr f xs => match getF o with | some (g, ys) => f == g && callB P f && okOpds xs ys | _ => false
  | .calq f xs => match getF o with | some (g, ys) => f == g && callB P f && okOpds xs ys | _ => false
  | .apz ty sz bytes zero x n => match getB o .append with | some ([x', n'], [t, tn]) => okOpd x x' && okOpd n n' && okApz P t tn ty sz bytes zero | _ => false

section
variable {P : Program} {I : Nat → Prop} {ρ : Nat → Option ORep} {m : List (Nat × Blk)} {nx : Nat} {w : World} {sl : List (Nat × AVal)} {a : Act} {o : Oper}
  {call : Nat → List AVal → Option AVal} {callr : Nat → List AVal → List (Nat × Blk) → Nat → Option (AVal × List (Nat × Blk) × Nat)}
theorem okOpds_get {xs : List Opd} {ys : List Operand} (h : okOpds xs ys = true) : ys.length = xs.length ∧ ∀ (j : Nat) x y, xs[j]? = some x → ys[j]? = some y → okOpd x y = true := by
  induction xs generalizing ys with
  | nil => cases ys with | nil => exact ⟨rfl, by simp⟩ | cons => simp [okOpds] at h
  | cons x xs ih =>
    cases ys with
    | nil => simp [okOpds] at h
    | cons y ys =>
      simp only [okOpds, Bool.and_eq_true] at h
      obtain ⟨h1, h2⟩ := ih h.2
      refine ⟨by simp [h1], fun j p q hp hq => ?_⟩
      cases j with
      | zero => simp at hp hq; subst hp hq; exact h.1
      | succ j => simp at hp hq; exact h2 j p q hp hq
theorem okOpt_bound (hr : RepS I ρ w sl a.tmps) {x : Option Opd} {x' : Option Operand} (h : okOpt x x' = true) {n : Nat} (hn : ∃ k, x = some k ∧ ∃ kd, ev sl k = .int kd (n : Int)) : ∃ y k, x' = some y ∧ a.eval y = .int k (n : Int) := by
  obtain ⟨k, rfl, kd, hk⟩ := hn
  cases x' with
  | none => simp [okOpt] at h
  | some y => exact ⟨y, kd, rfl, eval_int hr h hk⟩

/-- The pure ones. -/
theorem semP_sound (hd : ∀ b, I b → b < w.heap.size) (hr : RepS I ρ w sl a.tmps) (hcall : ∀ f args r, call f args = some r → PureSpec P f args r) (x : AOp) (hok : okOp P o x = true) {r : AVal} (h : semP call (ev sl) x = some r) :
    OpGives P o a w (PRes I ρ w r) := by
  cases x with
  | mov x =>
    simp only [semP, Option.some.injEq] at h; subst h
    simp only [okOp] at hok
    split at hok
    · rename_i y hy; exact p_mov hd hr (.inl hy) hok
    · rename_i y hy; exact p_mov hd hr (.inr hy) hok
    · cases hok
  | pick c x y =>
    simp only [okOp] at hok
    split at hok
    · rename_i c' x' y' ho
      simp only [Bool.and_eq_true] at hok
      simp only [semP] at h
      split at h
      · rename_i t ht; simp only [Option.some.injEq] at h; subst h; exact p_pick hd hr ho hok.1.1 hok.1.2 hok.2 ht
      · cases h
    · cases hok
  | ext t i =>
    simp only [okOp] at hok
    split at hok
    · rename_i t' j ho
      simp only [Bool.and_eq_true, beq_iff_eq] at hok
      obtain ⟨h1, rfl⟩ := hok
      simp only [semP] at h
      split at h
      · rename_i vs hv; exact p_ext hd hr ho h1 hv h
      · cases h
    · cases hok
  | bin op x y =>
    simp only [okOp] at hok
    split at hok
    · rename_i op' t x' y' u ho
      simp only [Bool.and_eq_true, beq_iff_eq] at hok
      obtain ⟨⟨rfl, h1⟩, h2⟩ := hok
      simp only [semP, binS] at h
      split at h
      · rename_i k p l q hx hy
        split at h
        · rename_i e; subst e; exact p_bin_int hd hr ho h1 h2 hx hy h
        · cases h
      · cases h
    · cases hok
  | eqb ne x y =>
    simp only [okOp] at hok
    split at hok
    · rename_i op' t x' y' u ho
      simp only [Bool.and_eq_true, beq_iff_eq] at hok
      obtain ⟨⟨⟨h0, h1⟩, h2⟩, h3⟩ := hok
      simp only [semP, eqbS] at h
      split at h
      · rename_i p q hx hy
        simp only [Option.some.injEq] at h; subst h
        exact p_bin_bool hd hr ho h1 h2 (isBoolT_spec h3) hx hy (by cases ne <;> simp_all)
      · cases h
    · cases hok
  | eqs ne ks x y =>
    simp only [okOp] at hok
    split at hok
    · rename_i op' t x' y' u ho
      simp only [Bool.and_eq_true, beq_iff_eq, Bool.not_eq_true'] at hok
      obtain ⟨⟨⟨⟨⟨h0, h1⟩, h2⟩, h3⟩, h4⟩, h5⟩ := hok
      simp only [semP, eqsS] at h
      split at h
      · rename_i p q hx hy
        split at h
        · rename_i b hb
          simp only [Option.some.injEq] at h; subst h
          exact p_eqs hd hr ho h1 h2 h3 h4 h5 (by cases ne <;> simp_all) hx hy hb
        · cases h
      · cases h
    · cases hok
  | notb x =>
    simp only [okOp] at hok
    split at hok
    · rename_i t x' ho
      simp only [semP] at h
      split at h
      · rename_i b hb; simp only [Option.some.injEq] at h; subst h; exact p_not hd hr ho hok hb
      · cases h
    · cases hok
  | neg x =>
    simp only [okOp] at hok
    split at hok
    · rename_i t x' ho
      simp only [semP] at h
      split at h
      · rename_i k n hb; simp only [Option.some.injEq] at h; subst h; exact p_neg hd hr ho hok hb
      · cases h
    · cases hok
  | build zero ps =>
    simp only [okOp] at hok
    split at hok
    · rename_i t qs ho
      simp only [Bool.and_eq_true] at hok
      simp only [semP, Option.map_eq_some_iff] at h
      obtain ⟨cs, h1, rfl⟩ := h
      exact p_build hd hr ho hok.1.1 hok.1.2 hok.2 h1
    · cases hok
  | bsl sz zero len ps =>
    simp only [okOp] at hok
    split at hok
    · rename_i t len' qs ho
      simp only [Bool.and_eq_true, beq_iff_eq, decide_eq_true_eq] at hok
      obtain ⟨⟨⟨⟨⟨⟨⟨rfl, k1⟩, k2⟩, k3⟩, k4⟩, k5⟩, k6⟩, _⟩ := hok
      simp only [semP] at h
      split at h
      · rename_i es he
        split at h
        · rename_i hn; simp only [Option.some.injEq] at h; subst h; exact p_bsl hd hr ho k2 k3 k4 k5 k1 (by omega) he hn
        · cases h
      · cases h
    · cases hok
  | mkl bytes zero n =>
    simp only [okOp] at hok
    split at hok
    · rename_i t l c ho
      simp only [Bool.and_eq_true, decide_eq_true_eq] at hok
      obtain ⟨⟨⟨⟨⟨⟨⟨k1, k2⟩, k3⟩, k4⟩, k5⟩, k6⟩, k7⟩, k8⟩ := hok
      simp only [semP] at h
      split at h
      · rename_i q hq
        split at h
        · rename_i hb; simp only [Option.some.injEq] at h; subst h; exact p_mkl hd hr ho k1 k2 k4 k5 k6 k3 k7 k8 hq hb.1 hb.2
        · cases h
      · cases h
    · cases hok
  | len x =>
    simp only [okOp] at hok
    split at hok
    · rename_i x' t ho
      simp only [Bool.and_eq_true] at hok
      simp only [semP] at h
      split at h
      · rename_i es hes; simp only [Option.some.injEq] at h; subst h; exact p_len hd hr (getB_spec ho) hok.1 hok.2 hes
      · cases h
    · cases hok
  | min2 x y =>
    simp only [okOp] at hok
    split at hok
    · rename_i x' y' t ho
      simp only [Bool.and_eq_true] at hok
      simp only [semP] at h
      split at h
      · rename_i k p l q hx hy
        split at h
        · rename_i e; subst e; simp only [Option.some.injEq] at h; subst h; exact p_min hd hr (getB_spec ho) hok.1 hok.2 hx hy
        · cases h
      · cases h
    · cases hok
  | max2 x y =>
    simp only [okOp] at hok
    split at hok
    · rename_i x' y' t ho
      simp only [Bool.and_eq_true] at hok
      simp only [semP] at h
      split at h
      · rename_i k p l q hx hy
        split at h
        · rename_i e; subst e; simp only [Option.some.injEq] at h; subst h; exact p_max hd hr (getB_spec ho) hok.1 hok.2 hx hy
        · cases h
      · cases h
    · cases hok
  | slf sz x lo hi =>
    simp only [okOp] at hok
    split at hok
    · rename_i t x' lo' hi' ho
      simp only [Bool.and_eq_true] at hok
      obtain ⟨⟨⟨⟨k1, k2⟩, k3⟩, k4⟩, k5⟩ := hok
      simp only [semP] at h
      split at h
      · rename_i sz' es hes
        split at h
        · rename_i e
          subst e
          split at h
          · rename_i hh hhi
            split at h
            · rename_i ll hlo
              simp only [Option.some.injEq] at h; subst h
              have H : (hi' = none ∧ hh = es.length ∨ ∃ y k, hi' = some y ∧ a.eval y = .int k (hh : Int)) ∧ hh ≤ es.length := by
                cases hi with
                | none => simp at hhi; subst hhi; cases hi' with | none => exact ⟨.inl ⟨rfl, rfl⟩, Nat.le_refl _⟩ | some => simp [okOpt] at k3
                | some z =>
                  simp only at hhi
                  split at hhi
                  · rename_i kd n hz
                    split at hhi
                    · rename_i hb
                      simp at hhi; subst hhi
                      exact ⟨.inr (okOpt_bound hr k3 ⟨z, rfl, kd, by rw [hz, Int.toNat_of_nonneg hb.1]⟩), by omega⟩
                    · cases hhi
                  · cases hhi
              have L : (lo' = none ∧ ll = 0 ∨ ∃ y k, lo' = some y ∧ a.eval y = .int k (ll : Int)) ∧ ll ≤ hh := by
                cases lo with
                | none => simp at hlo; subst hlo; cases lo' with | none => exact ⟨.inl ⟨rfl, rfl⟩, Nat.zero_le _⟩ | some => simp [okOpt] at k2
                | some z =>
                  simp only at hlo
                  split at hlo
                  · rename_i kd n hz
                    split at hlo
                    · rename_i hb
                      simp at hlo; subst hlo
                      exact ⟨.inr (okOpt_bound hr k2 ⟨z, rfl, kd, by rw [hz, Int.toNat_of_nonneg hb.1]⟩), by omega⟩
                    · cases hlo
                  · cases hlo
              exact p_slf hd hr ho k1 k4 k5 L.1 H.1 L.2 H.2 hes
            · cases h
          · cases h
        · cases h
      · cases h
    · cases hok
  | ixf sz x i =>
    simp only [okOp] at hok
    split at hok
    · rename_i t x' i' ho
      simp only [Bool.and_eq_true] at hok
      simp only [semP] at h
      split at h
      · rename_i sz' es kd n hx hi
        split at h
        · rename_i hb
          obtain ⟨rfl, hb⟩ := hb
          split at h
          · rename_i e he; simp only [Option.some.injEq] at h; subst h; exact p_ixf hd hr ho hok.1.1.1 hok.1.1.2 hok.1.2 hok.2 hx hi hb he
          · cases h
        · cases h
      · cases h
    · cases hok
  | fad x off =>
    simp only [okOp] at hok
    split at hok
    · rename_i s x' f ho
      simp only [Bool.and_eq_true] at hok
      simp only [semP] at h
      split at h
      · rename_i cs hc; simp only [Option.some.injEq] at h; subst h; exact p_fad_f hd hr ho hok.1 hok.2 hc
      · rename_i b e j hc; simp only [Option.some.injEq] at h; subst h; exact p_fad_p hd hr ho hok.1 hok.2 hc
      · cases h
    · cases hok
  | aix x i n sz =>
    simp only [okOp] at hok
    split at hok
    · rename_i t x' i' ho
      simp only [Bool.and_eq_true] at hok
      simp only [semP] at h
      split at h
      · rename_i cs kd q hc hi
        split at h
        · rename_i hb; simp only [Option.some.injEq] at h; subst h; exact p_aix_f hd hr ho hok.1.1 hok.1.2 hok.2 hc hi hb.1 hb.2
        · cases h
      · rename_i b e j kd q hc hi
        split at h
        · rename_i hb; simp only [Option.some.injEq] at h; subst h; exact p_aix_p hd hr ho hok.1.1 hok.1.2 hok.2 hc hi hb.1 hb.2
        · cases h
      · cases h
    · cases hok
  | ldf x agg n =>
    simp only [okOp] at hok
    split at hok
    · rename_i t x' ho
      simp only [Bool.and_eq_true, beq_iff_eq] at hok
      simp only [semP] at h
      split at h
      · rename_i cs hc; exact p_ldf hd hr ho hok.1.1 hok.1.2 hok.2 hc h
      · cases h
    · cases hok
  | fld x off agg n =>
    simp only [okOp] at hok
    split at hok
    · rename_i t x' f ho
      simp only [Bool.and_eq_true] at hok
      obtain ⟨h1, h2⟩ := hok
      unfold fieldV at h2
      split at h2
      · rename_i fs hu
        split at h2
        · rename_i fd hf
          simp only [Bool.and_eq_true, beq_iff_eq] at h2
          simp only [semP] at h
          split at h
          · rename_i cs hc; exact p_fld hd hr ho h1 hu hf h2.1.1 h2.1.2 h2.2 hc h
          · cases h
        · cases h2
      · cases h2
    · cases hok
  | nilc x =>
    simp only [okOp] at hok
    split at hok
    · rename_i x' ho
      simp only [semP] at h
      split at h
      · rename_i b e j hc; simp only [Option.some.injEq] at h; subst h; have := p_nilc (P := P) hd hr ho hok (.inl ⟨b, e, j, hc⟩); rwa [hc] at this
      · rename_i cs hc; simp only [Option.some.injEq] at h; subst h; have := p_nilc (P := P) hd hr ho hok (.inr ⟨cs, hc⟩); rwa [hc] at this
      · cases h
    · cases hok
  | apf sz bytes zero y =>
    simp only [okOp] at hok
    split at hok
    · rename_i y' t t' ho
      simp only [Bool.and_eq_true, beq_iff_eq] at hok
      obtain ⟨⟨rfl, h1⟩, h2⟩ := hok
      simp only [semP] at h
      split at h
      · rename_i sz' es hes
        split at h
        · rename_i hb
          obtain ⟨rfl, hb⟩ := hb
          simp only [Option.some.injEq] at h; subst h
          exact p_apf hd hr (getB_spec ho) h1 h2 hes hb
        · cases h
      · cases h
    · cases hok
  | calp f xs =>
    simp only [okOp] at hok
    split at hok
    · rename_i g ys hg
      simp only [Bool.and_eq_true, beq_iff_eq] at hok
      obtain ⟨⟨rfl, h1⟩, h2⟩ := hok
      obtain ⟨zs, ts, ho, rfl⟩ := getF_spec hg
      simp only [semP] at h
      split at h
      · rename_i harg
        simp only [Option.map_eq_some_iff] at h
        obtain ⟨r', hr', rfl⟩ := h
        exact p_calp hd hr ho h1 h2 harg (hcall _ _ _ hr')
      · cases h
    · cases hok
  | mkf f caps =>
    simp only [okOp] at hok
    split at hok
    · rename_i g first ys ho
      simp only [Bool.and_eq_true, beq_iff_eq] at hok
      obtain ⟨⟨rfl, h1⟩, h2⟩ := hok
      have : first = #[] := Array.eq_empty_of_size_eq_zero h1
      subst this
      simp only [semP, Option.some.injEq] at h; subst h
      obtain ⟨l1, l2⟩ := okOpds_get h2
      exact p_mkf hd hr ho (by simpa using l1) (fun j x y hx hy => l2 j x y hx (by simpa using hy))
    · cases hok
  | boxf sz x =>
    simp only [okOp] at hok
    split at hok
    · rename_i t x' ho
      simp only [semP] at h
      split at h
      · rename_i cs hc
        split at h
        · rename_i hb; simp only [Option.some.injEq] at h; subst h; exact p_boxf hd hr ho hok hc hb.1 hb.2
        · cases h
      · cases h
    · cases hok
  | _ => simp [semP] at h

theorem sem_sound (hi : Inv I ρ m nx w) (hr : RepS I ρ w sl a.tmps) (hcall : ∀ f args r, call f args = some r → PureSpec P f args r)
    (hcallr : ∀ f args m nx r m' nx', callr f args m nx = some (r, m', nx') → RefSpec P f args m nx r m' nx') (x : AOp) (hok : okOp P o x = true) {r : AVal} {m' : List (Nat × Blk)} {nx' : Nat}
    (h : sem call callr (ev sl) m nx x = some (r, m', nx')) : OpGives P o a w (SRes I ρ m w r m' nx') := by
  have pure : ∀ (x : AOp), okOp P o x = true → ((semP call (ev sl) x).map fun v => (v, m, nx)) = some (r, m', nx') → OpGives P o a w (SRes I ρ m w r m' nx') := by
    intro x hok h
    simp only [Option.map_eq_some_iff, Prod.mk.injEq] at h
    obtain ⟨v, h1, rfl, rfl, rfl⟩ := h
    exact (semP_sound hi.dom hr hcall x hok h1).mono (fun v w' hp => hp.sres hi)
  cases x with
  | lenv x =>
    simp only [okOp] at hok
    split at hok
    · rename_i x' t ho
      simp only [Bool.and_eq_true] at hok
      simp only [sem] at h
      split at h
      · rename_i b hb
        simp only [Option.map_eq_some_iff, Prod.mk.injEq] at h
        obtain ⟨B, hB, rfl, rfl, rfl⟩ := h
        exact s_lenv hi hr (getB_spec ho) hok.1 hok.2 hb hB
      · cases h
    · cases hok
  | ixv sz x i =>
    simp only [okOp] at hok
    split at hok
    · rename_i t x' i' ho
      simp only [Bool.and_eq_true] at hok
      simp only [sem] at h
      split at h
      · rename_i b kd n hb hn
        split at h
        · rename_i B hB
          split at h
          · rename_i hc
            simp only [Option.some.injEq, Prod.mk.injEq] at h
            obtain ⟨rfl, rfl, rfl⟩ := h
            exact s_ixv hi hr ho hok.1.1.1 hok.1.1.2 hok.1.2 hok.2 hb hB hn hc.1 hc.2.1 hc.2.2
          · cases h
        · cases h
      · cases h
    · cases hok
  | ldv x agg n =>
    simp only [okOp] at hok
    split at hok
    · rename_i t x' ho
      simp only [Bool.and_eq_true, beq_iff_eq] at hok
      simp only [sem] at h
      split at h
      · rename_i b e j hb
        split at h
        · rename_i B hB
          split at h
          · rename_i cs hcs
            simp only [Option.map_eq_some_iff, Prod.mk.injEq] at h
            obtain ⟨v, hv, rfl, rfl, rfl⟩ := h
            exact s_ldv hi hr ho hok.1.1 hok.1.2 hok.2 hb hB hcs hv
          · cases h
        · cases h
      · cases h
    · cases hok
  | st x y n =>
    simp only [okOp] at hok
    split at hok
    · rename_i t x' y' ho
      simp only [Bool.and_eq_true] at hok
      simp only [sem] at h
      split at h
      · rename_i b e j cs hb hcs
        split at h
        · rename_i B hB
          split at h
          · rename_i old hold
            split at h
            · rename_i hc
              simp only [Option.some.injEq, Prod.mk.injEq] at h
              obtain ⟨rfl, rfl, rfl⟩ := h
              exact s_st hi hr ho hok.1.1 hok.1.2 hok.2 hb hcs hB hold hc.1 hc.2
            · cases h
          · cases h
        · cases h
      · cases h
    · cases hok
  | new ty zero =>
    simp only [okOp] at hok
    split at hok
    · rename_i t ho
      simp only [Bool.and_eq_true, beq_iff_eq, decide_eq_true_eq] at hok
      obtain ⟨⟨rfl, h1⟩, h2⟩ := hok
      simp only [sem, Option.some.injEq, Prod.mk.injEq] at h
      obtain ⟨rfl, rfl, rfl⟩ := h
      exact s_new hi ho h1 h2
    · cases hok
  | nv ty sz =>
    simp only [okOp] at hok
    simp only [sem, Option.some.injEq, Prod.mk.injEq] at h
    obtain ⟨rfl, rfl, rfl⟩ := h
    split at hok
    · rename_i ho; exact s_nv hi (.inl ho) (by simpa using hok)
    · rename_i ho; exact s_nv hi (.inr ho) (by simpa using hok)
    · cases hok
  | box ty sz x =>
    simp only [okOp] at hok
    split at hok
    · rename_i t x' ho
      simp only [Bool.and_eq_true, beq_iff_eq, decide_eq_true_eq] at hok
      obtain ⟨⟨rfl, h1⟩, h2⟩ := hok
      simp only [sem] at h
      split at h
      · rename_i cs hcs
        split at h
        · rename_i hl
          simp only [Option.some.injEq, Prod.mk.injEq] at h
          obtain ⟨rfl, rfl, rfl⟩ := h
          exact s_box hi hr ho h1 h2 hcs hl
        · cases h
      · cases h
    · cases hok
  | app ty sz bytes zero x y =>
    simp only [okOp] at hok
    split at hok
    · rename_i x' y' t t' ho
      simp only [Bool.and_eq_true, beq_iff_eq] at hok
      obtain ⟨⟨⟨rfl, h1⟩, h2⟩, h3⟩ := hok
      simp only [sem] at h
      split at h
      · rename_i b sz' es hb hes
        split at h
        · rename_i B hB
          split at h
          · rename_i hc
            obtain ⟨c1, c2, rfl, c4⟩ := hc
            simp only [Option.some.injEq, Prod.mk.injEq] at h
            obtain ⟨rfl, rfl, rfl⟩ := h
            exact s_app hi hr (getB_spec ho) h1 h2 h3 hb hes hB c1 c2 c4
          · cases h
        · cases h
      · cases h
    · cases hok
  | appz ty sz bytes zero x y =>
    simp only [okOp] at hok
    split at hok
    · rename_i x' y' t t' ho
      simp only [Bool.and_eq_true, beq_iff_eq] at hok
      obtain ⟨⟨⟨rfl, h1⟩, h2⟩, h3⟩ := hok
      simp only [sem] at h
      split at h
      · rename_i b sz' es hb hes
        split at h
        · rename_i B hB
          split at h
          · rename_i hc
            obtain ⟨c1, c2, rfl, c4, c5⟩ := hc
            simp only [Option.some.injEq, Prod.mk.injEq] at h
            obtain ⟨rfl, rfl, rfl⟩ := h
            exact s_appz hi hr (getB_spec ho) h1 h2 h3 hb hes hB c1 c2 c4 c5
          · cases h
        · cases h
      · cases h
    · cases hok
  | apn ty sz bytes zero y =>
    simp only [okOp] at hok
    split at hok
    · rename_i y' t t' ho
      simp only [Bool.and_eq_true, beq_iff_eq] at hok
      obtain ⟨⟨rfl, h1⟩, h2⟩ := hok
      simp only [sem] at h
      split at h
      · rename_i sz' es hes
        split at h
        · rename_i hc
          obtain ⟨rfl, hc⟩ := hc
          simp only [Option.some.injEq, Prod.mk.injEq] at h
          obtain ⟨rfl, rfl, rfl⟩ := h
          exact s_apn hi hr (getB_spec ho) h1 h2 hes hc
        · cases h
      · cases h
    · cases hok
  | mkv ty bytes zero n =>
    simp only [okOp] at hok
    split at hok
    · rename_i t l c ho
      simp only [Bool.and_eq_true, decide_eq_true_eq] at hok
      obtain ⟨⟨⟨⟨⟨⟨⟨k1, k2⟩, k3⟩, k4⟩, k5⟩, k6⟩, k7⟩, k8⟩ := hok
      simp only [sem] at h
      split at h
      · rename_i q hq
        split at h
        · rename_i hb
          simp only [Option.some.injEq, Prod.mk.injEq] at h
          obtain ⟨rfl, rfl, rfl⟩ := h
          exact s_mkv hi hr ho k1 k2 k4 k5 k6 k3 k7 k8 hq hb.1 hb.2
        · cases h
      · cases h
    · cases hok
  | bsv ty sz zero len ps =>
    simp only [okOp] at hok
    split at hok
    · rename_i t len' qs ho
      simp only [Bool.and_eq_true, beq_iff_eq, decide_eq_true_eq] at hok
      obtain ⟨⟨⟨⟨⟨⟨⟨rfl, k1⟩, k2⟩, k3⟩, k4⟩, k5⟩, k6⟩, k7⟩ := hok
      simp only [sem] at h
      split at h
      · rename_i es he
        simp only [Option.some.injEq, Prod.mk.injEq] at h
        obtain ⟨rfl, rfl, rfl⟩ := h
        exact s_bsv hi hr ho k2 k3 k4 k5 k1 (by omega) k7 he
      · cases h
    · cases hok
  | calf f xs =>
    simp only [okOp] at hok
    split at hok
    · rename_i g ys hg
      simp only [Bool.and_eq_true, beq_iff_eq] at hok
      obtain ⟨⟨rfl, h1⟩, h2⟩ := hok
      obtain ⟨zs, ts, ho, rfl⟩ := getF_spec hg
      simp only [sem] at h
      split at h
      · rename_i harg
        simp only [Option.map_eq_some_iff] at h
        obtain ⟨r', hr', e⟩ := h
        have := s_calf (P := P) hi hr ho h1 h2 harg (hcall _ _ _ hr')
        rw [e] at this
        exact this
      · cases h
    · cases hok
  | calr f xs =>
    simp only [okOp] at hok
    split at hok
    · rename_i g ys hg
      simp only [Bool.and_eq_true, beq_iff_eq] at hok
      obtain ⟨⟨rfl, h1⟩, h2⟩ := hok
      obtain ⟨zs, ts, ho, rfl⟩ := getF_spec hg
      simp only [sem] at h
      exact s_calr hi hr ho h1 h2 (hcallr _ _ _ _ _ _ _ h)
    · cases hok
  | calq f xs =>
    simp only [okOp] at hok
    split at hok
    · rename_i g ys hg
      simp only [Bool.and_eq_true, beq_iff_eq] at hok
      obtain ⟨⟨rfl, h1⟩, h2⟩ := hok
      obtain ⟨zs, ts, ho, rfl⟩ := getF_spec hg
      simp only [sem] at h
      split at h
      · rename_i v m1 n1 hc
        split at h
        · rename_i he
          obtain ⟨e1, e2⟩ := he
          have e3 := eqM_sound e2
          subst e1 e3
          simp only [Option.some.injEq, Prod.mk.injEq] at h
          obtain ⟨rfl, rfl, rfl⟩ := h
          exact s_calr hi hr ho h1 h2 (hcallr _ _ _ _ _ _ _ hc)
        · cases h
      · cases h
    · cases hok
  | apz ty sz bytes zero x n =>
    simp only [okOp] at hok
    split at hok
    · rename_i x' n' t tn ho
      simp only [Bool.and_eq_true] at hok
      obtain ⟨⟨h1, h2⟩, h3⟩ := hok
      simp only [sem] at h
      split at h
      · rename_i b k hb hk
        split at h
        · rename_i B hB
          split at h
          · rename_i hc
            obtain ⟨c1, c2, c3, c4⟩ := hc
            simp only [Option.some.injEq, Prod.mk.injEq] at h
            obtain ⟨rfl, rfl, rfl⟩ := h
            exact s_apz hi hr (getB_spec ho) h1 h2 h3 hb (by rw [hk, Int.toNat_of_nonneg c3]) hB c1 c2 c4
          · cases h
        · cases h
      · cases h
    · cases hok
  | _ => exact pure _ hok h
end
end Go.Proofs.Ytnomicnfgdjdeaa.Ab
