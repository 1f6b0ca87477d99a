/- '==' of structs and arrays of numbers and bools is '==' of their cells. Part of a layer that interprets Go code over values. No condition. -/
import Derived.Test.YtnomicnfgdjdeaaAb7
namespace Go.Proofs.Ytnomicnfgdjdeaa.Ab
open Go.RowKit

/-- Equality of parts, one behind the other. -/
def eqSegs (d : Nat) (xs ys : Array Value) : List (TypeId × Nat) → Sem Bool
  | [] => pure true
  | s :: r => do
    let a ← part s.1 xs s.2
    let b ← part s.1 ys s.2
    let q ← Op.equalIn d s.1 a b
    if (!q) = true then pure false else eqSegs d xs ys r
section
variable {P : Program} {w : World}
theorem eqFields_segs (d : Nat) (xs ys : Array Value) : ∀ (fs : List Field), (fs.all fun f => f.name != "_") = true → Op.eqFields d xs ys fs = eqSegs d xs ys (fs.map fun f => (f.type, f.offset))
  | [], _ => rfl
  | f :: fs, h => by
    simp only [List.all_cons, Bool.and_eq_true, bne_iff_ne] at h
    simp only [Op.eqFields, List.map_cons, eqSegs]
    rw [if_pos h.1, eqFields_segs d xs ys fs h.2]
theorem run_equalIn_array (d : Nat) (t e : TypeId) (n len : Nat) (xs ys : Array Value) (ht : P.underlying t = some (.array len e)) (hs : szB P e n = true) :
    (Op.equalIn (d + 1) t (.agg xs) (.agg ys)).run P w = (eqSegs d xs ys ((List.range len).map fun i => (e, i * n))).run P w := by
  simp only [Op.equalIn, Sem.run_bind, run_underlying ht, Result.andThen_ok, szB_run hs]
  rw [Std.Legacy.Range.forIn_eq_forIn_range']
  have hr : List.range' (Std.Legacy.Range.start [0:len]) (Std.Legacy.Range.size [0:len]) (Std.Legacy.Range.step [0:len]) = List.range len := by
    simp [Std.Legacy.Range.size, List.range_eq_range']
  rw [hr]
  generalize List.range len = l
  induction l generalizing w with
  | nil => simp [eqSegs]
  | cons i l ih =>
    simp only [List.forIn_cons, List.map_cons, eqSegs, Sem.run_bind]
    generalize (part e xs (i * n)).run P w = r1
    cases r1 with
    | ok a w1 =>
      simp only [Result.andThen_ok]
      generalize (part e ys (i * n)).run P w1 = r2
      cases r2 with
      | ok b w2 =>
        simp only [Result.andThen_ok]
        generalize (Op.equalIn d e a b).run P w2 = r3
        cases r3 with
        | ok r w3 =>
          cases r
          · simp only [Result.andThen_ok, Bool.not_false, if_true, Sem.run_pure]
          · simp only [Result.andThen_ok, Bool.not_true, Bool.false_eq_true, if_false, Sem.run_pure]
            exact ih
        | halt x w3 => simp [Result.andThen]
      | halt x w2 => simp [Result.andThen]
    | halt x w1 => simp [Result.andThen]

/-- The parts of a struct or an array, if it is of numbers and bools. -/
def segsB (P : Program) (t : TypeId) : Option (List (TypeId × Nat)) :=
  match P.underlying t with
  | some (.struct fs) => if (fs.toList.all fun f => f.name != "_") && !P.stoodInHeld t then some (fs.toList.map fun f => (f.type, f.offset)) else none
  | some (.array len e) => match P.info? e with | some i => some ((List.range len).map fun k => (e, k * i.size)) | none => none
  | _ => none
/-- The kinds of a type's cells (true: a bool, false: a number), if it is of numbers and bools. -/
def segK (P : Program) (f : TypeId → Option (List Bool)) : Nat → List (TypeId × Nat) → Option (List Bool)
  | _, [] => some []
  | off, s :: r => match f s.1 with
    | some ks => if s.2 = off ∧ szB P s.1 ks.length = true then (segK P f (off + ks.length) r).map (ks ++ ·) else none
    | none => none
def flatK (P : Program) : Nat → TypeId → Option (List Bool)
  | 0, _ => none
  | d + 1, t => match P.underlying t with
    | some .bool => some [true]
    | some (.int _) => some [false]
    | _ => match segsB P t with
      | some segs => segK P (flatK P d) 0 segs
      | none => none
def aggOf (P : Program) (t : TypeId) (cs : List Value) : Value := match aggB P t with | some true => .agg cs.toArray | _ => cs.headD undef
/-- Cells read as numbers and bools. -/
def Reads (as : List AVal) (vs : List Value) : Prop := vs.length = as.length ∧ ∀ (j : Nat) x, as[j]? = some x → (∀ k n, x = .int k n → vs.getD j undef = .int k n) ∧ (∀ b, x = .bool b → vs.getD j undef = .bool b)
theorem Reads.drop {as : List AVal} {vs : List Value} (h : Reads as vs) (n : Nat) : Reads (as.drop n) (vs.drop n) :=
  ⟨by simp [h.1], fun j x hx => by have := h.2 (n + j) x (by simpa using hx); simpa [List.getD, List.getElem?_drop] using this⟩
theorem Reads.take {as : List AVal} {vs : List Value} (h : Reads as vs) (n : Nat) : Reads (as.take n) (vs.take n) :=
  ⟨by simp [h.1], fun j x hx => by
    rw [List.getElem?_take] at hx
    split at hx
    · rename_i hj
      have := h.2 j x hx
      simpa [List.getD, List.getElem?_take, hj] using this
    · cases hx⟩
theorem Reads.of_rep {I : Nat → Prop} {ρ : Nat → Option ORep} {w : World} {as : List AVal} {vs : List Value} (hl : vs.length = as.length) (h : ∀ (j : Nat) x, as[j]? = some x → RepV I ρ w x (vs.getD j undef)) : Reads as vs :=
  ⟨hl, fun j x hx => by
    have hh := h j x hx
    constructor
    · intro k n e; subst e; generalize vs.getD j undef = v at hh; cases hh; rfl
    · intro b e; subst e; generalize vs.getD j undef = v at hh; cases hh; rfl⟩
theorem eqK_split : ∀ (k1 k2 : List Bool) (as bs : List AVal) (r : Bool), eqK (k1 ++ k2) as bs = some r → ∃ p q, eqK k1 (as.take k1.length) (bs.take k1.length) = some p ∧ eqK k2 (as.drop k1.length) (bs.drop k1.length) = some q ∧ r = (p && q)
  | [], k2, as, bs, r, h => ⟨true, r, by simp [eqK], by simpa using h, rfl⟩
  | b :: k1, k2, [], bs, r, h => by cases b <;> simp [eqK] at h
  | b :: k1, k2, x :: as, [], r, h => by cases b <;> cases x <;> simp [eqK] at h
  | b :: k1, k2, x :: as, y :: bs, r, h => by
    simp only [List.cons_append, eqK] at h
    cases hxy : eqC1 b x y with
    | none => simp [hxy] at h
    | some p0 =>
      cases hr : eqK (k1 ++ k2) as bs with
      | none => simp [hxy, hr] at h
      | some q0 =>
        simp only [hxy, hr, Option.some.injEq] at h
        obtain ⟨p, q, h1, h2, h3⟩ := eqK_split k1 k2 as bs q0 hr
        exact ⟨p0 && p, q, by simp [eqK, hxy, h1], by simpa using h2, by rw [← h, h3, Bool.and_assoc]⟩
theorem eqK_len : ∀ (ks : List Bool) (as bs : List AVal) (r : Bool), eqK ks as bs = some r → as.length = ks.length ∧ bs.length = ks.length
  | [], [], [], _, _ => ⟨rfl, rfl⟩
  | [], _ :: _, _, _, h => by simp [eqK] at h
  | [], [], _ :: _, _, h => by simp [eqK] at h
  | _ :: _, [], _, _, h => by simp [eqK] at h
  | _ :: _, _ :: _, [], _, h => by simp [eqK] at h
  | b :: ks, x :: as, y :: bs, r, h => by
    simp only [eqK] at h
    cases hxy : eqC1 b x y with
    | none => simp [hxy] at h
    | some p0 =>
      cases hr : eqK ks as bs with
      | none => simp [hxy, hr] at h
      | some q0 =>
        obtain ⟨h1, h2⟩ := eqK_len ks as bs q0 hr
        exact ⟨by simp [h1], by simp [h2]⟩
theorem part_run {t : TypeId} {n : Nat} {us : List Value} {off : Nat} (ha : aggB P t = some true ∨ aggB P t = some false ∧ n = 1) (hs : szB P t n = true) (hl : off + n ≤ us.length) : (part t us.toArray off).run P w = .ok (aggOf P t ((us.drop off).take n)) w := by
  rcases ha with ha | ⟨ha, rfl⟩
  · have : (us.toArray.extract off (off + n)) = ((us.drop off).take n).toArray := by
      simp [List.take_drop]
    simp [part, aggB_run ha, szB_run hs, aggOf, ha, List.take_drop]
  · have h1 : off < us.length := by omega
    simp [part, aggB_run ha, aggOf, ha, h1, List.headD]
    cases hd : us.drop off with
    | nil => simp at hd; omega
    | cons x l =>
      have : us[off]? = some x := by rw [← List.head?_drop, hd]; rfl
      rw [List.getElem?_eq_getElem h1] at this
      simp at this
      simp [this]
theorem eqSegs_flat (f : TypeId → Option (List Bool)) (D : Nat)
    (hf : ∀ t ks, f t = some ks → (aggB P t = some true ∨ aggB P t = some false ∧ ks.length = 1) ∧ ∀ (as bs : List AVal) (us vs : List Value) (r : Bool) (w : World), Reads as us → Reads bs vs → eqK ks as bs = some r → (Op.equalIn D t (aggOf P t us) (aggOf P t vs)).run P w = .ok r w)
    (as bs : List AVal) (us vs : List Value) (hu : Reads as us) (hv : Reads bs vs) : ∀ (segs : List (TypeId × Nat)) (off : Nat) (ks : List Bool) (r : Bool) (w : World), off ≤ as.length → off ≤ bs.length → segK P f off segs = some ks → eqK ks (as.drop off) (bs.drop off) = some r →
    (eqSegs D us.toArray vs.toArray segs).run P w = .ok r w
  | [], off, ks, r, w, _, _, h, he => by
    simp only [segK, Option.some.injEq] at h
    subst h
    cases ha : as.drop off <;> cases hb : bs.drop off <;> simp [ha, hb, eqK] at he
    subst he
    simp [eqSegs]
  | s :: segs, off, ks, r, w, q1, q2, h, he => by
    simp only [segK] at h
    cases hk : f s.1 with
    | none => simp [hk] at h
    | some k1 =>
      simp only [hk] at h
      split at h
      · rename_i hc
        obtain ⟨h1, h2⟩ := hc
        rw [Option.map_eq_some_iff] at h
        obtain ⟨k2, h3, rfl⟩ := h
        obtain ⟨p, q, e1, e2, e3⟩ := eqK_split k1 k2 _ _ r he
        obtain ⟨l1, l2⟩ := eqK_len _ _ _ _ he
        obtain ⟨g1, g2⟩ := hf s.1 k1 hk
        simp only [List.length_drop, List.length_append] at l1 l2
        subst h1
        have p1 := part_run (P := P) (w := w) (us := us) (off := s.2) (n := k1.length) g1 h2 (by rw [hu.1]; omega)
        have p2 := part_run (P := P) (w := w) (us := vs) (off := s.2) (n := k1.length) g1 h2 (by rw [hv.1]; omega)
        have p3 := g2 _ _ _ _ p w ((hu.drop s.2).take k1.length) ((hv.drop s.2).take k1.length) e1
        simp only [eqSegs, Sem.run_bind, p1, p2, p3, Result.andThen_ok, Sem.run_ite]
        cases p with
        | false => simp at e3; simp [e3]
        | true =>
          simp only [Bool.not_true, Bool.false_eq_true, if_false]
          rw [List.drop_drop, List.drop_drop] at e2
          have := eqSegs_flat f D hf as bs us vs hu hv segs (s.2 + k1.length) k2 q w (by omega) (by omega) h3 e2
          rw [this, e3]; rfl
      · cases h
theorem flatK_agg : ∀ (d : Nat) (t : TypeId) (ks : List Bool), flatK P d t = some ks → aggB P t = some true ∨ aggB P t = some false ∧ ks.length = 1
  | 0, t, ks, h => by simp [flatK] at h
  | d + 1, t, ks, h => by
    unfold flatK at h
    split at h
    · rename_i hu; simp at h; subst h; exact .inr ⟨by simp [aggB, hu], rfl⟩
    · rename_i k hu; simp at h; subst h; exact .inr ⟨by simp [aggB, hu], rfl⟩
    · split at h
      · rename_i segs hs
        refine .inl ?_
        unfold segsB at hs
        split at hs
        · rename_i fs hu; simp [aggB, hu]
        · rename_i len e hu; simp [aggB, hu]
        · cases hs
      · cases h
theorem eq_flat (P : Program) : ∀ (d k : Nat) (t : TypeId) (ks : List Bool), flatK P d t = some ks → ∀ (as bs : List AVal) (us vs : List Value) (r : Bool) (w : World), Reads as us → Reads bs vs → eqK ks as bs = some r →
    (Op.equalIn (d + k) t (aggOf P t us) (aggOf P t vs)).run P w = .ok r w
  | 0, k, t, ks, h => by simp [flatK] at h
  | d + 1, k, t, ks, hf => by
    intro as bs us vs r w hu hv he
    have hag := flatK_agg _ _ _ hf
    have e1 : d + 1 + k = (d + k) + 1 := by omega
    rw [e1]
    unfold flatK at hf
    have scalar : ∀ b, ks = [b] → aggB P t = some false → (∃ x y u v, as = [x] ∧ bs = [y] ∧ us = [u] ∧ vs = [v] ∧ eqC1 b x y = some r ∧ aggOf P t us = u ∧ aggOf P t vs = v ∧ (∀ k n, x = .int k n → u = .int k n) ∧ (∀ q, x = .bool q → u = .bool q) ∧ (∀ k n, y = .int k n → v = .int k n) ∧ (∀ q, y = .bool q → v = .bool q)) := by
      intro b hb hq
      subst hb
      obtain ⟨l1, l2⟩ := eqK_len _ _ _ _ he
      match as, bs, l1, l2 with
      | [x], [y], _, _ =>
        have lu := hu.1
        have lv := hv.1
        match us, vs, lu, lv with
        | [u], [v], _, _ =>
          have c1 := hu.2 0 x rfl
          have c2 := hv.2 0 y rfl
          simp only [List.getD_cons_zero] at c1 c2
          refine ⟨x, y, u, v, rfl, rfl, rfl, rfl, ?_, by simp [aggOf, hq], by simp [aggOf, hq], c1.1, c1.2, c2.1, c2.2⟩
          simp only [eqK] at he
          cases hx : eqC1 b x y with
          | none => simp [hx] at he
          | some p => simp [hx] at he; rw [he]
    split at hf
    · rename_i hu'
      simp at hf
      obtain ⟨x, y, u, v, _, _, _, _, h1, h2, h3, _, h5, _, h7⟩ := scalar true hf.symm (by simp [aggB, hu'])
      rw [h2, h3]
      cases x <;> cases y <;> simp [eqC1] at h1
      subst h1
      rw [h5 _ rfl, h7 _ rfl]
      exact run_equalIn_bool' w (d + k) t _ _ hu'
    · rename_i kk hu'
      simp at hf
      obtain ⟨x, y, u, v, _, _, _, _, h1, h2, h3, h4, _, h6, _⟩ := scalar false hf.symm (by simp [aggB, hu'])
      rw [h2, h3]
      cases x <;> cases y <;> simp [eqC1] at h1
      obtain ⟨hk, h1⟩ := h1
      subst h1
      rw [h4 _ _ rfl, h6 _ _ rfl, hk]
      exact run_equalIn_int w (d + k) t _ kk _ _ hu'
    · split at hf
      · rename_i segs hs
        have hag' : aggB P t = some true := by
          unfold segsB at hs
          split at hs
          · rename_i fs hu; simp [aggB, hu]
          · rename_i len e hu; simp [aggB, hu]
          · cases hs
        have key := eqSegs_flat (P := P) (flatK P d) (d + k) (fun t ks h => ⟨flatK_agg d t ks h, fun as bs us vs r w h1 h2 h3 => eq_flat P d k t ks h as bs us vs r w h1 h2 h3⟩) as bs us vs hu hv segs 0 ks r w (Nat.zero_le _) (Nat.zero_le _) hf (by simpa using he)
        simp only [aggOf, hag']
        unfold segsB at hs
        split at hs
        · rename_i fs hu'
          split at hs
          · rename_i hc
            simp only [Bool.and_eq_true, Bool.not_eq_true'] at hc
            simp only [Option.some.injEq] at hs
            subst hs
            have hfo : P.fieldsOf t = fs := by simp [Program.fieldsOf, hu']
            rw [run_equalIn_struct w (d + k) t _ _ (by rw [hfo]; exact hu') hc.2, hfo, eqFields_segs _ _ _ _ hc.1]
            exact key
          · cases hs
        · rename_i len e hu'
          cases hi : P.info? e with
          | none => simp [hi] at hs
          | some i =>
            simp only [hi, Option.some.injEq] at hs
            subst hs
            rw [run_equalIn_array (d + k) t e i.size len _ _ hu' (by simp [szB, hi])]
            exact key
        · cases hs
      · cases hf
variable {I : Nat → Prop} {ρ : Nat → Option ORep} {sl : List (Nat × AVal)} {a : Act} {o : Oper}
theorem p_eqs (hd : ∀ b, I b → b < w.heap.size) (hr : RepS I ρ w sl a.tmps) {op : BinOp} {ne : Bool} {t u : TypeId} {x y : Opd} {x' y' : Operand} (ho : o.op = .binOp op t x' y' u) (hx : okOpd x x' = true) (hy : okOpd y y' = true)
    {ks : List Bool} (hf : flatK P 20 t = some ks) (ha : aggB P t = some true) (hg : P.eqGuardType P.depth t = false) (hop : (op = .eql ∧ ne = false) ∨ (op = .neq ∧ ne = true)) {as bs : List AVal} {r : Bool} (h1 : ev sl x = .agg as) (h2 : ev sl y = .agg bs) (he : eqK ks as bs = some r) :
    OpGives P o a w (PRes I ρ w (.bool (if ne then !r else r))) := by
  have g1 := okOpd_sound hr hx
  have g2 := okOpd_sound hr hy
  rw [h1] at g1
  rw [h2] at g2
  generalize hv1 : a.eval x' = v1 at g1
  generalize hv2 : a.eval y' = v2 at g2
  cases g1 with
  | agg _ us l1 c1 r1 =>
    cases g2 with
    | agg _ vs l2 c2 r2 =>
      have key := eq_flat P 20 9980 t ks hf as bs us.toList vs.toList r w (Reads.of_rep (by simpa using l1) (fun j x hx => by simpa using r1 j x hx)) (Reads.of_rep (by simpa using l2) (fun j x hx => by simpa using r2 j x hx)) he
      simp only [aggOf, ha, Array.toArray_toList] at key
      have he' : (Op.equal t (.agg us) (.agg vs)).run P w = .ok r w := key
      have hgg := fun op => run_eqGuard_agg (P := P) w op t x' y' us vs hg
      refine .of_run (w' := w) (v := .bool (if ne then !r else r)) ?_ (.same hd (.bool _))
      rcases hop with ⟨rfl, rfl⟩ | ⟨rfl, rfl⟩
      · have hb : binOp .eql t (.agg us) (.agg vs) = (do pure (.bool (← Op.equal t (.agg us) (.agg vs)))) := rfl
        simp [execOp, ho, hv1, hv2, hgg, hb, he']
      · have hb : binOp .neq t (.agg us) (.agg vs) = (do pure (.bool (!(← Op.equal t (.agg us) (.agg vs))))) := rfl
        simp [execOp, ho, hv1, hv2, hgg, hb, he']
end
end Go.Proofs.Ytnomicnfgdjdeaa.Ab
