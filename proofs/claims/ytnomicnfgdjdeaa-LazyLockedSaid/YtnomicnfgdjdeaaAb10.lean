/- One statement's operations, in the text's order and in whatever order the machine draws. Part of a layer that interprets Go code over values. No condition. -/
import Derived.Test.YtnomicnfgdjdeaaAb9
namespace Go.Proofs.Ytnomicnfgdjdeaa.Ab
open Go.RowKit

abbrev CallT := Nat → List AVal → Option AVal
abbrev CallrT := Nat → List AVal → List (Nat × Blk) → Nat → Option (AVal × List (Nat × Blk) × Nat)
/-- What the interpreter's calls must be. -/
structure CallsOk (P : Program) (call : CallT) (callr : CallrT) : Prop where
  p : ∀ f args r, call f args = some r → PureSpec P f args r
  r : ∀ f args m nx r m' nx', callr f args m nx = some (r, m', nx') → RefSpec P f args m nx r m' nx'

/-- Where the run began. -/
structure Org where
  I : Nat → Prop
  ρ : Nat → Option ORep
  m : List (Nat × Blk)
  w : World
def Rel (g : Org) (nt : Nat) (df : List Deferred) (s : St) (a : Act) (w : World) : Prop :=
  ∃ I ρ, Inv I ρ s.mem s.nx w ∧ RepS I ρ w s.sl a.tmps ∧ a.tmps.size = nt ∧ a.defers = df ∧ Evol g.I g.ρ g.m g.w I ρ s.mem w ∧ (s.pr = true → g.ρ = fun _ => none)

def okGuard (ops : Array Oper) : Option (Nat × Bool) → Option (Nat × Bool) → Bool
  | none, none => true
  | some (j, b), some (t, c) => b == c && (ops[j]?).bind (·.dst) == some t
  | _, _ => false
def okAO (P : Program) (nt : Nat) (ops : Array Oper) (o : Oper) (x : AO) : Bool :=
  okOp P o x.op && o.dst == x.d && (match x.d with | some d => decide (d < nt) | none => true) && okGuard ops o.guard x.g

section
variable {P : Program} {g : Org} {nt : Nat} {df : List Deferred} {ops : Array Oper} {call : CallT} {callr : CallrT}
theorem want_ok {I : Nat → Prop} {ρ : Nat → Option ORep} {w : World} {sl : List (Nat × AVal)} {a : Act} (hr : RepS I ρ w sl a.tmps) {o : Oper} {x : AO} (hg : okGuard ops o.guard x.g = true) {b : Bool} (h : wantS x.g sl = some b) : Region.wanted o (yielded ops a.tmps) = b := by
  unfold okGuard at hg
  unfold Region.wanted
  split at hg
  · rename_i h1 h2
    rw [h1]
    rw [h2] at h
    simpa [wantS] using h
  · rename_i j c t d h1 h2
    rw [h1]
    rw [h2] at h
    simp only [Bool.and_eq_true, beq_iff_eq] at hg
    obtain ⟨rfl, hj⟩ := hg
    simp only [wantS] at h
    split at h
    · rename_i q hq
      simp only [Option.some.injEq] at h
      have hh := hr t
      rw [hq] at hh
      generalize hv : a.tmps.getD t undef = v at hh
      cases hh
      have hlt : a.tmps[t]? = some (.bool q) := by
        rcases Nat.lt_or_ge t a.tmps.size with hl | hl
        · simp [hl] at hv; simp [hl, hv]
        · simp [hl, undef] at hv
      simp only [yielded, hj, Option.bind_some, hlt]
      rw [← h]
      cases q <;> cases c <;> rfl
    · rename_i hq
      simp only [Option.some.injEq] at h
      have hh := hr t
      rw [hq] at hh
      generalize hv : a.tmps.getD t undef = v at hh
      cases hh with
      | tup _ vs hl _ =>
        have hlt : yielded ops a.tmps j = none := by
          simp only [yielded, hj, Option.bind_some]
          cases hx : a.tmps[t]? with
          | none => rfl
          | some u =>
            have : u = .tuple vs := by rw [← hv]; simp [hx]
            subst this; rfl
        simp only [hlt]
        rw [← h]
        rfl
    · cases h
  · cases hg
theorem step_wp (hc : CallsOk P call callr) {s s' : St} {a : Act} {w : World} (hrel : Rel g nt df s a w) {i : Nat} {o : Oper} (hi : ops[i]? = some o) {x : AO} (hok : okAO P nt ops o x = true) (h : step call callr x s = some s')
    {K : Act → World → Prop} {Q : Exit → Act → World → Prop} (hK : ∀ a' w', Rel g nt df s' a' w' → K a' w') : wpOp P ops Q i K a w := by
  simp only [okAO, Bool.and_eq_true, beq_iff_eq] at hok
  obtain ⟨⟨⟨h1, h2⟩, h3⟩, h4⟩ := hok
  obtain ⟨I, ρ, r1, r2, r3, r4, r5, r6⟩ := hrel
  have hdst : ∀ t, x.d = some t → t < a.tmps.size := by
    intro t ht
    rw [ht] at h3
    simp at h3
    omega
  unfold step at h
  unfold wpOp
  simp only [hi]
  split at h
  · rename_i hw
    rw [want_ok r2 h4 hw]
    simp only [if_true]
    rw [Option.map_eq_some_iff] at h
    obtain ⟨⟨r, m', nx'⟩, hs, rfl⟩ := h
    refine .inl ((sem_sound r1 r2 hc.p hc.r x.op h1 hs).wp (fun v w' hres => hK _ _ ?_))
    obtain ⟨I', ρ', q1, q2, q3⟩ := hres
    refine ⟨I', ρ', q1, ?_, by rw [put_size]; exact r3, by rw [put_defers]; exact r4, r5.trans q2, r6⟩
    rw [h2]
    exact (r2.mono q2.sub q2.ext (q2.frozen r1)).put x.d hdst q3
  · rename_i hw
    rw [want_ok r2 h4 hw]
    simp only [Option.some.injEq] at h
    subst h
    simp only [Bool.false_eq_true, if_false]
    refine hK _ _ ⟨I, ρ, r1, ?_, by rw [put_size]; exact r3, by rw [put_defers]; exact r4, r5, r6⟩
    rw [h2]
    exact r2.put x.d hdst (.tup [] #[] rfl (by simp))
  · cases h

/-! ### In the text's order -/
def okSeq (P : Program) (nt : Nat) (ops : Array Oper) : List Oper → List AO → Bool
  | [], [] => true
  | o :: os, x :: xs => okAO P nt ops o x && okSeq P nt ops os xs
  | _, _ => false
theorem seq_wp (hc : CallsOk P call callr) {Q : Exit → Act → World → Prop} : ∀ (os : List Oper) (xs : List AO) (k : Nat) (s s' : St) (a : Act) (w : World), (∀ j o, os[j]? = some o → ops[k + j]? = some o) → okSeq P nt ops os xs = true → steps call callr xs s = some s' → Rel g nt df s a w →
    (∀ a' w', Rel g nt df s' a' w' → Q .normal a' w') → wpOps P ops Q (List.range' k os.length) a w
  | [], [], k, s, s', a, w, _, _, hs, hrel, hQ => by
    simp only [steps, Option.some.injEq] at hs
    subst hs
    exact hQ a w hrel
  | [], _ :: _, _, _, _, _, _, _, h, _, _, _ => by simp [okSeq] at h
  | _ :: _, [], _, _, _, _, _, _, h, _, _, _ => by simp [okSeq] at h
  | o :: os, x :: xs, k, s, s', a, w, hops, hok, hs, hrel, hQ => by
    simp only [okSeq, Bool.and_eq_true] at hok
    simp only [steps] at hs
    split at hs
    · rename_i s1 h1
      rw [List.length_cons, List.range'_succ, wpOps_cons]
      exact step_wp hc hrel (by simpa using hops 0 o rfl) hok.1 h1 (fun a' w' hr => seq_wp hc os xs (k + 1) s1 s' a' w' (fun j q hq => by have := hops (j + 1) q (by simpa using hq); rwa [show k + 1 + j = k + (j + 1) by omega]) hok.2 hs hr hQ)
    · cases hs

/-! ### In whatever order -/
def AOp.rds : AOp → List Opd
  | .mov x | .ext x _ | .notb x | .neg x | .mkl _ _ x | .len x | .fad x _ | .ldf x _ _ | .fld x _ _ _ | .nilc x | .apf _ _ _ x | .boxf _ x | .lenv x | .ldv x _ _ | .box _ _ x | .apn _ _ _ _ x | .mkv _ _ _ x => [x]
  | .pick a b c => [a, b, c]
  | .bin _ x y | .eqb _ x y | .eqs _ _ x y | .min2 x y | .max2 x y | .ixf _ x y | .aix x y _ _ | .ixv _ x y | .st x y _ | .app _ _ _ _ x y | .appz _ _ _ _ x y | .apz _ _ _ _ x y => [x, y]
  | .build _ ps => ps.map (·.2.2)
  | .bsl _ _ _ ps | .bsv _ _ _ _ ps => ps.map (·.2)
  | .slf _ x lo hi => x :: (lo.toList ++ hi.toList)
  | .calp _ xs | .mkf _ xs | .calf _ xs | .calr _ xs | .calq _ xs => xs
  | .new .. | .nv .. => []
theorem sem_congr (x : AOp) {rd rd' : Opd → AVal} (h : ∀ y ∈ x.rds, rd y = rd' y) (m : List (Nat × Blk)) (nx : Nat) : sem call callr rd m nx x = sem call callr rd' m nx x := by
  have hm : ∀ (xs : List Opd), (∀ y ∈ xs, rd y = rd' y) → xs.map rd = xs.map rd' := fun xs hx => List.map_congr_left hx
  cases x <;> simp only [AOp.rds, List.mem_cons, or_false, forall_eq_or_imp, forall_eq, List.not_mem_nil, false_imp_iff, implies_true, List.mem_append, Option.mem_toList] at h
  case build zero ps =>
    have : (ps.map fun p => (p.1, p.2.1, rd p.2.2)) = (ps.map fun p => (p.1, p.2.1, rd' p.2.2)) := List.map_congr_left (fun p hp => by rw [h _ (List.mem_map_of_mem hp)])
    simp only [sem, semP, this]
  case bsl sz zero len ps =>
    have : (ps.map fun p => (p.1, rd p.2)) = (ps.map fun p => (p.1, rd' p.2)) := List.map_congr_left (fun p hp => by rw [h _ (List.mem_map_of_mem hp)])
    simp only [sem, semP, this]
  case bsv ty sz zero len ps =>
    have : (ps.map fun p => (p.1, rd p.2)) = (ps.map fun p => (p.1, rd' p.2)) := List.map_congr_left (fun p hp => by rw [h _ (List.mem_map_of_mem hp)])
    simp only [sem, this]
  case slf sz x lo hi =>
    have h1 : (match hi with | none => some 0 | some z => some 0) = some 0 := by cases hi <;> rfl
    cases lo with
    | none =>
      cases hi with
      | none => simp only [sem, semP, h.1]
      | some z => have := h.2 z (.inr rfl); simp only [sem, semP, h.1, this]
    | some y =>
      have hy := h.2 y (.inl rfl)
      cases hi with
      | none => simp only [sem, semP, h.1, hy]
      | some z => have := h.2 z (.inr rfl); simp only [sem, semP, h.1, hy, this]
  case calp f xs => simp only [sem, semP, hm xs h]
  case mkf f xs => simp only [sem, semP, hm xs h]
  case calf f xs => simp only [sem, hm xs h]
  case calr f xs => simp only [sem, hm xs h]
  case calq f xs => simp only [sem, hm xs h]
  case new ty zero => rfl
  case nv ty sz => rfl
  all_goals first | (simp only [sem, semP, h]; done) | (obtain ⟨h1, h2, h3⟩ := h; simp only [sem, semP, h1, h2, h3]; done) | (obtain ⟨h1, h2⟩ := h; simp only [sem, semP, h1, h2]; done)

/-- States that hold the same. -/
def Sim (s t : St) : Prop := (∀ i, lk s.sl i = lk t.sl i) ∧ s.mem = t.mem ∧ s.nx = t.nx ∧ s.pr = t.pr
theorem Sim.refl (s : St) : Sim s s := ⟨fun _ => rfl, rfl, rfl, rfl⟩
theorem Sim.trans {s t u : St} (h : Sim s t) (k : Sim t u) : Sim s u := ⟨fun i => (h.1 i).trans (k.1 i), h.2.1.trans k.2.1, h.2.2.1.trans k.2.2.1, h.2.2.2.trans k.2.2.2⟩
theorem Sim.symm {s t : St} (h : Sim s t) : Sim t s := ⟨fun i => (h.1 i).symm, h.2.1.symm, h.2.2.1.symm, h.2.2.2.symm⟩
theorem Sim.ev {s t : St} (h : Sim s t) (x : Opd) : ev s.sl x = ev t.sl x := by cases x <;> simp only [Ab.ev]; exact h.1 _
theorem Sim.rel {s t : St} (h : Sim s t) {a : Act} {w : World} (hr : Rel g nt df s a w) : Rel g nt df t a w := by
  obtain ⟨I, ρ, r1, r2, r3, r4, r5, r6⟩ := hr
  obtain ⟨h1, h2, h3, h4⟩ := h
  exact ⟨I, ρ, by rw [← h2, ← h3]; exact r1, fun i => by rw [← h1]; exact r2 i, r3, r4, by rw [← h2]; exact r5, by rw [← h4]; exact r6⟩
theorem lk_put (d : Option Nat) (v : AVal) (sl : List (Nat × AVal)) (i : Nat) : lk (putS d v sl) i = if d = some i then v else lk sl i := by
  cases d with
  | none => simp [putS]
  | some d => simp [putS, lk]
theorem wantS_congr {gd : Option (Nat × Bool)} {sl sl' : List (Nat × AVal)} (h : ∀ t b, gd = some (t, b) → lk sl t = lk sl' t) : wantS gd sl = wantS gd sl' := by
  cases gd with
  | none => rfl
  | some p => obtain ⟨t, b⟩ := p; simp only [wantS, h t b rfl]
theorem step_sim {x : AO} {s t s' : St} (hs : Sim s t) (h : step call callr x s = some s') : ∃ t', step call callr x t = some t' ∧ Sim s' t' := by
  unfold step at h ⊢
  rw [wantS_congr (sl' := t.sl) (fun i b _ => hs.1 i)] at h
  have hsem : sem call callr (ev s.sl) s.mem s.nx x.op = sem call callr (ev t.sl) t.mem t.nx x.op := by rw [sem_congr x.op (fun y _ => hs.ev y), hs.2.1, hs.2.2.1]
  split at h
  · rename_i hw
    rw [hsem, Option.map_eq_some_iff] at h
    obtain ⟨r, hr, rfl⟩ := h
    exact ⟨⟨putS x.d r.1 t.sl, r.2.1, r.2.2, t.pr⟩, by rw [hr]; rfl, fun i => by simp only [lk_put]; rw [hs.1 i], rfl, rfl, hs.2.2.2⟩
  · rename_i hw
    simp only [Option.some.injEq] at h
    subst h
    exact ⟨⟨putS x.d (.tup []) t.sl, t.mem, t.nx, t.pr⟩, rfl, fun i => by simp only [lk_put]; rw [hs.1 i], hs.2.1, hs.2.2.1, hs.2.2.2⟩
  · cases h
theorem steps_sim : ∀ (l : List AO) {s t s' : St}, Sim s t → steps call callr l s = some s' → ∃ t', steps call callr l t = some t' ∧ Sim s' t'
  | [], s, t, s', hs, h => by simp only [steps, Option.some.injEq] at h; subst h; exact ⟨t, rfl, hs⟩
  | x :: l, s, t, s', hs, h => by
    simp only [steps] at h ⊢
    split at h
    · rename_i s1 h1
      obtain ⟨t1, e1, e2⟩ := step_sim hs h1
      obtain ⟨t', e3, e4⟩ := steps_sim l e2 h
      exact ⟨t', by simp only [e1]; exact e3, e4⟩
    · cases h

def AOp.isP : AOp → Bool
  | .lenv _ | .ixv .. | .ldv .. | .st .. | .new .. | .nv .. | .box .. | .app .. | .appz .. | .apn .. | .mkv .. | .bsv .. | .calf .. | .calr .. | .calq .. | .apz .. => false
  | _ => true
def AOp.isR : AOp → Bool
  | .lenv _ | .ixv .. | .ldv .. | .calq .. => true
  | _ => false
def slotsOf (xs : List Opd) : List Nat := xs.filterMap fun | .t n => some n | _ => none
def AO.looks (x : AO) : List Nat := (match x.g with | some (t, _) => [t] | none => []) ++ slotsOf x.op.rds
def apartB (p x : AO) : Bool :=
  (match p.d with | some d => !x.looks.contains d && x.d != some d | none => true) && (match x.d with | some d => !p.looks.contains d | none => true)
/-- May x, which stands behind p, come up first? -/
def commB (p x : AO) : Bool := apartB p x && (p.op.isP || x.op.isP || (p.op.isR && x.op.isR))
theorem mem_looks {x : AO} {t : Nat} (h : .t t ∈ x.op.rds) : t ∈ x.looks := by
  unfold AO.looks slotsOf
  exact List.mem_append.2 (.inr (List.mem_filterMap.2 ⟨.t t, h, rfl⟩))
theorem rds_put {x : AO} {d : Option Nat} {v : AVal} {sl : List (Nat × AVal)} (h : ∀ i, d = some i → i ∉ x.looks) : ∀ y ∈ x.op.rds, ev (putS d v sl) y = ev sl y := by
  intro y hy
  cases y with
  | t n =>
    simp only [ev, lk_put]
    rw [if_neg]
    intro e
    exact h n e (mem_looks hy)
  | c => rfl
  | f => rfl
theorem want_put {x : AO} {d : Option Nat} {v : AVal} {sl : List (Nat × AVal)} (h : ∀ i, d = some i → i ∉ x.looks) : wantS x.g (putS d v sl) = wantS x.g sl := by
  refine wantS_congr (fun t b e => ?_)
  rw [lk_put, if_neg]
  intro e'
  exact h t e' (by simp [AO.looks, e])
theorem apart_spec {p x : AO} (h : apartB p x = true) : (∀ i, p.d = some i → i ∉ x.looks) ∧ (∀ i, x.d = some i → i ∉ p.looks) ∧ (∀ i, p.d = some i → x.d ≠ some i) := by
  unfold apartB at h
  simp only [Bool.and_eq_true] at h
  refine ⟨fun i hi => ?_, fun i hi => ?_, fun i hi => ?_⟩
  · have := h.1; rw [hi] at this; simp at this; exact this.1
  · have := h.2; rw [hi] at this; simpa using this
  · have := h.1; rw [hi] at this; simp at this; exact this.2
/-- A step, spelled out: the value, and the store behind it. -/
def val (call : CallT) (callr : CallrT) (x : AO) (sl : List (Nat × AVal)) (m : List (Nat × Blk)) (nx : Nat) : Option (AVal × List (Nat × Blk) × Nat) :=
  match wantS x.g sl with
  | some true => sem call callr (ev sl) m nx x.op
  | some false => some (.tup [], m, nx)
  | none => none
theorem step_val (x : AO) (s : St) : step call callr x s = (val call callr x s.sl s.mem s.nx).map fun r => ⟨putS x.d r.1 s.sl, r.2.1, r.2.2, s.pr⟩ := by
  unfold step val
  cases wantS x.g s.sl with
  | none => rfl
  | some b => cases b <;> rfl
theorem val_put {x : AO} {d : Option Nat} {v : AVal} {sl : List (Nat × AVal)} (h : ∀ i, d = some i → i ∉ x.looks) (m : List (Nat × Blk)) (nx : Nat) : val call callr x (putS d v sl) m nx = val call callr x sl m nx := by
  unfold val
  rw [want_put h, sem_congr x.op (rds_put h)]
theorem val_P {x : AO} (h : x.op.isP = true) (sl : List (Nat × AVal)) : ∃ o : Option AVal, ∀ m nx, val call callr x sl m nx = o.map fun v => (v, m, nx) := by
  unfold val
  split
  · refine ⟨semP call (ev sl) x.op, fun m nx => ?_⟩
    cases hx : x.op <;> first | rfl | (rw [hx] at h; cases h)
  · exact ⟨some (.tup []), fun _ _ => rfl⟩
  · exact ⟨none, fun _ _ => rfl⟩
theorem val_R {x : AO} (h : x.op.isR = true) (sl : List (Nat × AVal)) (m : List (Nat × Blk)) (nx : Nat) {r : AVal × List (Nat × Blk) × Nat} (hv : val call callr x sl m nx = some r) : r.2.1 = m ∧ r.2.2 = nx := by
  unfold val at hv
  split at hv
  · cases hx : x.op <;> rw [hx] at h hv <;> first | cases h | skip
    · simp only [sem] at hv
      split at hv
      · rw [Option.map_eq_some_iff] at hv; obtain ⟨_, _, rfl⟩ := hv; exact ⟨rfl, rfl⟩
      · cases hv
    · simp only [sem] at hv
      split at hv
      · split at hv
        · split at hv
          · simp at hv; subst hv; exact ⟨rfl, rfl⟩
          · cases hv
        · cases hv
      · cases hv
    · simp only [sem] at hv
      split at hv
      · split at hv
        · split at hv
          · rw [Option.map_eq_some_iff] at hv; obtain ⟨_, _, rfl⟩ := hv; exact ⟨rfl, rfl⟩
          · cases hv
        · cases hv
      · cases hv
    · simp only [sem] at hv
      split at hv
      · split at hv
        · simp at hv; subst hv; exact ⟨rfl, rfl⟩
        · cases hv
      · cases hv
  · simp at hv; subst hv; exact ⟨rfl, rfl⟩
  · cases hv
theorem swap_sim {p x : AO} (hc : commB p x = true) {s s1 s2 : St} (h1 : step call callr p s = some s1) (h2 : step call callr x s1 = some s2) : ∃ t1 t2, step call callr x s = some t1 ∧ step call callr p t1 = some t2 ∧ Sim s2 t2 := by
  simp only [commB, Bool.and_eq_true, Bool.or_eq_true] at hc
  obtain ⟨hap, hcl⟩ := hc
  obtain ⟨a1, a2, a3⟩ := apart_spec hap
  rw [step_val, Option.map_eq_some_iff] at h1
  obtain ⟨⟨vp, mp, np⟩, hp, rfl⟩ := h1
  rw [step_val, Option.map_eq_some_iff] at h2
  obtain ⟨⟨vx, mx, nxx⟩, hx, rfl⟩ := h2
  simp only [val_put a1] at hx
  have fin : ∀ mx' nx', val call callr x s.sl s.mem s.nx = some (vx, mx', nx') → val call callr p s.sl mx' nx' = some (vp, mx, nxx) →
      ∃ t1 t2, step call callr x s = some t1 ∧ step call callr p t1 = some t2 ∧ Sim ⟨putS x.d vx (putS p.d vp s.sl), mx, nxx, s.pr⟩ t2 := by
    intro mx' nx' e1 e2
    refine ⟨⟨putS x.d vx s.sl, mx', nx', s.pr⟩, ⟨putS p.d vp (putS x.d vx s.sl), mx, nxx, s.pr⟩, by rw [step_val, e1]; rfl, by rw [step_val]; simp only [val_put a2, e2]; rfl, fun i => ?_, rfl, rfl, rfl⟩
    simp only [lk_put]
    by_cases h1 : x.d = some i
    · by_cases h2 : p.d = some i
      · exact absurd h1 (a3 i h2)
      · simp [h1, h2]
    · simp [h1]
  rcases hcl with (hcl | hcl) | ⟨c1, c2⟩
  · obtain ⟨o, ho⟩ := val_P (call := call) (callr := callr) hcl s.sl
    rw [ho] at hp
    rw [Option.map_eq_some_iff] at hp
    obtain ⟨v, hv, e⟩ := hp
    simp only [Prod.mk.injEq] at e
    obtain ⟨rfl, rfl, rfl⟩ := e
    exact fin mx nxx hx (by rw [ho, hv]; rfl)
  · obtain ⟨o, ho⟩ := val_P (call := call) (callr := callr) hcl s.sl
    rw [ho] at hx
    rw [Option.map_eq_some_iff] at hx
    obtain ⟨v, hv, e⟩ := hx
    simp only [Prod.mk.injEq] at e
    obtain ⟨rfl, rfl, rfl⟩ := e
    exact fin s.mem s.nx (by rw [ho, hv]; rfl) hp
  · have q1 := val_R c1 _ _ _ hp
    simp only at q1
    obtain ⟨rfl, rfl⟩ := q1
    have q2 := val_R c2 _ _ _ hx
    simp only at q2
    obtain ⟨rfl, rfl⟩ := q2
    exact fin s.mem s.nx hx hp
/-! Operations on unlike blocks of the store. -/
def AOp.isNew : AOp → Bool
  | .new .. => true
  | _ => false
def AOp.isSt : AOp → Bool
  | .st .. => true
  | _ => false
/-- The slot that tells which block it touches. -/
def AO.tgt (x : AO) : Option Nat :=
  match x.op with
  | .ldv (.t n) _ _ => some n
  | .st (.t n) _ _ => some n
  | .ixv _ (.t n) _ => some n
  | .lenv (.t n) => some n
  | .new .. => x.d
  | _ => none
def commX (bad : List (Nat × Nat)) (p x : AO) : Bool :=
  apartB p x && p.g.isNone && x.g.isNone && !(p.op.isNew && x.op.isNew) && (match p.tgt, x.tgt with | some a, some b => bad.contains (a, b) | _, _ => false)
def tgtOk (bad : List (Nat × Nat)) : List AO → Bool
  | [] => true
  | p :: l => (match p.tgt with | some a => !(bad.any fun q => q.1 == a || q.2 == a) || ((p.op.isNew || p.d != some a) && l.all fun q => q.d != some a) | none => true) && tgtOk bad l
theorem tgtOk_sub {bad : List (Nat × Nat)} {x : AO} {post : List AO} : ∀ (pre : List AO), tgtOk bad (pre ++ x :: post) = true → tgtOk bad (pre ++ post) = true
  | [], h => by simp only [List.nil_append, tgtOk, Bool.and_eq_true] at h ⊢; exact h.2
  | p :: pre, h => by
    simp only [List.cons_append, tgtOk, Bool.and_eq_true] at h ⊢
    refine ⟨?_, tgtOk_sub pre h.2⟩
    have h1 := h.1
    split at h1
    · rename_i a ha
      simp only [Bool.or_eq_true, Bool.and_eq_true, List.all_append, List.all_cons] at h1 ⊢
      rcases h1 with h1 | ⟨h1, h2, _, h3⟩
      · exact .inl h1
      · exact .inr ⟨h1, h2, h3⟩
    · rfl
theorem tgtOk_mid {bad : List (Nat × Nat)} {x : AO} {post : List AO} : ∀ (pre : List AO), tgtOk bad (pre ++ x :: post) = true → tgtOk bad (x :: post) = true
  | [], h => h
  | p :: pre, h => by
    simp only [List.cons_append, tgtOk, Bool.and_eq_true] at h
    exact tgtOk_mid pre h.2
theorem tgtOk_head {bad : List (Nat × Nat)} {p : AO} {l : List AO} (h : tgtOk bad (p :: l) = true) {a : Nat} (ha : p.tgt = some a) (hb : ∃ q ∈ bad, q.1 = a ∨ q.2 = a) : (p.op.isNew = true ∨ p.d ≠ some a) ∧ ∀ q ∈ l, q.d ≠ some a := by
  simp only [tgtOk, ha, Bool.and_eq_true, Bool.or_eq_true, List.all_eq_true, bne_iff_ne, ne_eq] at h
  rcases h.1 with h1 | h1
  · exfalso
    obtain ⟨q, q1, q2⟩ := hb
    simp only [Bool.not_eq_true', List.any_eq_false] at h1
    have := h1 q q1
    simp only [Bool.or_eq_true, beq_iff_eq] at this
    exact this q2
  · exact h1
theorem apartS_congr {sl sl' : List (Nat × AVal)} (h : ∀ i, lk sl i = lk sl' i) : ∀ {bad : List (Nat × Nat)}, apartS sl bad = apartS sl' bad
  | [] => rfl
  | (a, b) :: bad => by simp only [apartS, h a, h b, apartS_congr h (bad := bad)]
theorem apartS_mem {sl : List (Nat × AVal)} {a b : Nat} : ∀ {bad : List (Nat × Nat)}, apartS sl bad = true → (a, b) ∈ bad → ∃ i j, refOf (lk sl a) = some i ∧ refOf (lk sl b) = some j ∧ i ≠ j
  | (c, d) :: bad, h, hm => by
    simp only [apartS, Bool.and_eq_true] at h
    rcases List.mem_cons.1 hm with e | hm
    · simp only [Prod.mk.injEq] at e
      obtain ⟨rfl, rfl⟩ := e
      have h1 := h.1
      split at h1
      · rename_i i j hi hj
        exact ⟨i, j, hi, hj, by simpa using h1⟩
      · cases h1
    · exact apartS_mem h.2 hm
theorem step_keep {x : AO} {s s' : St} (h : step call callr x s = some s') {a : Nat} (ha : x.d ≠ some a) : lk s'.sl a = lk s.sl a := by
  rw [step_val, Option.map_eq_some_iff] at h
  obtain ⟨r, _, rfl⟩ := h
  simp only [lk_put]
  rw [if_neg ha]
theorem steps_keep : ∀ {l : List AO} {s s' : St}, steps call callr l s = some s' → ∀ {a : Nat}, (∀ q ∈ l, q.d ≠ some a) → lk s'.sl a = lk s.sl a
  | [], s, s', h, a, _ => by simp only [steps, Option.some.injEq] at h; rw [h]
  | x :: l, s, s', h, a, ha => by
    simp only [steps] at h
    split at h
    · rename_i s1 h1
      rw [steps_keep h (fun q hq => ha q (by simp [hq])), step_keep h1 (ha x (by simp))]
    · cases h
theorem mg_ms_ne {i j : Nat} (h : i ≠ j) (B : Blk) : ∀ (m : List (Nat × Blk)), mg (ms m j B) i = mg m i
  | [] => by simp [ms, mg, Ne.symm h]
  | (k, C) :: m => by
    simp only [ms]
    split
    · rename_i e; subst e; simp [mg, Ne.symm h]
    · simp only [mg]; rw [mg_ms_ne h B m]
theorem ms_ms {i j : Nat} (h : i ≠ j) (B C : Blk) : ∀ (m : List (Nat × Blk)), (mg m i).isSome = true → (mg m j).isSome = true → ms (ms m i B) j C = ms (ms m j C) i B
  | [], h1, _ => by simp [mg] at h1
  | (k, D) :: m, h1, h2 => by
    by_cases e1 : k = i
    · subst e1; simp [ms, h]
    · by_cases e2 : k = j
      · subst e2; simp [ms, e1]
      · simp only [mg, if_neg e1, if_neg e2] at h1 h2
        simp only [ms, if_neg e1, if_neg e2]
        rw [ms_ms h B C m h1 h2]
/-- It reads block i alone. -/
def ReadsAt (call : CallT) (callr : CallrT) (rd : Opd → AVal) (x : AOp) (i : Nat) : Prop :=
  ∀ m n v m' n', sem call callr rd m n x = some (v, m', n') → m' = m ∧ n' = n ∧ ∀ m2 n2, mg m2 i = mg m i → sem call callr rd m2 n2 x = some (v, m2, n2)
def WritesAt (call : CallT) (callr : CallrT) (rd : Opd → AVal) (x : AOp) (i : Nat) : Prop :=
  ∀ m n v m' n', sem call callr rd m n x = some (v, m', n') → ∃ C, m' = ms m i C ∧ n' = n ∧ (mg m i).isSome = true ∧ ∀ m2 n2, mg m2 i = mg m i → sem call callr rd m2 n2 x = some (v, ms m2 i C, n2)
theorem reads_at {x : AO} {sl : List (Nat × AVal)} {a i : Nat} (ht : x.tgt = some a) (hn : x.op.isNew = false) (hs : x.op.isSt = false) (hi : refOf (lk sl a) = some i) : ReadsAt call callr (ev sl) x.op i := by
  intro m n v m' n' h
  unfold AO.tgt at ht
  split at ht
  all_goals try simp only [Option.some.injEq, reduceCtorEq] at ht
  case h_1 k ag sz hx =>
    subst ht
    rw [hx] at h ⊢
    simp only [sem, ev] at h ⊢
    split at h
    · rename_i b e j hb
      rw [hb] at hi
      simp only [refOf, Option.some.injEq] at hi
      subst hi
      split at h
      · rename_i C hC
        split at h
        · rename_i cs hcs
          rw [Option.map_eq_some_iff] at h
          obtain ⟨u, h1, h2⟩ := h
          simp only [Prod.mk.injEq] at h2
          obtain ⟨rfl, rfl, rfl⟩ := h2
          refine ⟨rfl, rfl, fun m2 n2 e => ?_⟩
          simp only [e, hC, hcs, h1, Option.map_some]
        · cases h
      · cases h
    · cases h
  case h_2 k y sz hx => rw [hx] at hs; cases hs
  case h_3 sz k ix hx =>
    subst ht
    rw [hx] at h ⊢
    simp only [sem, ev] at h ⊢
    split at h
    · rename_i b kd q hb hq
      rw [hb] at hi
      simp only [refOf, Option.some.injEq] at hi
      subst hi
      split at h
      · rename_i C hC
        split at h
        · rename_i hc
          simp only [Option.some.injEq, Prod.mk.injEq] at h
          obtain ⟨rfl, rfl, rfl⟩ := h
          refine ⟨rfl, rfl, fun m2 n2 e => ?_⟩
          simp only [e, hC, if_pos hc]
        · cases h
      · cases h
    · cases h
  case h_4 k hx =>
    subst ht
    rw [hx] at h ⊢
    simp only [sem, ev] at h ⊢
    split at h
    · rename_i b hb
      rw [hb] at hi
      simp only [refOf, Option.some.injEq] at hi
      subst hi
      rw [Option.map_eq_some_iff] at h
      obtain ⟨C, hC, h2⟩ := h
      simp only [Prod.mk.injEq] at h2
      obtain ⟨rfl, rfl, rfl⟩ := h2
      refine ⟨rfl, rfl, fun m2 n2 e => ?_⟩
      simp only [e, hC, Option.map_some]
    · cases h
  case h_5 hx => rw [hx] at hn; cases hn
theorem writes_at {x : AO} {sl : List (Nat × AVal)} {a i : Nat} (ht : x.tgt = some a) (hs : x.op.isSt = true) (hi : refOf (lk sl a) = some i) : WritesAt call callr (ev sl) x.op i := by
  intro m n v m' n' h
  cases hx : x.op <;> rw [hx] at hs <;> try (cases hs; done)
  rename_i p y sz
  rw [hx] at h
  simp only [AO.tgt, hx] at ht
  split at ht <;> try (cases ht; done)
  all_goals try (rename_i heq; cases heq)
  simp only [Option.some.injEq] at ht
  subst ht
  simp only [sem, ev] at h ⊢
  split at h
  · rename_i b e j cs hb hc
    rw [hb] at hi
    simp only [refOf, Option.some.injEq] at hi
    subst hi
    split at h
    · rename_i C hC
      split at h
      · rename_i old hold
        split at h
        · rename_i hcond
          simp only [Option.some.injEq, Prod.mk.injEq] at h
          obtain ⟨rfl, rfl, rfl⟩ := h
          refine ⟨_, rfl, rfl, by rw [hC]; rfl, fun m2 n2 e => ?_⟩
          simp only [e, hC, hold, if_pos hcond]
        · cases h
      · cases h
    · cases h
  · cases h
theorem new_at {x : AO} (h : x.op.isNew = true) : ∃ C : Blk, ∀ (rd : Opd → AVal) m n, sem call callr rd m n x.op = some (.ptr n 0 0, (n, C) :: m, n + 1) := by
  cases hx : x.op <;> rw [hx] at h <;> first | (cases h; done) | exact ⟨_, fun _ _ _ => rfl⟩
theorem tgt_looks {x : AO} {a : Nat} (ht : x.tgt = some a) (hn : x.op.isNew = false) : a ∈ x.looks := by
  refine mem_looks ?_
  unfold AO.tgt at ht
  split at ht
  all_goals try simp only [Option.some.injEq, reduceCtorEq] at ht
  all_goals first | (rename_i hx; subst ht; rw [hx]; simp [AOp.rds]; done) | (rename_i hx; rw [hx] at hn; cases hn)
/-- Two operations on unlike blocks. -/
theorem swap_mem {p x : AO} {s s1 s2 : St} (hap : apartB p x = true) (gp : p.g = none) (gx : x.g = none) (hnn : ¬ (p.op.isNew = true ∧ x.op.isNew = true)) {a b i j : Nat} (hp : p.tgt = some a) (hx : x.tgt = some b)
    (hi : refOf (lk s1.sl a) = some i) (hj : refOf (lk s2.sl b) = some j) (hij : i ≠ j) (hpa : p.op.isNew = true ∨ p.d ≠ some a) (hxb : x.op.isNew = true ∨ x.d ≠ some b)
    (h1 : step call callr p s = some s1) (h2 : step call callr x s1 = some s2) : ∃ t1 t2, step call callr x s = some t1 ∧ step call callr p t1 = some t2 ∧ Sim s2 t2 := by
  obtain ⟨a1, a2, a3⟩ := apart_spec hap
  have k1 := h1
  have k2 := h2
  rw [step_val, Option.map_eq_some_iff] at h1
  obtain ⟨⟨vp, mp, np⟩, hvp, rfl⟩ := h1
  rw [step_val, Option.map_eq_some_iff] at h2
  obtain ⟨⟨vx, mx, nxx⟩, hvx, rfl⟩ := h2
  simp only [val_put a1] at hvx
  have fin : ∀ mx' nx', val call callr x s.sl s.mem s.nx = some (vx, mx', nx') → val call callr p s.sl mx' nx' = some (vp, mx, nxx) →
      ∃ t1 t2, step call callr x s = some t1 ∧ step call callr p t1 = some t2 ∧ Sim ⟨putS x.d vx (putS p.d vp s.sl), mx, nxx, s.pr⟩ t2 := by
    intro mx' nx' e1 e2
    refine ⟨⟨putS x.d vx s.sl, mx', nx', s.pr⟩, ⟨putS p.d vp (putS x.d vx s.sl), mx, nxx, s.pr⟩, by rw [step_val, e1]; rfl, by rw [step_val]; simp only [val_put a2, e2]; rfl, fun i => ?_, rfl, rfl, rfl⟩
    simp only [lk_put]
    by_cases h1 : x.d = some i
    · by_cases h2 : p.d = some i
      · exact absurd h1 (a3 i h2)
      · simp [h1, h2]
    · simp [h1]
  have vp' : ∀ m n, val call callr p s.sl m n = sem call callr (ev s.sl) m n p.op := fun m n => by unfold val; rw [gp]; rfl
  have vx' : ∀ m n, val call callr x s.sl m n = sem call callr (ev s.sl) m n x.op := fun m n => by unfold val; rw [gx]; rfl
  rw [vp'] at hvp
  rw [vx'] at hvx
  simp only [vp', vx'] at fin
  -- the slot of p's block, ahead of p
  have hi' : p.op.isNew = false → refOf (lk s.sl a) = some i := by
    intro hn
    rw [← hi, step_keep k1]
    rcases hpa with h | h
    · rw [hn] at h; cases h
    · exact h
  have hj' : x.op.isNew = false → refOf (lk s.sl b) = some j := by
    intro hn
    rw [← hj, step_keep k2, step_keep k1]
    · intro e; exact a1 b e (tgt_looks hx hn)
    · rcases hxb with h | h
      · rw [hn] at h; cases h
      · exact h
  cases hpn : p.op.isNew with
  | true =>
    have hxn : x.op.isNew = false := by
      cases hc : x.op.isNew with
      | true => exact (hnn ⟨hpn, hc⟩).elim
      | false => rfl
    obtain ⟨C, hC⟩ := new_at (call := call) (callr := callr) hpn
    rw [hC] at hvp
    simp only [Option.some.injEq, Prod.mk.injEq] at hvp
    obtain ⟨rfl, rfl, rfl⟩ := hvp
    have hpd : p.d = some a := by
      have := hp
      unfold AO.tgt at this
      cases hx' : p.op <;> rw [hx'] at hpn <;> first | (cases hpn; done) | (rw [hx'] at this; exact this)
    have hin : i = s.nx := by
      simp only [lk_put, hpd, if_true, refOf, Option.some.injEq] at hi
      exact hi.symm
    subst hin
    have hmg : ∀ m : List (Nat × Blk), mg m j = mg ((s.nx, C) :: m) j := fun m => by simp [mg, hij]
    cases hxs : x.op.isSt with
    | false =>
      obtain ⟨e1, e2, e3⟩ := reads_at (call := call) (callr := callr) hx hxn hxs (hj' hxn) _ _ _ _ _ hvx
      subst e1 e2
      exact fin _ _ (e3 s.mem s.nx (hmg _)) (hC _ _ _)
    | true =>
      obtain ⟨D, e1, e2, e3, e4⟩ := writes_at (call := call) (callr := callr) hx hxs (hj' hxn) _ _ _ _ _ hvx
      subst e1 e2
      refine fin _ _ (e4 s.mem s.nx (hmg _)) ?_
      rw [hC]
      simp [ms, hij]
  | false =>
    have hia := hi' hpn
    cases hxn : x.op.isNew with
    | true =>
      obtain ⟨C, hC⟩ := new_at (call := call) (callr := callr) hxn
      rw [hC] at hvx
      simp only [Option.some.injEq, Prod.mk.injEq] at hvx
      obtain ⟨rfl, rfl, rfl⟩ := hvx
      have hxd : x.d = some b := by
        have := hx
        unfold AO.tgt at this
        cases hx' : x.op <;> rw [hx'] at hxn <;> first | (cases hxn; done) | (rw [hx'] at this; exact this)
      have hjn : j = np := by
        simp only [lk_put, hxd, if_true, refOf, Option.some.injEq] at hj
        exact hj.symm
      subst hjn
      cases hps : p.op.isSt with
      | false =>
        obtain ⟨e1, e2, e3⟩ := reads_at (call := call) (callr := callr) hp hpn hps hia _ _ _ _ _ hvp
        subst e1 e2
        exact fin _ _ (hC _ _ _) (e3 _ _ (by simp [mg, Ne.symm hij]))
      | true =>
        obtain ⟨D, e1, e2, e3, e4⟩ := writes_at (call := call) (callr := callr) hp hps hia _ _ _ _ _ hvp
        subst e1 e2
        refine fin _ _ (hC _ _ _) ?_
        rw [e4 _ _ (by simp [mg, Ne.symm hij])]
        simp [ms, Ne.symm hij]
    | false =>
      have hjb := hj' hxn
      cases hps : p.op.isSt with
      | false =>
        obtain ⟨e1, e2, e3⟩ := reads_at (call := call) (callr := callr) hp hpn hps hia _ _ _ _ _ hvp
        subst e1 e2
        cases hxs : x.op.isSt with
        | false =>
          obtain ⟨f1, f2, f3⟩ := reads_at (call := call) (callr := callr) hx hxn hxs hjb _ _ _ _ _ hvx
          subst f1 f2
          exact fin _ _ hvx hvp
        | true =>
          obtain ⟨D, f1, f2, f3, f4⟩ := writes_at (call := call) (callr := callr) hx hxs hjb _ _ _ _ _ hvx
          subst f1 f2
          exact fin _ _ hvx (e3 _ _ (mg_ms_ne hij D _))
      | true =>
        obtain ⟨C, e1, e2, e3, e4⟩ := writes_at (call := call) (callr := callr) hp hps hia _ _ _ _ _ hvp
        subst e1 e2
        have hm := mg_ms_ne (Ne.symm hij) C s.mem
        cases hxs : x.op.isSt with
        | false =>
          obtain ⟨f1, f2, f3⟩ := reads_at (call := call) (callr := callr) hx hxn hxs hjb _ _ _ _ _ hvx
          subst f1 f2
          exact fin _ _ (f3 _ _ hm.symm) hvp
        | true =>
          obtain ⟨D, f1, f2, f3, f4⟩ := writes_at (call := call) (callr := callr) hx hxs hjb _ _ _ _ _ hvx
          subst f1 f2
          refine fin _ _ (f4 _ _ hm.symm) ?_
          rw [e4 _ _ (mg_ms_ne hij D _), ms_ms hij C D _ e3 (by rw [← hm]; exact f3)]
/-- x comes up ahead of all that stand before it. -/
theorem bubble {bad : List (Nat × Nat)} (x : AO) : ∀ (pre post : List AO) {s s' : St}, (∀ p ∈ pre, commB p x = true ∨ commX bad p x = true) → tgtOk bad (pre ++ x :: post) = true → apartS s'.sl bad = true → steps call callr (pre ++ x :: post) s = some s' →
    ∃ s1 s'', step call callr x s = some s1 ∧ steps call callr (pre ++ post) s1 = some s'' ∧ Sim s' s''
  | [], post, s, s', _, _, _, h => by
    simp only [List.nil_append, steps] at h
    split at h
    · rename_i s1 h1; exact ⟨s1, s', h1, h, Sim.refl _⟩
    · cases h
  | p :: pre, post, s, s', hp, ht, hb, h => by
    have hx0 := tgtOk_mid (p :: pre) ht
    have ht0 := ht
    simp only [List.cons_append, tgtOk, Bool.and_eq_true] at ht
    simp only [List.cons_append, steps] at h
    split at h
    · rename_i s1 h1
      obtain ⟨s2, s'', e1, e2, e3⟩ := bubble x pre post (fun q hq => hp q (by simp [hq])) ht.2 hb h
      have hsw : ∃ t1 t2, step call callr x s = some t1 ∧ step call callr p t1 = some t2 ∧ Sim s2 t2 := by
        rcases hp p (by simp) with hc | hc
        · exact swap_sim hc h1 e1
        · simp only [commX, Bool.and_eq_true, Option.isNone_iff_eq_none] at hc
          obtain ⟨⟨⟨⟨c1, c2⟩, c3⟩, c4⟩, c5⟩ := hc
          split at c5
          · rename_i a b ha hbb
            have hmem : (a, b) ∈ bad := List.contains_iff_mem.1 c5
            obtain ⟨i, j, hi, hj, hij⟩ := apartS_mem hb hmem
            have hpq := tgtOk_head (p := p) (l := pre ++ x :: post) (by simpa using ht0) ha ⟨_, hmem, .inl rfl⟩
            have hxq := tgtOk_head hx0 hbb ⟨_, hmem, .inr rfl⟩
            have k1 : lk s2.sl a = lk s'.sl a := by
              rw [e3.1 a, steps_keep e2 (fun q hq => hpq.2 q (by rcases List.mem_append.1 hq with h | h <;> simp [h]))]
            have k2 : lk s1.sl a = lk s2.sl a := (step_keep e1 (hpq.2 x (by simp))).symm
            have k3 : lk s2.sl b = lk s'.sl b := by
              rw [e3.1 b, steps_keep e2 (fun q hq => ?_)]
              rcases List.mem_append.1 hq with h | h
              · have hap : apartB q x = true := by
                  rcases hp q (by simp [h]) with hc | hc
                  · simp only [commB, Bool.and_eq_true] at hc; exact hc.1
                  · simp only [commX, Bool.and_eq_true] at hc; exact hc.1.1.1.1
                obtain ⟨q1, _, q3⟩ := apart_spec hap
                cases hxn : x.op.isNew with
                | false => exact fun e => q1 b e (tgt_looks hbb hxn)
                | true =>
                  have hxd : x.d = some b := by
                    have := hbb
                    unfold AO.tgt at this
                    cases hx' : x.op <;> rw [hx'] at hxn <;> first | (cases hxn; done) | (rw [hx'] at this; exact this)
                  exact fun e => q3 b e hxd
              · exact hxq.2 q h
            exact swap_mem c1 c2 c3 (fun ⟨u, v⟩ => by simp [u, v] at c4) ha hbb (by rw [k2, k1]; exact hi) (by rw [k3]; exact hj) hij hpq.1 hxq.1 h1 e1
          · cases c5
      obtain ⟨t1, t2, f1, f2, f3⟩ := hsw
      obtain ⟨u, g1, g2⟩ := steps_sim (pre ++ post) f3 e2
      exact ⟨t1, u, f1, by simp only [List.cons_append, steps, f2]; exact g1, e3.trans g2⟩
    · cases h

def depsOf (o : Oper) : List Nat := (o.after.toList.filter fun e => Region.binds .any e).map (·.on)
/-- 'bef' tells, of each operation, some that come up before it. -/
def okBef (ops : Array Oper) (bef : List (List Nat)) : Bool :=
  (List.range ops.size).all fun i => match ops[i]? with
    | some o => ((bef.getD i []).all fun j => (depsOf o).contains j || (depsOf o).any fun k => decide (k < i) && (bef.getD k []).contains j) && (depsOf o).all fun j => decide (j < i)
    | none => true
def okPairs (bef : List (List Nat)) (bad : List (Nat × Nat)) : List (Nat × AO) → Bool
  | [] => true
  | p :: l => (l.all fun x => (bef.getD x.1 []).contains p.1 || (commB p.2 x.2 || commX bad p.2 x.2)) && okPairs bef bad l
def okDraw (P : Program) (nt : Nat) (ops : Array Oper) (l : List (Nat × AO)) (bef : List (List Nat)) (bad : List (Nat × Nat)) : Bool :=
  okBef ops bef && okPairs bef bad l && tgtOk bad (l.map (·.2)) && (l.map (·.1) == List.range ops.size) && l.all fun x => match ops[x.1]? with | some o => okAO P nt ops o x.2 | none => false

theorem bef_listed {listed : Array Bool} {bef : List (List Nat)} (hb : okBef ops bef = true) (hcl : ∀ i o, ops[i]? = some o → listed.getD i false = true → ∀ e ∈ o.after, Region.binds .any e = true → listed.getD e.on false = true) :
    ∀ (i : Nat) (o : Oper), ops[i]? = some o → (∀ e ∈ o.after, Region.binds .any e = true → listed.getD e.on false = true) → ∀ j ∈ bef.getD i [], listed.getD j false = true := by
  intro i
  induction i using Nat.strongRecOn with
  | _ i ih =>
    intro o ho hdep j hj
    have hlt : i < ops.size := (Array.getElem?_eq_some_iff.1 ho).1
    have hb' := hb
    simp only [okBef, List.all_eq_true, List.mem_range] at hb'
    have h1 := hb' i hlt
    rw [ho] at h1
    simp only [Bool.and_eq_true, List.all_eq_true, Bool.or_eq_true, List.any_eq_true, decide_eq_true_eq, List.contains_iff_mem] at h1
    have hd : ∀ k, k ∈ depsOf o → listed.getD k false = true := by
      intro k hk
      simp only [depsOf, List.mem_map, List.mem_filter, Array.mem_toList_iff] at hk
      obtain ⟨e, ⟨he1, he2⟩, rfl⟩ := hk
      exact hdep e he1 he2
    rcases h1.1 j hj with h2 | ⟨k, hk, hki, hkj⟩
    · exact hd j h2
    · have hkl : k < ops.size := by omega
      obtain ⟨ok, hok⟩ : ∃ ok, ops[k]? = some ok := ⟨ops[k], by simp [hkl]⟩
      exact ih k hki ok hok (hcl k ok hok (hd k hk)) j hkj
theorem getD_bool_iff {listed : Array Bool} {i : Nat} (h : i < listed.size) : listed.getD i true = listed.getD i false := by simp [h]
theorem any_wp (hc : CallsOk P call callr) {bef : List (List Nat)} {bad : List (Nat × Nat)} (hb : okBef ops bef = true) {Q : Exit → Act → World → Prop} : ∀ (n : Nat) (l : List (Nat × AO)) (listed : Array Bool) (s s' : St) (a : Act) (w : World), l.length = n → listed.size = ops.size → (l.map (·.1)).Nodup →
    (∀ i, i < ops.size → (listed.getD i false = false ↔ ∃ x, (i, x) ∈ l)) → (∀ p ∈ l, p.1 < ops.size) → (l.map (·.1)).Pairwise (· < ·) →
    (∀ i o, ops[i]? = some o → listed.getD i false = true → ∀ e ∈ o.after, Region.binds .any e = true → listed.getD e.on false = true) →
    okPairs bef bad l = true → tgtOk bad (l.map (·.2)) = true → apartS s'.sl bad = true → (∀ p ∈ l, ∃ o, ops[p.1]? = some o ∧ okAO P nt ops o p.2 = true) → steps call callr (l.map (·.2)) s = some s' → Rel g nt df s a w → (∀ a' w', Rel g nt df s' a' w' → Q .normal a' w') → wpAny P .any ops Q n listed a w := by
  intro n
  induction n with
  | zero =>
    intro l listed s s' a w hn hsz _ hl _ _ _ _ _ _ _ hs hrel hQ
    have : l = [] := List.eq_nil_of_length_eq_zero hn
    subst this
    simp only [List.map_nil, steps, Option.some.injEq] at hs
    subst hs
    refine ⟨?_, hQ a w hrel⟩
    refine List.eq_nil_iff_forall_not_mem.2 (fun j hj => ?_)
    obtain ⟨h1, o, h2, _⟩ := mem_ready.1 hj
    have hlt : j < ops.size := (Array.getElem?_eq_some_iff.1 h2).1
    rw [getD_bool_iff (by omega)] at h1
    have := (hl j hlt).1 h1
    simp at this
  | succ n ih =>
    intro l listed s s' a w hn hsz hnd hl hin hsorted hcl hp htg hap hok hs hrel hQ
    have hdeps : ∀ i o, ops[i]? = some o → ∀ e ∈ o.after, Region.binds .any e = true → e.on < i := by
      intro i o ho e he hbd
      have hlt : i < ops.size := (Array.getElem?_eq_some_iff.1 ho).1
      have hb' := hb
      simp only [okBef, List.all_eq_true, List.mem_range] at hb'
      have h1 := hb' i hlt
      rw [ho] at h1
      simp only [Bool.and_eq_true, List.all_eq_true, decide_eq_true_eq] at h1
      exact h1.2 e.on (List.mem_map.2 ⟨e, List.mem_filter.2 ⟨Array.mem_toList_iff.2 he, hbd⟩, rfl⟩)
    constructor
    · intro hr
      exfalso
      cases l with
      | nil => simp at hn
      | cons p l =>
        obtain ⟨o, ho, _⟩ := hok p (by simp)
        have hlt := hin p (by simp)
        have : p.1 ∈ Region.ready .any ops listed := by
          refine mem_ready.2 ⟨by rw [getD_bool_iff (by omega)]; exact (hl p.1 hlt).2 ⟨p.2, by simp⟩, o, ho, fun e he hbd => ?_⟩
          have hlt2 := hdeps p.1 o ho e he hbd
          rcases hv : listed.getD e.on false with _ | _
          · obtain ⟨x, hx⟩ := (hl e.on (by omega)).1 hv
            simp only [List.map_cons, List.pairwise_cons] at hsorted
            rcases List.mem_cons.1 hx with h' | h'
            · rw [← h'] at hlt2; simp at hlt2
            · have := hsorted.1 e.on (List.mem_map.2 ⟨_, h', rfl⟩); omega
          · rfl
        rw [hr] at this
        cases this
    · intro i hi
      obtain ⟨h1, o, ho, hdep⟩ := mem_ready.1 hi
      have hlt : i < ops.size := (Array.getElem?_eq_some_iff.1 ho).1
      rw [getD_bool_iff (by omega)] at h1
      obtain ⟨x, hx⟩ := (hl i hlt).1 h1
      obtain ⟨pre, post, rfl⟩ := List.append_of_mem hx
      have hbl := bef_listed hb hcl i o ho hdep
      have hcomm : ∀ p ∈ pre.map (·.2), commB p x = true ∨ commX bad p x = true := by
        intro p hp'
        obtain ⟨q, hq, rfl⟩ := List.mem_map.1 hp'
        have hpair : ∀ (pre : List (Nat × AO)), okPairs bef bad (pre ++ (i, x) :: post) = true → ∀ q ∈ pre, (bef.getD i []).contains q.1 = true ∨ commB q.2 x = true ∨ commX bad q.2 x = true := by
          intro pre
          induction pre with
          | nil => intro _ q hq; cases hq
          | cons r pre ihp =>
            intro hpp q hq
            simp only [List.cons_append, okPairs, Bool.and_eq_true, List.all_eq_true, Bool.or_eq_true] at hpp
            rcases List.mem_cons.1 hq with h' | h'
            · subst h'; exact hpp.1 (i, x) (by simp)
            · exact ihp hpp.2 q h'
        rcases hpair pre hp q hq with h' | h'
        · exfalso
          have hq1 := hbl q.1 (List.contains_iff_mem.1 h')
          have hqlt := hin q (by simp [hq])
          have := (hl q.1 hqlt).2 ⟨q.2, by simp [hq]⟩
          rw [this] at hq1
          cases hq1
        · exact h'
      rw [List.map_append, List.map_cons] at hs
      rw [List.map_append, List.map_cons] at htg
      obtain ⟨s1, s'', e1, e2, e3⟩ := bubble x (pre.map (·.2)) (post.map (·.2)) hcomm htg hap hs
      obtain ⟨o', ho', hokx⟩ := hok (i, x) (by simp)
      simp only at ho'
      rw [ho] at ho'
      cases ho'
      rw [← List.map_append] at e2
      have hnd' : (pre.map (·.1)).Nodup ∧ i ∉ pre.map (·.1) ∧ i ∉ post.map (·.1) := by
        rw [List.map_append, List.map_cons, List.nodup_append] at hnd
        obtain ⟨n1, n2, n3⟩ := hnd
        rw [List.nodup_cons] at n2
        exact ⟨n1, fun hmem => n3 i hmem i (by simp) rfl, n2.1⟩
      have hsub : (pre ++ post).Sublist (pre ++ (i, x) :: post) := List.Sublist.append (List.Sublist.refl _) (List.sublist_cons_self _ _)
      refine step_wp hc hrel ho hokx e1 (fun a' w' hr' => ih (pre ++ post) (listed.setIfInBounds i true) s1 s'' a' w' (by simp at hn ⊢; omega) (by simpa using hsz) ((hsub.map _).nodup hnd) (fun j hj => ?_) (fun p hp' => hin p (hsub.subset hp')) (hsorted.sublist (hsub.map _)) (fun j oj hoj hjl e he hbd => ?_) ?_ (by rw [List.map_append]; exact tgtOk_sub _ htg) (by rw [apartS_congr (fun i => (e3.1 i).symm)]; exact hap) (fun p hp' => hok p (hsub.subset hp')) e2 hr' (fun a'' w'' hr'' => hQ a'' w'' (e3.symm.rel hr'')))
      · by_cases hji : j = i
        · subst hji
          simp only [Array.getD_eq_getD_getElem?, Array.getElem?_setIfInBounds_self_of_lt (show j < listed.size by omega), Option.getD_some, Bool.true_eq_false, false_iff, List.mem_append, not_exists]
          intro y hy
          rcases hy with hy | hy
          · exact hnd'.2.1 (List.mem_map.2 ⟨_, hy, rfl⟩)
          · exact hnd'.2.2 (List.mem_map.2 ⟨_, hy, rfl⟩)
        · rw [getD_set_ne false (Ne.symm hji)]
          rw [hl j hj]
          constructor
          · rintro ⟨y, hy⟩
            refine ⟨y, ?_⟩
            rcases List.mem_append.1 hy with h' | h'
            · exact List.mem_append.2 (.inl h')
            · rcases List.mem_cons.1 h' with h'' | h''
              · simp at h''; exact absurd h''.1 hji
              · exact List.mem_append.2 (.inr h'')
          · rintro ⟨y, hy⟩
            exact ⟨y, hsub.subset hy⟩
      · by_cases hji : j = i
        · subst hji
          rw [ho] at hoj
          cases hoj
          exact getD_set_true (hdep e he hbd)
        · rw [getD_set_ne false (Ne.symm hji)] at hjl
          exact getD_set_true (hcl j oj hoj hjl e he hbd)
      · have : ∀ (pre : List (Nat × AO)), okPairs bef bad (pre ++ (i, x) :: post) = true → okPairs bef bad (pre ++ post) = true := by
          intro pre
          induction pre with
          | nil => intro hpp; simp only [List.nil_append, okPairs, Bool.and_eq_true] at hpp ⊢; exact hpp.2
          | cons r pre ihp =>
            intro hpp
            simp only [List.cons_append, okPairs, Bool.and_eq_true, List.all_eq_true, Bool.or_eq_true, List.mem_append, List.mem_cons] at hpp ⊢
            exact ⟨fun z hz => hpp.1 z (hz.imp id .inr), ihp hpp.2⟩
        exact this pre hp
end
end Go.Proofs.Ytnomicnfgdjdeaa.Ab
