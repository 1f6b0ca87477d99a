/- A worker that goes on from where it was, on a chain that is another one since. In plain Lean. No condition. -/
import Derived.Test.YtnomicnfgdjdeaaLazyX
namespace Go.Proofs.Ytnomicnfgdjdeaa.Ab
open Go.RowKit

theorem Run.det {G G' : List Int → Wk → List Int → Wk → Prop} {i : Nat} {m : List Int} {w : Wk} {m1 : List Int} {w1 : Wk} (h : Run G i m w m1 w1) : ∀ {n : Nat} {m2 : List Int} {w2 : Wk}, Run G' n m w m2 w2 → w2.done = true → ∃ j, n = i + j ∧ Run G' j m1 w1 m2 w2 := by
  induction h with
  | refl m w => intro n m2 w2 r _; exact ⟨n, by omega, r⟩
  | step hd hs hg _ ih =>
    intro n m2 w2 r hd2
    cases r with
    | refl => rw [hd] at hd2; cases hd2
    | step hd' hs' hg' r' =>
      rw [hs] at hs'
      simp only [Prod.mk.injEq] at hs'
      obtain ⟨rfl, rfl, _⟩ := hs'
      obtain ⟨j, e, r2⟩ := ih r' hd2
      exact ⟨j, by omega, r2⟩
/-- It comes to what a set comes to, in so many steps at most; the words behind it are told. -/
def Fin (n : List Int) (Q : List Node) (a b : Node) (c : Nat) (K k t : Int) (M : List Int) (w : Wk) (N : Nat) : Prop :=
  ∃ w' Q2 steps, steps ≤ N ∧ Run (fun _ _ _ _ => True) steps M w (finM n a b c K k) w' ∧ w'.done = true ∧ w'.out = (doR (kys Q) K k).2 ∧ Ch (finM n a b c K k) Q2 ∧ kys Q2 = (doR (kys Q) K k).1
theorem Fin.before {n : List Int} {Q : List Node} {a b : Node} {c : Nat} {K k t : Int} {M M1 : List Int} {w w1 : Wk} {N j : Nat} {G : List Int → Wk → List Int → Wk → Prop} (h : Fin n Q a b c K k t M1 w1 N) (r : Run G j M w M1 w1) : Fin n Q a b c K k t M w (j + N) := by
  obtain ⟨w', Q2, s, h1, h2, h3⟩ := h
  exact ⟨w', Q2, j + s, by omega, (r.mono (fun _ _ _ _ _ => trivial)).trans h2, h3⟩
/-- What an operation wants: a chain, and a node of its own. -/
structure Op (n : List Int) (Q : List Node) (K k t : Int) (c : Nat) : Prop where
  ch : Ch n Q
  set : SetG (kys Q)
  kind : K = 1 ∨ K = 2
  key : 0 ≤ k ∧ k ≤ 20
  ok : okW t
  lc : 4 * c + 3 < n.length
  fresh : ∀ x ∈ pathOf Q, x.1 ≠ c
  dead : W n c 3 = 0
  many : Q.length + 3 ≤ n.length / 4
section
variable {n : List Int} {Q : List Node} {K k t : Int} {c : Nat} {L1 L2 A : List Node} {a b : Node} {D : List Node}
theorem steps_le (s : List Int) (hs : SetG s) (K k : Int) : stepsN s K k ≤ 100 := by
  have := List.length_filter_le (fun x => decide (x < k)) s
  have h2 := hs.len
  unfold stepsN
  split
  · omega
  · split <;> omega
theorem Op.fresh_run (o : Op n Q K k t c) (p : Pl Q k L1 L2 A a b D) (r1 r2 r5 r6 r7 : Int) : Fin n Q a b c K k t n (wkr K k c t 0 r1 r2 r5 r6 r7) 100 := by
  obtain ⟨L1', L2', A', a', b', D', p', st, w', Q', r, d1, d2, d3, d4, d5, _⟩ := op_run o.ch (K := K) (t := t) (by have := o.kind; omega) o.key o.ok o.lc o.fresh o.dead o.many r1 r2 r5 r6 r7
  obtain ⟨rfl, rfl⟩ := p.unique p'
  exact ⟨w', Q', st, by rw [d5]; exact steps_le _ o.set _ _, r.mono (fun _ _ _ _ _ => trivial), d1, d2, d3, d4⟩
theorem Op.exists_pl (o : Op n Q K k t c) : ∃ L1 L2 A a b D, Pl Q k L1 L2 A a b D := by
  obtain ⟨L1', L2', A', a', b', D', p', _⟩ := op_run o.ch (K := K) (t := t) (by have := o.kind; omega) o.key o.ok o.lc o.fresh o.dead o.many 0 0 0 0 0
  exact ⟨_, _, _, _, _, _, p'⟩
/-- The walk from the head on. -/
theorem Op.walk0 (o : Op n Q K k t c) (p : Pl Q k L1 L2 A a b D) (r1 r2 r5 r6 r7 : Int) : ∃ j, Run (fun _ _ _ _ => True) j n (wkr K k c t 0 r1 r2 r5 r6 r7) n (wkr K k c t 10 a.1 b.1 b.2 r6 r7) := by
  have hl : n.length ≤ 50000 := by have := o.ch.len; omega
  have hK' : 1 ≤ K ∧ K ≤ 3 := by have := o.kind; omega
  have hlen3 : 3 < n.length := by have := o.lc; omega
  have t0 := s0 (m := n) (K := K) (k := k) (c := c) (t := t) (r5 := r5) (r6 := r6) (r7 := r7) hl hK' hlen3 r1 r2
  obtain ⟨y, R, hy⟩ : ∃ y R, Q ++ [(1, Big)] = y :: R := by
    cases Q with
    | nil => exact ⟨_, _, rfl⟩
    | cons x Q => exact ⟨_, _, rfl⟩
  have hL := o.ch.lk
  have hP : pathOf Q = (0, -Big) :: y :: R := by unfold pathOf; rw [hy]
  have hk := o.key
  rw [hP] at hL
  rw [hL.2.1] at t0
  obtain ⟨A', a', b', D', e1, e2, e3, e4⟩ := walk (G := fun _ _ _ _ => True) (c := c) (t := t) hl (fun _ _ => trivial) hK' R (0, -Big) y r5 r6 r7 hL (by show -(1099511627777 : Int) < k; omega) ⟨(1, Big), by rw [← hy]; simp, by show k ≤ (1099511627777 : Int); omega⟩
  rw [← hP] at e1
  obtain ⟨L1', L2', p'⟩ := pl_of e1 e2 e3
  obtain ⟨rfl, rfl⟩ := p.unique p'
  rw [if_neg (by have := o.kind; omega)] at e4
  exact ⟨_, Run.step rfl t0 trivial e4⟩
theorem Op.tail10 (o : Op n Q K k t c) (p : Pl Q k L1 L2 A a b D) (r6 r7 : Int) : Fin n Q a b c K k t n (wkr K k c t 10 a.1 b.1 b.2 r6 r7) 100 := by
  obtain ⟨w', Q2, s, h1, h2, h3, h4⟩ := o.fresh_run p 0 0 0 r6 r7
  obtain ⟨j, hj⟩ := o.walk0 p 0 0 0 r6 r7
  obtain ⟨i, e, r⟩ := hj.det h2 h3
  exact ⟨w', Q2, i, by omega, r, h3, h4⟩
/-- From PC 1 on, on the path. -/
theorem Op.tail1 (o : Op n Q K k t c) (p : Pl Q k L1 L2 A a b D) {P1 : List Node} {x y : Node} {R : List Node} (hP : pathOf Q = P1 ++ x :: y :: R) (hx : x.2 < k) (r5 r6 r7 : Int) : Fin n Q a b c K k t n (wkr K k c t 1 x.1 y.1 r5 r6 r7) 1000 := by
  have hl : n.length ≤ 50000 := by have := o.ch.len; omega
  have hK' : 1 ≤ K ∧ K ≤ 3 := by have := o.kind; omega
  have hL := o.ch.lk
  have hs := o.ch.sorted
  have hlenP : (pathOf Q).length = Q.length + 2 := by simp [pathOf]
  have hQl := o.set.len
  rw [kys_len] at hQl
  rw [hP] at hL hs
  have hk := o.key
  have hbig : ∃ z ∈ y :: R, k ≤ z.2 := by
    have : (pathOf Q).getLast? = some (1, Big) := by rw [show pathOf Q = ((0, -Big) :: Q) ++ [(1, Big)] from rfl, List.getLast?_concat]
    rw [hP, show P1 ++ x :: y :: R = (P1 ++ [x]) ++ (y :: R) by simp, List.getLast?_append] at this
    have h2 : (y :: R).getLast? = some (1, Big) := by
      cases hy : (y :: R).getLast? with
      | none => cases (List.getLast?_eq_none_iff.1 hy)
      | some z => rw [hy] at this; simpa using this
    exact ⟨(1, Big), List.mem_of_getLast? h2, by show k ≤ (1099511627777 : Int); omega⟩
  obtain ⟨A', a', b', D', e1, e2, e3, e4⟩ := walk (G := fun _ _ _ _ => True) (c := c) (t := t) hl (fun _ _ => trivial) hK' R x y r5 r6 r7 (Lk.drop P1 hL) hx hbig
  have e1' : pathOf Q = (P1 ++ A') ++ a' :: b' :: D' := by rw [hP, e1]; simp
  have hlo : ∀ z ∈ (P1 ++ A') ++ [a'], z.2 < k := by
    intro z hz
    rw [List.append_assoc, List.mem_append] at hz
    rcases hz with hz | hz
    · rw [List.pairwise_append] at hs
      have := hs.2.2 z hz x (by simp)
      omega
    · exact e2 z hz
  obtain ⟨L1', L2', p'⟩ := pl_of e1' hlo e3
  obtain ⟨rfl, rfl⟩ := p.unique p'
  rw [if_neg (by have := o.kind; omega)] at e4
  have hA : A'.length ≤ 25 := by
    have := congrArg List.length e1'
    rw [hlenP] at this
    simp at this
    omega
  obtain ⟨w', Q2, s, h1, h2⟩ := (o.tail10 p r6 r7).before e4
  exact ⟨w', Q2, s, by omega, h2⟩
end
end Go.Proofs.Ytnomicnfgdjdeaa.Ab
