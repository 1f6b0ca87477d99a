/- A worker that is passed by another one: it does what a set does then. In plain Lean. No condition. -/
import Derived.Test.YtnomicnfgdjdeaaLazyU
namespace Go.Proofs.Ytnomicnfgdjdeaa.Ab
open Go.RowKit

/-- A node of what was the path once. -/
def Old (n : List Int) (Q : List Node) (x : Node) : Prop := 4 * x.1 + 3 < n.length ∧ W n x.1 0 = x.2 ∧ (x ∈ pathOf Q ∨ (W n x.1 3 ≠ 0 ∧ ∃ z ∈ pathOf Q, W n x.1 1 = (z.1 : Int)))
section
variable {n : List Int} {Q : List Node} {K k t : Int} {c : Nat} {L1 L2 A : List Node} {a b : Node} {D : List Node}
theorem Ch.old (h : Ch n Q) {x : Node} (hx : x ∈ pathOf Q) : Old n Q x := ⟨(h.lk.mem x hx).1, (h.lk.mem x hx).2.1, .inl hx⟩
/-- What stands behind a node of a lesser key. -/
theorem Ch.next (h : Ch n Q) {y : Node} (hy : y ∈ pathOf Q) (hk : y.2 < Big) : ∃ P1 z R, pathOf Q = P1 ++ y :: z :: R ∧ W n y.1 1 = (z.1 : Int) := by
  obtain ⟨P1, R, hP⟩ := List.append_of_mem hy
  cases R with
  | nil =>
    exfalso
    have : (pathOf Q).getLast? = some (1, Big) := by rw [show pathOf Q = ((0, -Big) :: Q) ++ [(1, Big)] from rfl, List.getLast?_concat]
    rw [hP, List.getLast?_concat] at this
    simp only [Option.some.injEq] at this
    rw [this] at hk
    exact absurd hk (by simp)
  | cons z R =>
    have hL := h.lk
    rw [hP] at hL
    exact ⟨P1, z, R, hP, (Lk.drop P1 hL).2.1⟩
theorem Op.resume10 (o : Op n Q K k t c) (p : Pl Q k L1 L2 A a b D) {x y : Node} (hx : Old n Q x) (hy : Old n Q y) (hxk : x.2 < k) (hyk : k ≤ y.2) (r6 r7 : Int) : Fin n Q a b c K k t n (wkr K k c t 10 x.1 y.1 y.2 r6 r7) 200 := by
  have hl : n.length ≤ 50000 := by have := o.ch.len; omega
  have hne : x.1 ≠ y.1 := by
    intro e
    have h1 := hx.2.1
    rw [e, hy.2.1] at h1
    omega
  by_cases hg : W n x.1 3 = 0 ∧ W n y.1 3 = 0 ∧ W n x.1 1 = (y.1 : Int)
  · obtain ⟨g1, g2, g3⟩ := hg
    have hxp : x ∈ pathOf Q := hx.2.2.resolve_right (fun h => h.1 g1)
    have hyp : y ∈ pathOf Q := hy.2.2.resolve_right (fun h => h.1 g2)
    obtain ⟨P1, z, R, hP, hz⟩ := o.ch.next hxp (by have := o.key; show x.2 < (1099511627777 : Int); omega)
    have hzy : z.1 = y.1 := by rw [g3] at hz; omega
    have hzp : z ∈ pathOf Q := by rw [hP]; simp
    have hz2 : z = y := by
      have h1 := (o.ch.lk.mem z hzp).2.1
      have h2 := (o.ch.lk.mem y hyp).2.1
      rw [hzy, h2] at h1
      exact Prod.ext hzy h1.symm
    subst hz2
    have hs := o.ch.sorted
    rw [hP] at hs
    have hlo : ∀ u ∈ P1 ++ [x], u.2 < k := by
      intro u hu
      rcases List.mem_append.1 hu with hu | hu
      · rw [List.pairwise_append] at hs
        have := hs.2.2 u hu x (by simp)
        omega
      · simp only [List.mem_cons, List.not_mem_nil, or_false] at hu
        rw [hu]; exact hxk
    obtain ⟨L1', L2', p'⟩ := pl_of hP hlo hyk
    obtain ⟨rfl, rfl⟩ := p.unique p'
    obtain ⟨w', Q2, s, h1, h2⟩ := o.tail10 p r6 r7
    exact ⟨w', Q2, s, by omega, h2⟩
  · have cr : Crit n x.1 y.1 := ⟨hx.1, hy.1, hne, o.ch.free⟩
    obtain ⟨j, hj, r⟩ := run_anew (K := K) (k := k) (t := t) (r5 := y.2) (r6 := r6) (r7 := r7) hl cr o.kind o.ok c (by
      by_cases e1 : W n x.1 3 = 0
      · by_cases e2 : W n y.1 3 = 0
        · exact .inr (.inr (fun e3 => hg ⟨e1, e2, e3⟩))
        · exact .inr (.inl e2)
      · exact .inl e1)
    obtain ⟨w', Q2, s, h1, h2⟩ := (o.fresh_run p x.1 y.1 y.2 r6 (-1)).before r
    exact ⟨w', Q2, s, by omega, h2⟩
theorem Op.resume1on (o : Op n Q K k t c) (p : Pl Q k L1 L2 A a b D) {x y : Node} (hx : Old n Q x) (hy : y ∈ pathOf Q) (hxk : x.2 < k) (r5 r6 r7 : Int) : Fin n Q a b c K k t n (wkr K k c t 1 x.1 y.1 r5 r6 r7) 2000 := by
  have hl : n.length ≤ 50000 := by have := o.ch.len; omega
  have hK' : 1 ≤ K ∧ K ≤ 3 := by have := o.kind; omega
  have hyo := o.ch.old hy
  have st := s1 (m := n) (K := K) (k := k) (c := c) (t := t) (r5 := r5) (r6 := r6) (r7 := r7) (a := x.1) (b := y.1) hl hK' hyo.1
  rw [hyo.2.1] at st
  by_cases hlt : y.2 < k
  · rw [if_pos hlt] at st
    obtain ⟨P1, z, R, hP, hz⟩ := o.ch.next hy (by have := o.key; show y.2 < (1099511627777 : Int); omega)
    have st2 := s2 (m := n) (K := K) (k := k) (c := c) (t := t) (r5 := r5) (r6 := r6) (r7 := r7) (a := x.1) (b := y.1) hl hK' hyo.1
    rw [hz] at st2
    obtain ⟨w', Q2, s, h1, h2⟩ := (o.tail1 p hP hlt r5 r6 r7).before (G := fun _ _ _ _ => True) (Run.step rfl st trivial (Run.one rfl st2 trivial))
    exact ⟨w', Q2, s, by omega, h2⟩
  · rw [if_neg hlt, if_neg (by have := o.kind; omega)] at st
    obtain ⟨w', Q2, s, h1, h2⟩ := (o.resume10 p hx hyo hxk (by omega) r6 r7).before (G := fun _ _ _ _ => True) (Run.one rfl st trivial)
    exact ⟨w', Q2, s, by omega, h2⟩
theorem Op.resume1 (o : Op n Q K k t c) (p : Pl Q k L1 L2 A a b D) {x y : Node} (hx : Old n Q x) (hy : Old n Q y) (hxk : x.2 < k) (r5 r6 r7 : Int) : Fin n Q a b c K k t n (wkr K k c t 1 x.1 y.1 r5 r6 r7) 3000 := by
  have hl : n.length ≤ 50000 := by have := o.ch.len; omega
  have hK' : 1 ≤ K ∧ K ≤ 3 := by have := o.kind; omega
  have hy2 := hy.2.2
  rcases hy2 with hyp | ⟨hyd, z, hz, hzn⟩
  · obtain ⟨w', Q2, s, h1, h2⟩ := o.resume1on p hx hyp hxk r5 r6 r7
    exact ⟨w', Q2, s, by omega, h2⟩
  · have st := s1 (m := n) (K := K) (k := k) (c := c) (t := t) (r5 := r5) (r6 := r6) (r7 := r7) (a := x.1) (b := y.1) hl hK' hy.1
    rw [hy.2.1] at st
    by_cases hlt : y.2 < k
    · rw [if_pos hlt] at st
      have st2 := s2 (m := n) (K := K) (k := k) (c := c) (t := t) (r5 := r5) (r6 := r6) (r7 := r7) (a := x.1) (b := y.1) hl hK' hy.1
      rw [hzn] at st2
      obtain ⟨w', Q2, s, h1, h2⟩ := (o.resume1on p hy hz hlt r5 r6 r7).before (G := fun _ _ _ _ => True) (Run.step rfl st trivial (Run.one rfl st2 trivial))
      exact ⟨w', Q2, s, by omega, h2⟩
    · rw [if_neg hlt, if_neg (by have := o.kind; omega)] at st
      obtain ⟨w', Q2, s, h1, h2⟩ := (o.resume10 p hx hy hxk (by omega) r6 r7).before (G := fun _ _ _ _ => True) (Run.one rfl st trivial)
      exact ⟨w', Q2, s, by omega, h2⟩
theorem Op.resume2 (o : Op n Q K k t c) (p : Pl Q k L1 L2 A a b D) {x : Nat} {y : Node} (hy : Old n Q y) (hyk : y.2 < k) (r5 r6 r7 : Int) : Fin n Q a b c K k t n (wkr K k c t 2 x y.1 r5 r6 r7) 3000 := by
  have hl : n.length ≤ 50000 := by have := o.ch.len; omega
  have hK' : 1 ≤ K ∧ K ≤ 3 := by have := o.kind; omega
  have st2 := s2 (m := n) (K := K) (k := k) (c := c) (t := t) (r5 := r5) (r6 := r6) (r7 := r7) (a := x) (b := y.1) hl hK' hy.1
  have hy2 := hy.2.2
  rcases hy2 with hyp | ⟨hyd, z, hz, hzn⟩
  · obtain ⟨P1, z, R, hP, hz⟩ := o.ch.next hyp (by have := o.key; show y.2 < (1099511627777 : Int); omega)
    rw [hz] at st2
    obtain ⟨w', Q2, s, h1, h2⟩ := (o.tail1 p hP hyk r5 r6 r7).before (G := fun _ _ _ _ => True) (Run.one rfl st2 trivial)
    exact ⟨w', Q2, s, by omega, h2⟩
  · rw [hzn] at st2
    obtain ⟨w', Q2, s, h1, h2⟩ := (o.resume1on p hy hz hyk r5 r6 r7).before (G := fun _ _ _ _ => True) (Run.one rfl st2 trivial)
    exact ⟨w', Q2, s, by omega, h2⟩
/-- Where a worker may be that has no lock. -/
inductive Stale (Q : List Node) (K k t : Int) (c : Nat) : Wk → Prop
  | p0 : Stale Q K k t c (wkr K k c t 0 0 0 0 0 0)
  | p1 (x y : Node) (r5 : Int) (hx : x ∈ pathOf Q) (hy : y ∈ pathOf Q) (hk : x.2 < k) : Stale Q K k t c (wkr K k c t 1 x.1 y.1 r5 0 0)
  | p2 (x y : Node) (r5 : Int) (hy : y ∈ pathOf Q) (hk : y.2 < k) : Stale Q K k t c (wkr K k c t 2 x.1 y.1 r5 0 0)
  | p10 (x y : Node) (hx : x ∈ pathOf Q) (hy : y ∈ pathOf Q) (hk : x.2 < k) (hy2 : k ≤ y.2) : Stale Q K k t c (wkr K k c t 10 x.1 y.1 y.2 0 0)
theorem Stale.step {m : List Int} (h : Ch m Q) (hK : K = 1 ∨ K = 2) (hk : 0 ≤ k ∧ k ≤ 20) {w : Wk} (hw : Stale Q K k t c w) (hpc : w.pc < 10) : ∃ w1, stepS m w = (m, w1, 0) ∧ Stale Q K k t c w1 := by
  have hl : m.length ≤ 50000 := by have := h.len; omega
  have hK' : 1 ≤ K ∧ K ≤ 3 := by omega
  have hmany := h.many
  cases hw with
  | p0 =>
    obtain ⟨P1, z, R, hP, hz⟩ := h.next (y := (0, -Big)) (by simp [pathOf]) (by show -(1099511627777 : Int) < 1099511627777; omega)
    have st := s0 (m := m) (K := K) (k := k) (c := c) (t := t) (r5 := 0) (r6 := 0) (r7 := 0) hl hK' (by omega) 0 0
    rw [show W m 0 1 = (z.1 : Int) from hz] at st
    exact ⟨_, st, .p1 (0, -Big) z 0 (by simp [pathOf]) (by rw [hP]; simp) (by show -(1099511627777 : Int) < k; omega)⟩
  | p1 x y r5 hx hy hxk =>
    have hyn := h.lk.mem y hy
    have st := s1 (m := m) (K := K) (k := k) (c := c) (t := t) (r5 := r5) (r6 := 0) (r7 := 0) (a := x.1) (b := y.1) hl hK' hyn.1
    rw [hyn.2.1] at st
    by_cases hlt : y.2 < k
    · rw [if_pos hlt] at st
      exact ⟨_, st, .p2 x y r5 hy hlt⟩
    · rw [if_neg hlt, if_neg (by omega)] at st
      exact ⟨_, st, .p10 x y hx hy hxk (by omega)⟩
  | p2 x y r5 hy hyk =>
    have hyn := h.lk.mem y hy
    have st := s2 (m := m) (K := K) (k := k) (c := c) (t := t) (r5 := r5) (r6 := 0) (r7 := 0) (a := x.1) (b := y.1) hl hK' hyn.1
    obtain ⟨P1, z, R, hP, hz⟩ := h.next hy (by show y.2 < (1099511627777 : Int); omega)
    rw [hz] at st
    exact ⟨_, st, .p1 y z r5 hy (by rw [hP]; simp) hyk⟩
  | p10 x y hx hy hxk hyk => simp [wkr] at hpc
/-- It goes on, and ends. -/
theorem Stale.go {Q0 : List Node} (o : Op n Q K k t c) (p : Pl Q k L1 L2 A a b D) (hold : ∀ x ∈ pathOf Q0, Old n Q x) {w : Wk} (hw : Stale Q0 K k t c w) : Fin n Q a b c K k t n w 3000 := by
  cases hw with
  | p0 => obtain ⟨w', Q2, s, h1, h2⟩ := o.fresh_run p 0 0 0 0 0; exact ⟨w', Q2, s, by omega, h2⟩
  | p1 x y r5 hx hy hk => exact o.resume1 p (hold x hx) (hold y hy) hk r5 0 0
  | p2 x y r5 hy hk => exact o.resume2 p (hold y hy) hk r5 0 0
  | p10 x y hx hy hk hy2 => obtain ⟨w', Q2, s, h1, h2⟩ := o.resume10 p (hold x hx) (hold y hy) hk hy2 0 0; exact ⟨w', Q2, s, by omega, h2⟩
end
end Go.Proofs.Ytnomicnfgdjdeaa.Ab
