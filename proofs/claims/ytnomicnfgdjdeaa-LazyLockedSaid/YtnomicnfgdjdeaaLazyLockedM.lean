/- A worker alone where a lock that it wants is taken: it does not end, and changes no key; then it does what it would have done. In plain Lean. No condition. -/
import Derived.Test.YtnomicnfgdjdeaaLazyAnewM
namespace Go.Proofs.Ytnomicnfgdjdeaa.Ab
open Go.RowKit
section
variable {m : List Int} {Q : List Node} {K k t : Int} {c : Nat} {L1 L2 A : List Node} {a b : Node} {D : List Node} {node : Nat}
/-- Where it may be, while the lock is taken. -/
inductive Stuck (m : List Int) (Q : List Node) (K k t : Int) (c : Nat) (a b : Node) (node : Nat) : List Int → Wk → Prop
  | i0 (r1 r2 r5 r7 : Int) : Stuck m Q K k t c a b node (setW m node 2 33) (wkr K k c t 0 r1 r2 r5 0 r7)
  | i1 (u v : Node) (P1 R : List Node) (r5 r7 : Int) (hP : pathOf Q = P1 ++ u :: v :: R) (hu : u.2 < k) : Stuck m Q K k t c a b node (setW m node 2 33) (wkr K k c t 1 u.1 v.1 r5 0 r7)
  | i2 (u v : Node) (P1 R : List Node) (r5 r7 : Int) (hP : pathOf Q = P1 ++ u :: v :: R) (hv : v.2 < k) : Stuck m Q K k t c a b node (setW m node 2 33) (wkr K k c t 2 u.1 v.1 r5 0 r7)
  | i10 (r7 : Int) : Stuck m Q K k t c a b node (setW m node 2 33) (wkr K k c t 10 a.1 b.1 b.2 0 r7)
  | i11 (r7 : Int) (hn : node = b.1) : Stuck m Q K k t c a b node (setW (setW m node 2 33) a.1 2 t) (wkr K k c t 11 a.1 b.1 b.2 0 r7)
  | i21 (hn : node = b.1) : Stuck m Q K k t c a b node (setW (setW m node 2 33) a.1 2 t) (wkr K k c t 21 a.1 b.1 b.2 0 (-1))
theorem Stuck.notdone {M : List Int} {w : Wk} (h : Stuck m Q K k t c a b node M w) : w.done = false := by cases h <;> rfl
theorem W_lock (m : List Int) (n : Nat) (x : Int) {i j : Nat} (hj : j < 4) (h2 : j ≠ 2) : W (setW m n 2 x) i j = W m i j := W_other _ _ _ _ hj (by omega) (by omega)
theorem Stuck.words {M : List Int} {w : Wk} (h : Stuck m Q K k t c a b node M w) : M.length = m.length ∧ ∀ i j, j < 4 → j ≠ 2 → W M i j = W m i j := by
  cases h with
  | i11 r7 hn => exact ⟨by rw [setW_len, setW_len], fun i j h1 h2 => by rw [W_lock _ _ _ h1 h2, W_lock _ _ _ h1 h2]⟩
  | i21 hn => exact ⟨by rw [setW_len, setW_len], fun i j h1 h2 => by rw [W_lock _ _ _ h1 h2, W_lock _ _ _ h1 h2]⟩
  | _ => exact ⟨by rw [setW_len], fun i j h1 h2 => by rw [W_lock _ _ _ h1 h2]⟩
theorem Stuck.pa (o : Op m Q K k t c) {M : List Int} {w : Wk} (h : Stuck m Q K k t c a b node M w) : Pa M Q := by
  obtain ⟨h1, h2⟩ := h.words
  exact ⟨by rw [h1]; exact o.ch.len, by rw [h1]; exact o.ch.four, Lk.congr h1 (fun x _ => ⟨h2 _ _ (by omega) (by omega), h2 _ _ (by omega) (by omega), h2 _ _ (by omega) (by omega)⟩) o.ch.lk, by rw [h2 _ _ (by omega) (by omega)]; exact o.ch.last, o.ch.nodup, by rw [h1]; exact o.ch.many⟩
theorem Stuck.lock (h : Ch m Q) (p : Pl Q k L1 L2 A a b D) (hn : 4 * node + 3 < m.length) {M : List Int} {w : Wk} (hS : Stuck m Q K k t c a b node M w) : W M node 2 = 33 := by
  have hne := (h.ne p).1
  cases hS with
  | i11 r7 e => rw [W_other _ _ _ _ (by omega) (by omega) (by omega), W_same _ _ _ _ (by omega) (by omega)]
  | i21 e => rw [W_other _ _ _ _ (by omega) (by omega) (by omega), W_same _ _ _ _ (by omega) (by omega)]
  | _ => rw [W_same _ _ _ _ (by omega) (by omega)]
theorem Stuck.step (o : Op m Q K k t c) (p : Pl Q k L1 L2 A a b D) (hnode : node = a.1 ∨ node = b.1) {M : List Int} {w : Wk} (h : Stuck m Q K k t c a b node M w) : ∃ M1 w1, stepS M w = (M1, w1, 0) ∧ Stuck m Q K k t c a b node M1 w1 := by
  have hK' : 1 ≤ K ∧ K ≤ 3 := by have := o.kind; omega
  have hk := o.key
  have hlm := o.ch.len
  have hmany := o.ch.many
  obtain ⟨p1, p2, na, nb, nx⟩ := o.ch.parts p
  have hne := (o.ch.ne p).1
  have hl : (setW m node 2 33).length ≤ 50000 := by rw [setW_len]; omega
  have hal := na.1
  have hbl := nb.1
  have hnl : 4 * node + 3 < m.length := by rcases hnode with e | e <;> omega
  cases h with
  | i0 r1 r2 r5 r7 =>
    obtain ⟨P1, z, R, hP, hz⟩ := o.ch.next (y := (0, -Big)) (by simp [pathOf]) (by show -(1099511627777 : Int) < 1099511627777; omega)
    have st := s0 (m := setW m node 2 33) (K := K) (k := k) (c := c) (t := t) (r5 := r5) (r6 := 0) (r7 := r7) hl hK' (by rw [setW_len]; omega) r1 r2
    rw [W_lock _ _ _ (by omega) (by omega), show W m 0 1 = (z.1 : Int) from hz] at st
    exact ⟨_, _, st, .i1 (0, -Big) z P1 R r5 r7 hP (by show -(1099511627777 : Int) < k; omega)⟩
  | i1 u v P1 R r5 r7 hP hu =>
    have hvn := o.ch.lk.mem v (by rw [hP]; simp)
    have st := s1 (m := setW m node 2 33) (K := K) (k := k) (c := c) (t := t) (r5 := r5) (r6 := 0) (r7 := r7) (a := u.1) (b := v.1) hl hK' (by rw [setW_len]; exact hvn.1)
    rw [W_lock _ _ _ (by omega) (by omega), hvn.2.1] at st
    by_cases hlt : v.2 < k
    · rw [if_pos hlt] at st
      exact ⟨_, _, st, .i2 u v P1 R r5 r7 hP hlt⟩
    · rw [if_neg hlt, if_neg (by have := o.kind; omega)] at st
      have hs := o.ch.sorted
      rw [hP] at hs
      have hlo : ∀ z ∈ P1 ++ [u], z.2 < k := by
        intro z hz
        rcases List.mem_append.1 hz with hz | hz
        · rw [List.pairwise_append] at hs
          have := hs.2.2 z hz u (by simp)
          omega
        · simp only [List.mem_cons, List.not_mem_nil, or_false] at hz
          rw [hz]; exact hu
      obtain ⟨L1', L2', p'⟩ := pl_of hP hlo (by omega)
      obtain ⟨rfl, rfl⟩ := p.unique p'
      exact ⟨_, _, st, .i10 r7⟩
  | i2 u v P1 R r5 r7 hP hv =>
    have hvp : v ∈ pathOf Q := by rw [hP]; simp
    have hvn := o.ch.lk.mem v hvp
    obtain ⟨P2, z, R2, hP2, hz⟩ := o.ch.next hvp (by show v.2 < (1099511627777 : Int); omega)
    have st := s2 (m := setW m node 2 33) (K := K) (k := k) (c := c) (t := t) (r5 := r5) (r6 := 0) (r7 := r7) (a := u.1) (b := v.1) hl hK' (by rw [setW_len]; exact hvn.1)
    rw [W_lock _ _ _ (by omega) (by omega), hz] at st
    exact ⟨_, _, st, .i1 v z P2 R2 r5 r7 hP2 hv⟩
  | i10 r7 =>
    rcases hnode with e | e
    · have st := s10f (m := setW m node 2 33) (K := K) (k := k) (c := c) (t := t) (r5 := b.2) (r6 := 0) (r7 := r7) (a := a.1) (b := b.1) hl o.kind (by rw [setW_len]; exact na.1) (by rw [e, W_same _ _ _ _ (by omega) (by omega)]; omega)
      exact ⟨_, _, st, .i0 _ _ _ _⟩
    · have st := s10 (m := setW m node 2 33) (K := K) (k := k) (c := c) (t := t) (r5 := b.2) (r6 := 0) (r7 := r7) (a := a.1) (b := b.1) hl o.kind (by rw [setW_len]; exact na.1) o.ok (by rw [W_other _ _ _ _ (by omega) (by omega) (by omega)]; exact o.ch.free a.1)
      exact ⟨_, _, st, .i11 r7 e⟩
  | i11 r7 e =>
    have st := s11f (m := setW (setW m node 2 33) a.1 2 t) (K := K) (k := k) (c := c) (t := t) (r5 := b.2) (r6 := 0) (r7 := r7) (a := a.1) (b := b.1) (by rw [setW_len]; exact hl) o.kind (by rw [setW_len, setW_len]; exact nb.1) (by rw [e, W_other _ _ _ _ (by omega) (by omega) (by omega), W_same _ _ _ _ (by omega) (by omega)]; omega)
    exact ⟨_, _, st, .i21 e⟩
  | i21 e =>
    have st := s21 (m := setW (setW m node 2 33) a.1 2 t) (K := K) (k := k) (c := c) (t := t) (r5 := b.2) (r6 := 0) (r7 := -1) (a := a.1) (b := b.1) (by rw [setW_len]; exact hl) o.kind (by rw [setW_len, setW_len]; exact na.1)
    rw [if_pos rfl] at st
    have fin : setW (setW (setW m node 2 33) a.1 2 t) a.1 2 0 = setW m node 2 33 := by
      refine ext_getD (by simp [setW]) (fun i => ?_)
      have fa := o.ch.free a.1
      unfold W at fa
      unfold setW
      rw [getD_set _ _ _ _ (by first | omega | (simp; omega)), getD_set _ _ _ _ (by first | omega | (simp; omega)), getD_set _ _ _ _ (by first | omega | (simp; omega))]
      by_cases e1 : 4 * a.1 + 2 = i
      · rw [if_pos e1, if_neg (by omega), ← e1, fa]
      · rw [if_neg e1, if_neg e1]
    rw [fin] at st
    exact ⟨_, _, st, .i0 _ _ _ _⟩
/-- When the lock is given back. -/
theorem Stuck.go (o : Op m Q K k t c) (p : Pl Q k L1 L2 A a b D) (hnode : node = a.1 ∨ node = b.1) {M : List Int} {w : Wk} (h : Stuck m Q K k t c a b node M w) : Fin m Q a b c K k t (setW M node 2 0) w 3000 := by
  have hlm := o.ch.len
  obtain ⟨p1, p2, na, nb, nx⟩ := o.ch.parts p
  have hne := (o.ch.ne p).1
  have hal := na.1
  have hbl := nb.1
  have hnl : 4 * node + 3 < m.length := by rcases hnode with e | e <;> omega
  have hl : m.length ≤ 50000 := by omega
  have back : setW (setW m node 2 33) node 2 0 = m := by
    refine ext_getD (by simp [setW]) (fun i => ?_)
    have fa := o.ch.free node
    unfold W at fa
    unfold setW
    rw [getD_set _ _ _ _ (by first | omega | (simp; omega)), getD_set _ _ _ _ (by first | omega | (simp; omega))]
    by_cases e1 : 4 * node + 2 = i
    · rw [if_pos e1, ← e1, fa]
    · rw [if_neg e1, if_neg e1]
  have back2 : node = b.1 → setW (setW (setW m node 2 33) a.1 2 t) node 2 0 = setW m a.1 2 t := by
    intro e
    refine ext_getD (by simp [setW]) (fun i => ?_)
    have fa := o.ch.free node
    unfold W at fa
    unfold setW
    rw [getD_set _ _ _ _ (by first | omega | (simp; omega)), getD_set _ _ _ _ (by first | omega | (simp; omega)), getD_set _ _ _ _ (by first | omega | (simp; omega)), getD_set _ _ _ _ (by first | omega | (simp; omega))]
    by_cases e1 : 4 * node + 2 = i
    · rw [if_pos e1, if_neg (by omega), ← e1, fa]
    · rw [if_neg e1, if_neg e1]
  have weak : ∀ {M : List Int} {w : Wk} {N : Nat}, N ≤ 3000 → Fin m Q a b c K k t M w N → Fin m Q a b c K k t M w 3000 := by
    rintro M w N hN ⟨w', Q2, s, h1, h2⟩
    exact ⟨w', Q2, s, by omega, h2⟩
  cases h with
  | i0 r1 r2 r5 r7 => rw [back]; exact weak (by omega) (o.fresh_run p r1 r2 r5 0 r7)
  | i1 u v P1 R r5 r7 hP hu => rw [back]; exact weak (by omega) (o.tail1 p hP hu r5 0 r7)
  | i2 u v P1 R r5 r7 hP hv => rw [back]; exact o.resume2 p (o.ch.old (by rw [hP]; simp)) hv r5 0 r7
  | i10 r7 => rw [back]; exact weak (by omega) (o.tail10 p 0 r7)
  | i11 r7 e =>
    rw [back2 e]
    obtain ⟨w', Q2, s, h1, h2, h3, h4⟩ := o.tail10 p 0 r7
    have st := s10 (K := K) (k := k) (c := c) (t := t) (r5 := b.2) (r6 := 0) (r7 := r7) (a := a.1) (b := b.1) hl o.kind na.1 o.ok (o.ch.free a.1)
    obtain ⟨i, e2, r⟩ := (Run.one (G := fun _ _ _ _ => True) rfl st trivial).det h2 h3
    exact ⟨w', Q2, i, by omega, r, h3, h4⟩
  | i21 e =>
    rw [back2 e]
    have st := s21 (m := setW m a.1 2 t) (K := K) (k := k) (c := c) (t := t) (r5 := b.2) (r6 := 0) (r7 := -1) (a := a.1) (b := b.1) (by rw [setW_len]; exact hl) o.kind (by rw [setW_len]; exact na.1)
    rw [if_pos rfl] at st
    have fin : setW (setW m a.1 2 t) a.1 2 0 = m := by
      refine ext_getD (by simp [setW]) (fun i => ?_)
      have fa := o.ch.free a.1
      unfold W at fa
      unfold setW
      rw [getD_set _ _ _ _ (by first | omega | (simp; omega)), getD_set _ _ _ _ (by first | omega | (simp; omega))]
      by_cases e1 : 4 * a.1 + 2 = i
      · rw [if_pos e1, ← e1, fa]
      · rw [if_neg e1, if_neg e1]
    rw [fin] at st
    exact weak (by omega) ((o.fresh_run p a.1 b.1 b.2 0 (-1)).before (G := fun _ _ _ _ => True) (Run.one rfl st trivial))
end
end Go.Proofs.Ytnomicnfgdjdeaa.Ab
