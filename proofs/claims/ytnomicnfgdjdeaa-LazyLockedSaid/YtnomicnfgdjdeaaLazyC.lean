/- What one worker alone makes of a chain: what a set makes of its keys. In plain Lean. No condition. -/
import Derived.Test.YtnomicnfgdjdeaaLazyN
namespace Go.Proofs.Ytnomicnfgdjdeaa.Ab
open Go.RowKit

theorem Lk.congr1 {m m' : List Int} (hl : m'.length = m.length) : ∀ {P : List Node} {z : Node}, (∀ x ∈ P, W m' x.1 0 = W m x.1 0 ∧ W m' x.1 1 = W m x.1 1 ∧ W m' x.1 3 = W m x.1 3) → W m' z.1 0 = W m z.1 0 ∧ W m' z.1 3 = W m z.1 3 → Lk m (P ++ [z]) → Lk m' (P ++ [z])
  | [], z, _, hz, h => by
    simp only [List.nil_append, Lk, Nd] at h ⊢
    rw [hl, hz.1, hz.2]; exact h
  | [x], z, hx, hz, h => by
    obtain ⟨h1, h2, h3⟩ := hx x (by simp)
    simp only [List.cons_append, List.nil_append, Lk, Nd] at h ⊢
    rw [hl, h1, h2, h3, hz.1, hz.2]; exact h
  | x :: y :: P, z, hx, hz, h => by
    obtain ⟨h1, h2, h3⟩ := hx x (by simp)
    have ih := Lk.congr1 hl (P := y :: P) (z := z) (fun u hu => hx u (by simp [hu])) hz
    simp only [List.cons_append, Lk, Nd] at h ih ⊢
    rw [hl, h1, h2, h3]
    exact ⟨h.1, h.2.1, ih h.2.2⟩
/-- Where a key's place is. -/
structure Pl (Q : List Node) (k : Int) (L1 L2 A : List Node) (a b : Node) (D : List Node) : Prop where
  q : Q = L1 ++ L2
  l1 : (0, -Big) :: L1 = A ++ [a]
  l2 : L2 ++ [(1, Big)] = b :: D
  lo : ∀ z ∈ A ++ [a], z.2 < k
  hi : k ≤ b.2
theorem Pl.path {Q : List Node} {k : Int} {L1 L2 A : List Node} {a b : Node} {D : List Node} (h : Pl Q k L1 L2 A a b D) : pathOf Q = A ++ a :: b :: D := by
  have : pathOf Q = ((0, -Big) :: L1) ++ (L2 ++ [(1, Big)]) := by simp [pathOf, h.q]
  rw [this, h.l1, h.l2]; simp
theorem pl_of {Q : List Node} {k : Int} {A : List Node} {a b : Node} {D : List Node} (h : pathOf Q = A ++ a :: b :: D) (lo : ∀ z ∈ A ++ [a], z.2 < k) (hi : k ≤ b.2) : ∃ L1 L2, Pl Q k L1 L2 A a b D := by
  have e1 : ∃ L1, (0, -Big) :: L1 = A ++ [a] := by
    cases A with
    | nil =>
      simp only [pathOf, List.nil_append, List.cons.injEq] at h
      exact ⟨[], by rw [← h.1]; rfl⟩
    | cons x A =>
      simp only [pathOf, List.cons_append, List.cons.injEq] at h
      exact ⟨A ++ [a], by rw [← h.1]; rfl⟩
  obtain ⟨L1, e1⟩ := e1
  have hne : b :: D ≠ [] := by simp
  have e2 : (b :: D).dropLast ++ [(b :: D).getLast hne] = b :: D := List.dropLast_concat_getLast hne
  have h' : (0, -Big) :: (Q ++ [(1, Big)]) = ((0, -Big) :: L1) ++ ((b :: D).dropLast ++ [(b :: D).getLast hne]) := by rw [e1, e2]; simpa using h
  have h2 : Q ++ [(1, Big)] = (L1 ++ (b :: D).dropLast) ++ [(b :: D).getLast hne] := by
    simp only [List.cons_append, List.cons.injEq, true_and] at h'
    rw [h']; simp
  have h3 := List.append_inj' h2 rfl
  refine ⟨L1, (b :: D).dropLast, h3.1, e1, ?_, lo, hi⟩
  have h4 : (1, Big) = (b :: D).getLast hne := by simpa using h3.2
  rw [h4]; exact e2
section
variable {m : List Int} {Q : List Node} {k : Int} {L1 L2 A : List Node} {a b : Node} {D : List Node}
theorem Ch.parts (h : Ch m Q) (p : Pl Q k L1 L2 A a b D) : Lk m (A ++ [a]) ∧ Lk m (a :: b :: D) ∧ Nd m a ∧ Nd m b ∧ W m a.1 1 = b.1 := by
  have hL := h.lk
  rw [p.path, Lk.split] at hL
  exact ⟨hL.1, hL.2, hL.2.1, hL.2.2.2.head, hL.2.2.1⟩
theorem Ch.ne (h : Ch m Q) (p : Pl Q k L1 L2 A a b D) : a.1 ≠ b.1 ∧ (∀ x ∈ A, x.1 ≠ a.1) ∧ (∀ x ∈ A, x.1 ≠ b.1) ∧ (∀ x ∈ D, x.1 ≠ a.1) ∧ (∀ x ∈ D, x.1 ≠ b.1) := by
  have hn := h.nodup
  rw [p.path, List.map_append, List.nodup_append] at hn
  obtain ⟨_, n2, n3⟩ := hn
  simp only [List.map_cons, List.nodup_cons, List.mem_cons, not_or, List.mem_map, not_exists, not_and] at n2
  refine ⟨n2.1.1, fun x hx e => ?_, fun x hx e => ?_, fun x hx e => n2.1.2 x hx e, fun x hx e => n2.2.1 x hx e⟩
  · exact n3 x.1 (List.mem_map_of_mem hx) a.1 (by simp) e
  · exact n3 x.1 (List.mem_map_of_mem hx) b.1 (by simp) e
theorem Pl.amem (p : Pl Q k L1 L2 A a b D) : a ∈ pathOf Q := by rw [p.path]; simp
theorem Pl.bmem (p : Pl Q k L1 L2 A a b D) : b ∈ pathOf Q := by rw [p.path]; simp
theorem Pl.tail_mem (p : Pl Q k L1 L2 A a b D) : (1, Big) ∈ b :: D := by rw [← p.l2]; simp
theorem Ch.a_ne_tail (h : Ch m Q) (p : Pl Q k L1 L2 A a b D) : a.1 ≠ 1 := by
  intro e
  obtain ⟨n1, _, _, n4, _⟩ := h.ne p
  rcases List.mem_cons.1 p.tail_mem with h1 | h1
  · exact n1 (by rw [e, ← h1])
  · exact n4 _ h1 e.symm
theorem Ch.insert (h : Ch m Q) (p : Pl Q k L1 L2 A a b D) {c : Nat} (hb : b.2 ≠ k) (lc : 4 * c + 3 < m.length) (hc : ∀ x ∈ pathOf Q, x.1 ≠ c) (hd : W m c 3 = 0) (hmany : Q.length + 3 ≤ m.length / 4) :
    Ch (insM m a.1 b.1 c k) (L1 ++ (c, k) :: L2) := by
  obtain ⟨p1, p2, na, nb, nx⟩ := h.parts p
  obtain ⟨n1, n2, n3, n4, n5⟩ := h.ne p
  have hca : c ≠ a.1 := fun e => hc a p.amem e.symm
  have hcb : c ≠ b.1 := fun e => hc b p.bmem e.symm
  have hlen : (insM m a.1 b.1 c k).length = m.length := by simp [insM, setW]
  have wo : ∀ n j, j < 4 → ¬ (n = c ∧ (j = 0 ∨ j = 1)) → ¬ (n = a.1 ∧ j = 1) → W (insM m a.1 b.1 c k) n j = W m n j := by
    intro n j hj h1 h2
    unfold insM
    rw [W_other _ _ _ _ hj (by omega) (by omega), W_other _ _ _ _ hj (by omega) (by omega), W_other _ _ _ _ hj (by omega) (by omega)]
  have wc0 : W (insM m a.1 b.1 c k) c 0 = k := by
    unfold insM
    rw [W_other _ _ _ _ (by omega) (by omega) (by omega), W_other _ _ _ _ (by omega) (by omega) (by omega), W_same _ _ _ _ (by omega) (by omega)]
  have wc1 : W (insM m a.1 b.1 c k) c 1 = b.1 := by
    unfold insM
    rw [W_other _ _ _ _ (by omega) (by omega) (by omega), W_same _ _ _ _ (by omega) (by rw [setW_len]; omega)]
  have wa1 : W (insM m a.1 b.1 c k) a.1 1 = c := by
    unfold insM
    have := na.1
    rw [W_same _ _ _ _ (by omega) (by rw [setW_len, setW_len]; omega)]
  have hpath : pathOf (L1 ++ (c, k) :: L2) = A ++ a :: (c, k) :: b :: D := by
    have : pathOf (L1 ++ (c, k) :: L2) = ((0, -Big) :: L1) ++ (c, k) :: (L2 ++ [(1, Big)]) := by simp [pathOf]
    rw [this, p.l1, p.l2]; simp
  have hbd : ∀ x ∈ b :: D, x.1 ≠ c ∧ x.1 ≠ a.1 := by
    intro x hx
    refine ⟨hc x (by rw [p.path]; simp at hx ⊢; rcases hx with rfl | hx <;> simp [*]), ?_⟩
    rcases List.mem_cons.1 hx with rfl | hx
    · exact Ne.symm n1
    · exact n4 x hx
  have hAc : ∀ x ∈ A, x.1 ≠ c := fun x hx => hc x (by rw [p.path]; simp [hx])
  have nda : Nd (insM m a.1 b.1 c k) a := by
    unfold Nd
    rw [hlen, wo a.1 0 (by omega) (by omega) (by omega), wo a.1 3 (by omega) (by omega) (by omega)]
    exact na
  have ndc : Nd (insM m a.1 b.1 c k) (c, k) := by
    unfold Nd
    simp only
    rw [hlen, wc0, wo c 3 (by omega) (by omega) (by omega)]
    exact ⟨lc, rfl, hd⟩
  refine ⟨by rw [hlen]; exact h.len, by rw [hlen]; exact h.four, ?_, ?_, ?_, ?_, fun n => ?_, ?_⟩
  · rw [hpath, Lk.split]
    refine ⟨Lk.congr1 hlen (fun x hx => ?_) ⟨wo a.1 0 (by omega) (by omega) (by omega), wo a.1 3 (by omega) (by omega) (by omega)⟩ p1, nda, wa1, ndc, wc1, ?_⟩
    · have e1 := n2 x hx
      have e2 := hAc x hx
      exact ⟨wo _ _ (by omega) (by omega) (by omega), wo _ _ (by omega) (by omega) (by omega), wo _ _ (by omega) (by omega) (by omega)⟩
    · refine Lk.congr hlen (fun x hx => ?_) p2.2.2
      obtain ⟨e1, e2⟩ := hbd x hx
      exact ⟨wo _ _ (by omega) (by omega) (by omega), wo _ _ (by omega) (by omega) (by omega), wo _ _ (by omega) (by omega) (by omega)⟩
  · have := h.a_ne_tail p
    have hc1 : (1 : Nat) ≠ c := hc (1, Big) (by simp [pathOf])
    rw [wo 1 1 (by omega) (by omega) (by omega)]
    exact h.last
  · have hn := h.nodup
    rw [p.path] at hn
    rw [hpath]
    have e : ((A ++ a :: (c, k) :: b :: D).map fun x : Node => x.1).Perm (c :: ((A ++ a :: b :: D).map fun x : Node => x.1)) := by
      have : A ++ a :: (c, k) :: b :: D = (A ++ [a]) ++ (c, k) :: (b :: D) := by simp
      rw [this, List.map_append, List.map_cons]
      refine List.perm_middle.trans ?_
      simp
    rw [e.nodup_iff, List.nodup_cons]
    refine ⟨fun hmem => ?_, hn⟩
    obtain ⟨x, hx, hxc⟩ := List.mem_map.1 hmem
    exact hc x (by rw [p.path]; exact hx) hxc
  · have hs := h.sorted
    rw [p.path] at hs
    rw [hpath]
    have e1 : A ++ a :: b :: D = (A ++ [a]) ++ (b :: D) := by simp
    have e2 : A ++ a :: (c, k) :: b :: D = (A ++ [a]) ++ (c, k) :: (b :: D) := by simp
    rw [e1, List.pairwise_append] at hs
    rw [e2, List.pairwise_append, List.pairwise_cons]
    obtain ⟨h1, h2, h3⟩ := hs
    have hbk : ∀ x ∈ b :: D, k < x.2 := by
      have := p.hi
      intro x hx
      rcases List.mem_cons.1 hx with rfl | hx
      · omega
      · have := (List.pairwise_cons.1 h2).1 x hx; omega
    refine ⟨h1, ⟨hbk, h2⟩, fun x hx y hy => ?_⟩
    rcases List.mem_cons.1 hy with rfl | hy
    · exact p.lo x hx
    · exact h3 x hx y hy
  · rw [wo n 2 (by omega) (by omega) (by omega)]; exact h.free n
  · have := congrArg List.length p.q
    simp only [List.length_append, List.length_cons] at this ⊢
    rw [hlen]; omega
theorem Ch.delete (h : Ch m Q) (p : Pl Q k L1 L2 A a b D) (hb : b.2 = k) (hk : k < Big) : ∃ L3, L2 = b :: L3 ∧ D = L3 ++ [(1, Big)] ∧ (∃ d D', D = d :: D' ∧ W m b.1 1 = (d.1 : Int)) ∧ Ch (delM m a.1 b.1) (L1 ++ L3) := by
  obtain ⟨p1, p2, na, nb, nx⟩ := h.parts p
  obtain ⟨n1, n2, n3, n4, n5⟩ := h.ne p
  have hl2 := p.l2
  obtain ⟨L3, e3, eD⟩ : ∃ L3, L2 = b :: L3 ∧ D = L3 ++ [(1, Big)] := by
    cases hL : L2 with
    | nil =>
      rw [hL] at hl2
      simp only [List.nil_append, List.cons.injEq] at hl2
      exfalso
      rw [← hl2.1] at hb
      simp only at hb
      omega
    | cons x L3 =>
      rw [hL] at hl2
      simp only [List.cons_append, List.cons.injEq] at hl2
      exact ⟨L3, by rw [hl2.1], hl2.2.symm⟩
  obtain ⟨d, D', eD'⟩ : ∃ d D', D = d :: D' := by
    cases D with
    | nil => simp at eD
    | cons d D' => exact ⟨d, D', rfl⟩
  have hbn : W m b.1 1 = d.1 := by
    have := p2.2.2
    rw [eD'] at this
    exact this.2.1
  refine ⟨L3, e3, eD, ⟨d, D', eD', hbn⟩, ?_⟩
  have hlen : (delM m a.1 b.1).length = m.length := by simp [delM, setW]
  have wo : ∀ n j, j < 4 → ¬ (n = b.1 ∧ j = 3) → ¬ (n = a.1 ∧ j = 1) → W (delM m a.1 b.1) n j = W m n j := by
    intro n j hj h1 h2
    unfold delM
    rw [W_other _ _ _ _ hj (by omega) (by omega), W_other _ _ _ _ hj (by omega) (by omega)]
  have wa1 : W (delM m a.1 b.1) a.1 1 = d.1 := by
    unfold delM
    have := na.1
    rw [W_same _ _ _ _ (by omega) (by rw [setW_len]; omega), hbn]
  have hpath : pathOf (L1 ++ L3) = A ++ a :: D := by
    have : pathOf (L1 ++ L3) = ((0, -Big) :: L1) ++ (L3 ++ [(1, Big)]) := by simp [pathOf]
    rw [this, p.l1, ← eD]; simp
  have nda : Nd (delM m a.1 b.1) a := by
    unfold Nd
    rw [hlen, wo a.1 0 (by omega) (by omega) (by omega), wo a.1 3 (by omega) (by omega) (by omega)]
    exact na
  have hsub : (A ++ a :: D).Sublist (A ++ a :: b :: D) := List.Sublist.append (List.Sublist.refl _) ((List.sublist_cons_self b D).cons_cons a)
  refine ⟨by rw [hlen]; exact h.len, by rw [hlen]; exact h.four, ?_, ?_, ?_, ?_, fun n => ?_, ?_⟩
  · rw [hpath, Lk.split]
    refine ⟨Lk.congr1 hlen (fun x hx => ?_) ⟨wo a.1 0 (by omega) (by omega) (by omega), wo a.1 3 (by omega) (by omega) (by omega)⟩ p1, ?_⟩
    · have e1 := n2 x hx
      have e2 := n3 x hx
      exact ⟨wo _ _ (by omega) (by omega) (by omega), wo _ _ (by omega) (by omega) (by omega), wo _ _ (by omega) (by omega) (by omega)⟩
    · have hD : Lk (delM m a.1 b.1) D := by
        refine Lk.congr hlen (fun x hx => ?_) p2.2.2.tail
        have e1 := n4 x hx
        have e2 := n5 x hx
        exact ⟨wo _ _ (by omega) (by omega) (by omega), wo _ _ (by omega) (by omega) (by omega), wo _ _ (by omega) (by omega) (by omega)⟩
      rw [eD'] at hD ⊢
      exact ⟨nda, wa1, hD⟩
  · have := h.a_ne_tail p
    rw [wo 1 1 (by omega) (by omega) (by omega)]
    exact h.last
  · have hn := h.nodup
    rw [p.path] at hn
    rw [hpath]
    exact (hsub.map _).nodup hn
  · have hs := h.sorted
    rw [p.path] at hs
    rw [hpath]
    exact hs.sublist hsub
  · rw [wo n 2 (by omega) (by omega) (by omega)]; exact h.free n
  · have := congrArg List.length p.q
    have h' := h.many
    rw [e3] at this
    simp only [List.length_append, List.length_cons] at this ⊢
    rw [hlen]; omega
end
end Go.Proofs.Ytnomicnfgdjdeaa.Ab
