/- One operation by one worker alone, from its beginning on: what it comes to, and in how many steps. In plain Lean. No condition. -/
import Derived.Test.YtnomicnfgdjdeaaLazyC
namespace Go.Proofs.Ytnomicnfgdjdeaa.Ab
open Go.RowKit

def finM (m : List Int) (a b : Node) (c : Nat) (K k : Int) : List Int := if K = 1 ∧ b.2 ≠ k then insM m a.1 b.1 c k else if K = 2 ∧ b.2 = k then delM m a.1 b.1 else m
def stepsN (s : List Int) (K k : Int) : Nat := 2 * (s.filter (fun x => decide (x < k))).length + (if K = 3 then 3 else if (K = 1 ∧ k ∈ s) ∨ (K = 2 ∧ k ∉ s) then 9 else 12)
def kys (Q : List Node) : List Int := Q.map (fun x : Node => x.2)
theorem kys_app (P Q : List Node) : kys (P ++ Q) = kys P ++ kys Q := by simp [kys]
theorem kys_cons (x : Node) (Q : List Node) : kys (x :: Q) = x.2 :: kys Q := rfl
theorem mem_kys {x : Int} {Q : List Node} (h : x ∈ kys Q) : ∃ y ∈ Q, y.2 = x := List.mem_map.1 h
theorem kys_len (Q : List Node) : (kys Q).length = Q.length := by simp [kys]
theorem split_while {k : Int} {A : List Node} {a b : Node} {D : List Node} (h1 : ∀ z ∈ A ++ [a], z.2 < k) (h2 : k ≤ b.2) : (A ++ a :: b :: D).takeWhile (fun z => decide (z.2 < k)) = A ++ [a] ∧ (A ++ a :: b :: D).dropWhile (fun z => decide (z.2 < k)) = b :: D := by
  have : A ++ a :: b :: D = (A ++ [a]) ++ (b :: D) := by simp
  rw [this, List.takeWhile_append_of_pos (fun z hz => by simpa using h1 z hz), List.dropWhile_append_of_pos (fun z hz => by simpa using h1 z hz)]
  rw [List.takeWhile_cons, List.dropWhile_cons]
  have h3 : ¬ b.2 < k := by omega
  simp [h3]
theorem insR_split (k : Int) : ∀ (u v : List Int), (∀ x ∈ u, x < k) → (∀ x ∈ v, k < x) → insR k (u ++ v) = u ++ k :: v
  | [], [], _, _ => rfl
  | [], y :: v, _, h => by simp [insR, h y (by simp)]
  | x :: u, v, h, h2 => by
    have hx := h x (by simp)
    have ih := insR_split k u v (fun y hy => h y (by simp [hy])) h2
    simp only [List.cons_append, insR]
    rw [if_neg (by omega), ih]
theorem filter_lt_split (k : Int) (u v : List Int) (hu : ∀ x ∈ u, x < k) (hv : ∀ x ∈ v, k ≤ x) : (u ++ v).filter (fun x => decide (x < k)) = u := by
  rw [List.filter_append, List.filter_eq_self.2 (fun x hx => by simpa using hu x hx), List.filter_eq_nil_iff.2 (fun x hx => by have := hv x hx; simp; omega)]
  simp
section
variable {m : List Int} {Q : List Node} {k : Int} {L1 L2 A : List Node} {a b : Node} {D : List Node}
theorem Pl.lo1 (p : Pl Q k L1 L2 A a b D) : ∀ x ∈ kys L1, x < k := by
  intro x hx
  obtain ⟨y, hy, rfl⟩ := mem_kys hx
  exact p.lo y (by rw [← p.l1]; simp [hy])
theorem Pl.hi2 (p : Pl Q k L1 L2 A a b D) (h : Ch m Q) : ∀ x ∈ kys L2, k ≤ x ∧ (x = k → b.2 = k) := by
  have hs := h.sorted
  rw [p.path, show A ++ a :: b :: D = (A ++ [a]) ++ (b :: D) by simp, List.pairwise_append] at hs
  intro x hx
  obtain ⟨y, hy, rfl⟩ := mem_kys hx
  have hm : y ∈ b :: D := by rw [← p.l2]; simp [hy]
  have hi := p.hi
  rcases List.mem_cons.1 hm with rfl | hm
  · exact ⟨hi, fun e => e⟩
  · have := (List.pairwise_cons.1 hs.2.1).1 y hm
    exact ⟨by omega, fun e => by omega⟩
theorem Pl.mem_iff (p : Pl Q k L1 L2 A a b D) (h : Ch m Q) (hk : k < Big) : k ∈ kys Q ↔ b.2 = k := by
  constructor
  · intro hx
    rw [p.q, kys_app, List.mem_append] at hx
    rcases hx with hx | hx
    · have := p.lo1 k hx; omega
    · exact (p.hi2 h k hx).2 rfl
  · intro e
    obtain ⟨L3, e3, _⟩ := h.delete p e hk
    rw [p.q, e3, ← e, kys_app, kys_cons]
    simp
theorem Pl.len (p : Pl Q k L1 L2 A a b D) : L1.length = A.length := by
  have := congrArg List.length p.l1
  simpa using this
theorem Pl.passed (p : Pl Q k L1 L2 A a b D) (h : Ch m Q) : ((kys Q).filter (fun x => decide (x < k))).length = A.length := by
  rw [p.q, kys_app, filter_lt_split k _ _ p.lo1 (fun x hx => (p.hi2 h x hx).1), kys_len, p.len]
theorem Pl.unique (p : Pl Q k L1 L2 A a b D) {L1' L2' A' : List Node} {a' b' : Node} {D' : List Node} (p' : Pl Q k L1' L2' A' a' b' D') : a = a' ∧ b = b' := by
  have e := p.path.symm.trans p'.path
  have f := split_while (D := D) p.lo p.hi
  have f' := split_while (D := D') p'.lo p'.hi
  rw [e] at f
  have g1 := f.1.symm.trans f'.1
  have g2 := f.2.symm.trans f'.2
  simp only [List.cons.injEq] at g2
  have g3 := List.append_inj' g1 rfl
  exact ⟨by simpa using g3.2, g2.1⟩
theorem op_run {K t : Int} (h : Ch m Q) (hK : K = 1 ∨ K = 2 ∨ K = 3) (hk : 0 ≤ k ∧ k ≤ 20) (ht : okW t) {c : Nat} (lc : 4 * c + 3 < m.length) (hc : ∀ x ∈ pathOf Q, x.1 ≠ c) (hd : W m c 3 = 0) (hmany : Q.length + 3 ≤ m.length / 4) (r1 r2 r5 r6 r7 : Int) :
    ∃ L1 L2 A a b D, Pl Q k L1 L2 A a b D ∧ ∃ n w' Q', Run (GS t) n m (wkr K k c t 0 r1 r2 r5 r6 r7) (finM m a b c K k) w' ∧ w'.done = true ∧ w'.out = (doR (kys Q) K k).2 ∧ Ch (finM m a b c K k) Q' ∧ kys Q' = (doR (kys Q) K k).1 ∧ n = stepsN (kys Q) K k ∧
      (∀ x ∈ Q', x ∈ Q ∨ x.1 = c) ∧ Q'.length ≤ Q.length + 1 ∧ (finM m a b c K k).length = m.length ∧ (∀ i, (∀ x ∈ pathOf Q, x.1 ≠ i) → i ≠ c → W (finM m a b c K k) i 3 = W m i 3) ∧
      (∀ x ∈ pathOf Q, W (finM m a b c K k) x.1 0 = x.2 ∧ (x ∈ pathOf Q' ∨ (W (finM m a b c K k) x.1 3 ≠ 0 ∧ ∃ z ∈ pathOf Q', W (finM m a b c K k) x.1 1 = (z.1 : Int)))) := by
  have hl : m.length ≤ 50000 := by have := h.len; omega
  have hbig : k < Big := by unfold Big; omega
  -- the walk
  have hG : ∀ w w1, GS t m w m w1 := fun w w1 => gs_free h.free w w1
  have hK' : 1 ≤ K ∧ K ≤ 3 := by omega
  have hlen3 : 3 < m.length := by omega
  have t0 := s0 (m := m) (K := K) (k := k) (c := c) (t := t) (r5 := r5) (r6 := r6) (r7 := r7) hl hK' hlen3 r1 r2
  obtain ⟨y, R, hy⟩ : ∃ y R, Q ++ [(1, Big)] = y :: R := by
    cases Q with
    | nil => exact ⟨_, _, rfl⟩
    | cons x Q => exact ⟨_, _, rfl⟩
  have hL := h.lk
  have hP : pathOf Q = (0, -Big) :: y :: R := by unfold pathOf; rw [hy]
  rw [hP] at hL
  rw [hL.2.1] at t0
  obtain ⟨A, a, b, D, e1, e2, e3, e4⟩ := walk (G := GS t) (c := c) (t := t) hl hG hK' R (0, -Big) y r5 r6 r7 hL (by show -(1099511627777 : Int) < k; omega) ⟨(1, Big), by rw [← hy]; simp, by show k ≤ (1099511627777 : Int); omega⟩
  rw [← hP] at e1
  obtain ⟨L1, L2, p⟩ := pl_of e1 e2 e3
  have hmem := p.mem_iff h hbig
  have hpass := p.passed h
  obtain ⟨p1, p2, na, nb, nx⟩ := h.parts p
  obtain ⟨n1, n2, n3, n4, n5⟩ := h.ne p
  refine ⟨L1, L2, A, a, b, D, p, ?_⟩
  have r0 : Run (GS t) (2 * A.length + 2) m (wkr K k c t 0 r1 r2 r5 r6 r7) m (wkr K k c t (if K = 3 then 3 else 10) a.1 b.1 b.2 r6 r7) := by
    have := Run.step rfl t0 (hG _ _) e4
    exact this
  have cr : Crit m a.1 b.1 := ⟨na.1, nb.1, n1, h.free⟩
  have hQlen := congrArg List.length p.q
  simp only [List.length_append] at hQlen
  by_cases h3 : K = 3
  · subst h3
    have fm : finM m a b c 3 k = m := by simp [finM]
    rw [fm]
    rw [if_pos rfl] at r0
    have t3 := s3 (m := m) (k := k) (c := c) (t := t) (r5 := b.2) (r6 := r6) (r7 := r7) (a := a.1) (b := b.1) hl nb.1
    refine ⟨_, _, Q, r0.trans (Run.one rfl t3 (hG _ _)), rfl, ?_, h, ?_, ?_, fun x hx => .inl hx, by omega, rfl, fun _ _ _ => rfl, fun x hx => ⟨(h.lk.mem x hx).2.1, .inl hx⟩⟩
    · simp only [wkd, doR, nb.2.2]
      by_cases hb : b.2 = k
      · simp [hb, hmem.2 hb]
      · simp [hb, mt hmem.1 hb]
    · simp [doR]
    · simp only [stepsN, if_true, hpass]
  · rw [if_neg h3] at r0
    have hK12 : K = 1 ∨ K = 2 := by omega
    by_cases hno : (K = 1 ∧ b.2 = k) ∨ (K = 2 ∧ b.2 ≠ k)
    · have fm : finM m a b c K k = m := by
        unfold finM
        rw [if_neg (by omega), if_neg (by omega)]
      rw [fm]
      have rn := run_noop (r6 := r6) (r7 := r7) hl cr ht c na.2.2 nb.2.2 nx hno
      refine ⟨_, _, Q, r0.trans rn, rfl, ?_, h, ?_, ?_, fun x hx => .inl hx, by omega, rfl, fun _ _ _ => rfl, fun x hx => ⟨(h.lk.mem x hx).2.1, .inl hx⟩⟩
      · rcases hno with ⟨h1, h2⟩ | ⟨h1, h2⟩
        · simp [wkd, doR, h1, hmem.2 h2]
        · simp [wkd, doR, h1, mt hmem.1 h2]
      · rcases hno with ⟨h1, h2⟩ | ⟨h1, h2⟩
        · simp [doR, h1, hmem.2 h2]
        · simp [doR, h1, mt hmem.1 h2]
      · simp only [stepsN, if_neg h3, hpass]
        rw [if_pos (by rw [hmem]; exact hno)]
    · have hdo : (K = 1 ∧ b.2 ≠ k) ∨ (K = 2 ∧ b.2 = k) := by omega
      rcases hdo with ⟨rfl, hb⟩ | ⟨rfl, hb⟩
      · have fm : finM m a b c 1 k = insM m a.1 b.1 c k := by
          unfold finM
          rw [if_pos ⟨rfl, hb⟩]
        rw [fm]
        have hca : c ≠ a.1 := fun e => hc a p.amem e.symm
        have hcb : c ≠ b.1 := fun e => hc b p.bmem e.symm
        have ri := run_insert (r6 := r6) (r7 := r7) hl cr ht (by unfold okW; omega) lc hca hcb na.2.2 nb.2.2 nx hb
        refine ⟨_, _, L1 ++ (c, k) :: L2, r0.trans ri, rfl, ?_, h.insert p hb lc hc hd hmany, ?_, ?_, fun x hx => ?_, ?_, by simp [insM, setW], fun i hi hic => ?_, fun x hx => ⟨?_, .inl ?_⟩⟩
        · simp [wkd, doR, mt hmem.1 hb]
        · have : ¬ k ∈ kys Q := mt hmem.1 hb
          simp only [doR, if_true, if_neg this, insS_eq]
          rw [p.q, kys_app, kys_app, kys_cons, insR_split k _ _ p.lo1 (fun x hx => by
            have := p.hi2 h x hx
            have h5 : x ≠ k := fun e => hb (this.2 e)
            omega)]
        · simp only [stepsN, if_neg h3, hpass]
          rw [if_neg (by rw [hmem]; omega)]
        · rw [p.q]
          simp only [List.mem_append, List.mem_cons] at hx ⊢
          rcases hx with hx | rfl | hx
          · exact .inl (.inl hx)
          · exact .inr rfl
          · exact .inl (.inr hx)
        · simp only [List.length_append, List.length_cons]; omega
        · have hia := hi a p.amem
          unfold insM
          rw [W_other _ _ _ _ (by omega) (by omega) (by omega), W_other _ _ _ _ (by omega) (by omega) (by omega), W_other _ _ _ _ (by omega) (by omega) (by omega)]
        · have hxc := hc x hx
          unfold insM
          rw [W_other _ _ _ _ (by omega) (by omega) (by omega), W_other _ _ _ _ (by omega) (by omega) (by omega), W_other _ _ _ _ (by omega) (by omega) (by omega)]
          exact (h.lk.mem x hx).2.1
        · have hx' := hx
          simp only [pathOf, p.q, List.mem_cons, List.mem_append, List.not_mem_nil, or_false] at hx' ⊢
          rcases hx' with h1 | (h1 | h1) | h1
          · exact .inl h1
          · exact .inr (.inl (.inl h1))
          · exact .inr (.inl (.inr (.inr h1)))
          · exact .inr (.inr h1)
      · have fm : finM m a b c 2 k = delM m a.1 b.1 := by
          unfold finM
          rw [if_neg (by omega), if_pos ⟨rfl, hb⟩]
        rw [fm]
        obtain ⟨L3, f1, f2, ⟨d, D', f3, f4⟩, f5⟩ := h.delete p hb hbig
        have hdn : Nd m d := (h.lk).mem d (by rw [p.path, f3]; simp)
        have rd := run_delete (r6 := r6) (r7 := r7) hl cr ht (by rw [f4]; have := hdn.1; unfold okW; omega) c na.2.2 nb.2.2 nx hb
        refine ⟨_, _, L1 ++ L3, r0.trans rd, rfl, ?_, f5, ?_, ?_, fun x hx => ?_, ?_, by simp [delM, setW], fun i hi hic => ?_, fun x hx => ⟨?_, ?_⟩⟩
        · simp [wkd, doR, hmem.2 hb]
        · have hmm : k ∈ kys Q := hmem.2 hb
          simp only [doR, show ¬ (2 : Int) = 1 by omega, if_false, if_true, if_pos hmm, dropS]
          rw [p.q, f1, kys_app, kys_app, kys_cons, List.filter_append, List.filter_cons, hb]
          have hs := h.sorted
          rw [p.path, show A ++ a :: b :: D = (A ++ [a]) ++ (b :: D) by simp, List.pairwise_append] at hs
          have h3' : ∀ x ∈ L3, x.2 ≠ k := by
            intro x hx
            have := (List.pairwise_cons.1 hs.2.1).1 x (by rw [f2]; simp [hx])
            omega
          rw [List.filter_eq_self.2 (fun x hx => by have := p.lo1 x hx; simp; omega)]
          rw [List.filter_eq_self.2 (fun x hx => by
            obtain ⟨y, hy, rfl⟩ := mem_kys hx
            have := h3' y hy
            simpa using this)]
          simp
        · simp only [stepsN, if_neg h3, hpass]
          rw [if_neg (by rw [hmem]; omega)]
        · rw [p.q, f1]
          simp only [List.mem_append, List.mem_cons] at hx ⊢
          rcases hx with hx | hx
          · exact .inl (.inl hx)
          · exact .inl (.inr (.inr hx))
        · have := congrArg List.length f1
          simp only [List.length_append, List.length_cons] at this ⊢; omega
        · have hia := hi a p.amem
          have hib := hi b p.bmem
          unfold delM
          rw [W_other _ _ _ _ (by omega) (by omega) (by omega), W_other _ _ _ _ (by omega) (by omega) (by omega)]
        · unfold delM
          rw [W_other _ _ _ _ (by omega) (by omega) (by omega), W_other _ _ _ _ (by omega) (by omega) (by omega)]
          exact (h.lk.mem x hx).2.1
        · by_cases hxb : x = b
          · refine .inr ⟨?_, d, ?_, ?_⟩
            · rw [hxb]
              unfold delM
              rw [W_other _ _ _ _ (by omega) (by omega) (by omega), W_same _ _ _ _ (by omega) (by have := nb.1; omega)]
              omega
            · have hdm : d ∈ L3 ++ [(1, Big)] := by rw [← f2, f3]; simp
              simp only [pathOf, List.mem_cons, List.mem_append, List.not_mem_nil, or_false] at hdm ⊢
              rcases hdm with h1 | h1
              · exact .inr (.inl (.inr h1))
              · exact .inr (.inr h1)
            · rw [hxb]
              unfold delM
              rw [W_other _ _ _ _ (by omega) (by omega) (by omega), W_other _ _ _ _ (by omega) (by omega) (by omega)]
              exact f4
          · refine .inl ?_
            have hx' := hx
            simp only [pathOf, p.q, f1, List.mem_cons, List.mem_append, List.not_mem_nil, or_false] at hx' ⊢
            rcases hx' with h1 | (h1 | h1 | h1) | h1
            · exact .inl h1
            · exact .inr (.inl (.inl h1))
            · exact absurd h1 hxb
            · exact .inr (.inl (.inr h1))
            · exact .inr (.inr h1)
end
end Go.Proofs.Ytnomicnfgdjdeaa.Ab
