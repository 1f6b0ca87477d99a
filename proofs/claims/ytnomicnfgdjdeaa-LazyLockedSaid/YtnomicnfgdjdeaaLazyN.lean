/- One worker alone on a chain: it walks to its place, locks, looks, does what is to be done, and unlocks. In plain Lean. No condition. -/
import Derived.Test.YtnomicnfgdjdeaaLazyM
namespace Go.Proofs.Ytnomicnfgdjdeaa.Ab
open Go.RowKit

theorem walk {G : List Int → Wk → List Int → Wk → Prop} {m : List Int} (hl : m.length ≤ 50000) (hG : ∀ w w1, G m w m w1) {K k c t : Int} (hK : 1 ≤ K ∧ K ≤ 3) : ∀ (R : List Node) (x y : Node) (r5 r6 r7 : Int), Lk m (x :: y :: R) → x.2 < k → (∃ z ∈ y :: R, k ≤ z.2) →
    ∃ A a b D, x :: y :: R = A ++ a :: b :: D ∧ (∀ z ∈ A ++ [a], z.2 < k) ∧ k ≤ b.2 ∧ Run G (2 * A.length + 1) m (wkr K k c t 1 x.1 y.1 r5 r6 r7) m (wkr K k c t (if K = 3 then 3 else 10) a.1 b.1 b.2 r6 r7)
  | R, x, y, r5, r6, r7, hL, hx, hex => by
    have hy := hL.tail.head
    have st := s1 (m := m) (K := K) (k := k) (c := c) (t := t) (r5 := r5) (r6 := r6) (r7 := r7) (a := x.1) (b := y.1) hl hK hy.1
    by_cases hlt : y.2 < k
    · rw [hy.2.1, if_pos hlt] at st
      match R, hL, hex with
      | [], _, hex =>
        exfalso
        obtain ⟨z, hz, hz2⟩ := hex
        simp only [List.mem_cons, List.not_mem_nil, or_false] at hz
        subst hz
        omega
      | z :: R, hL, hex =>
        have hnext : W m y.1 1 = z.1 := hL.tail.2.1
        have st2 := s2 (m := m) (K := K) (k := k) (c := c) (t := t) (r5 := r5) (r6 := r6) (r7 := r7) (a := x.1) (b := y.1) hl hK hy.1
        rw [hnext] at st2
        obtain ⟨A, a, b, D, e1, e2, e3, e4⟩ := walk hl hG hK R y z r5 r6 r7 hL.tail hlt (by
          obtain ⟨u, hu, hu2⟩ := hex
          rcases List.mem_cons.1 hu with rfl | hu
          · omega
          · exact ⟨u, hu, hu2⟩)
        refine ⟨x :: A, a, b, D, by rw [e1]; rfl, fun u hu => ?_, e3, ?_⟩
        · rcases List.mem_cons.1 hu with rfl | hu
          · exact hx
          · exact e2 u hu
        · have := Run.step rfl st (hG _ _) (Run.step rfl st2 (hG _ _) e4)
          rw [show 2 * (x :: A).length + 1 = 2 * A.length + 1 + 1 + 1 by simp; omega]
          exact this
    · rw [hy.2.1, if_neg hlt] at st
      refine ⟨[], x, y, R, rfl, by simpa using hx, by omega, ?_⟩
      exact Run.one rfl st (hG _ _)
/-! ### Words that are written -/
theorem ext_getD {l1 l2 : List Int} (hlen : l1.length = l2.length) (h : ∀ i, l1.getD i 0 = l2.getD i 0) : l1 = l2 := by
  refine List.ext_getElem hlen (fun i h1 h2 => ?_)
  have := h i
  rw [List.getD_eq_getElem?_getD, List.getD_eq_getElem?_getD, List.getElem?_eq_getElem h1, List.getElem?_eq_getElem h2] at this
  simpa using this
theorem getD_set (l : List Int) (i : Nat) (x : Int) (j : Nat) (h : i < l.length) : (l.set i x).getD j 0 = if i = j then x else l.getD j 0 := by
  rw [List.getD_eq_getElem?_getD, List.getD_eq_getElem?_getD, List.getElem?_set]
  by_cases hc : i = j
  · subst hc; simp [h]
  · simp [hc]
/-! ### What each step keeps -/
def Lks (m : List Int) (a b : Nat) (la lb : Int) : Prop := ∀ n, W m n 2 = if n = a then la else if n = b then lb else 0
theorem Lks.seta {m : List Int} {a b : Nat} {la lb x : Int} (h : Lks m a b la lb) (hl : 4 * a + 3 < m.length) : Lks (setW m a 2 x) a b x lb := by
  intro n
  rw [W_set m a 2 x n 2 (by omega) (by omega) (by omega)]
  by_cases hn : a = n
  · simp [hn]
  · rw [if_neg (by omega), h n]; simp [Ne.symm hn]
theorem Lks.setb {m : List Int} {a b : Nat} {la lb x : Int} (h : Lks m a b la lb) (hab : a ≠ b) (hl : 4 * b + 3 < m.length) : Lks (setW m b 2 x) a b la x := by
  intro n
  rw [W_set m b 2 x n 2 (by omega) (by omega) (by omega)]
  by_cases hn : b = n
  · simp [hn, Ne.symm hab]; intro e; omega
  · rw [if_neg (by omega), h n]; simp [Ne.symm hn]
theorem Lks.keep {m : List Int} {a b : Nat} {la lb : Int} (h : Lks m a b la lb) {n j : Nat} {x : Int} (hj : j < 4) (h2 : j ≠ 2) : Lks (setW m n j x) a b la lb := by
  intro i
  rw [W_other m n j x (by omega) hj (by omega)]
  exact h i
/-- A worker's lock is t; it changes one word at most, has two locks at most. -/
def GS (t : Int) (m : List Int) (w : Wk) (m1 : List Int) (w1 : Wk) : Prop :=
  m1.length = m.length ∧ (m1 = m ∨ ∃ j x, m1 = m.set j x) ∧ (∃ a b : Nat, ∀ n, n ≠ a → n ≠ b → W m1 n 2 = 0) ∧ (∀ n, W m1 n 2 = 0 ∨ W m1 n 2 = t) ∧ (w.kind = 3 → m1 = m ∧ ∀ n, W m1 n 2 = 0) ∧ (w1.done = true → ∀ n, W m1 n 2 = 0)
theorem gs_free {t : Int} {m : List Int} (h : ∀ n, W m n 2 = 0) (w w1 : Wk) : GS t m w m w1 :=
  ⟨rfl, .inl rfl, ⟨0, 0, fun n _ _ => h n⟩, fun n => .inl (h n), fun _ => ⟨rfl, h⟩, fun _ => h⟩
theorem gs_of {t : Int} {m m1 : List Int} {w w1 : Wk} {a b : Nat} {la lb : Int} (h1 : m1 = m ∨ ∃ n j x, m1 = setW m n j x) (hL : Lks m1 a b la lb) (ha : la = 0 ∨ la = t) (hb : lb = 0 ∨ lb = t) (hk : w.kind = 1 ∨ w.kind = 2) (hd : w1.done = true → la = 0 ∧ lb = 0) : GS t m w m1 w1 := by
  refine ⟨?_, ?_, ⟨a, b, fun n h h' => by rw [hL n, if_neg h, if_neg h']⟩, fun n => ?_, fun h => by omega, fun h n => ?_⟩
  · rcases h1 with rfl | ⟨n, j, x, rfl⟩
    · rfl
    · exact setW_len _ _ _ _
  · rcases h1 with rfl | ⟨n, j, x, rfl⟩
    · exact .inl rfl
    · exact .inr ⟨_, _, rfl⟩
  · rw [hL n]
    split
    · exact ha
    · split
      · exact hb
      · exact .inl rfl
  · obtain ⟨e1, e2⟩ := hd h
    rw [hL n, e1, e2]
    split
    · rfl
    · split <;> rfl
/-! ### With both locks -/
section
variable {m : List Int} {K k t : Int} {a b c : Nat} {r5 r6 r7 : Int}
structure Crit (m : List Int) (a b : Nat) : Prop where
  la : 4 * a + 3 < m.length
  lb : 4 * b + 3 < m.length
  ne : a ≠ b
  free : ∀ n, W m n 2 = 0
theorem Crit.lks (h : Crit m a b) : Lks m a b 0 0 := by
  intro n; rw [h.free n]; split
  · rfl
  · split <;> rfl
/-- It takes both locks. -/
theorem run_lock (hl : m.length ≤ 50000) (h : Crit m a b) (hK : K = 1 ∨ K = 2) (ht : okW t) (cc : Int) : Run (GS t) 2 m (wkr K k cc t 10 a b r5 r6 r7) (setW (setW m a 2 t) b 2 t) (wkr K k cc t 12 a b r5 r6 r7) := by
  have l1 := h.lks.seta (x := t) h.la
  refine .step rfl (s10 hl hK h.la ht (h.free a)) (gs_of (.inr ⟨_, _, _, rfl⟩) l1 (.inr rfl) (.inl rfl) hK (fun h => by cases h)) ?_
  refine .one rfl (s11 (by rw [setW_len]; exact hl) hK (by rw [setW_len]; exact h.lb) ht (by rw [W_other _ _ _ _ (by omega) (by omega) (by have := h.ne; omega)]; exact h.free b)) ?_
  exact gs_of (.inr ⟨_, _, _, rfl⟩) (l1.setb h.ne (by rw [setW_len]; exact h.lb)) (.inr rfl) (.inr rfl) hK (fun h => by cases h)
/-- It gives both locks back. -/
theorem run_unlock {m2 : List Int} (hl : m2.length ≤ 50000) (la : 4 * a + 3 < m2.length) (lb : 4 * b + 3 < m2.length) (ne : a ≠ b) (hL : Lks m2 a b t t) (hK : K = 1 ∨ K = 2) (cc : Int) :
    Run (GS t) 2 m2 (wkr K k cc t 20 a b r5 r6 r7) (setW (setW m2 b 2 0) a 2 0) (if r7 = -1 then wkr K k cc t 0 a b r5 r6 r7 else wkd K k cc t 21 a b r5 r6 r7 r7) := by
  have l1 := hL.setb (x := 0) ne lb
  refine .step rfl (s20 hl hK lb) (gs_of (.inr ⟨_, _, _, rfl⟩) l1 (.inr rfl) (.inl rfl) hK (fun h => by cases h)) ?_
  exact .one rfl (s21 (by rw [setW_len]; exact hl) hK (by rw [setW_len]; exact la)) (gs_of (.inr ⟨_, _, _, rfl⟩) (l1.seta (by rw [setW_len]; exact la)) (.inl rfl) (.inl rfl) hK (fun _ => ⟨rfl, rfl⟩))
theorem W_locks (m : List Int) (x y : Int) {n j : Nat} (hj : j < 4) (h2 : j ≠ 2) : W (setW (setW m a 2 x) b 2 y) n j = W m n j := by
  rw [W_other _ _ _ _ hj (by omega) (by omega), W_other _ _ _ _ hj (by omega) (by omega)]
theorem locks_len (m : List Int) (x y : Int) : (setW (setW m a 2 x) b 2 y).length = m.length := by rw [setW_len, setW_len]
/-- Where something is not as it was, it begins anew. -/
theorem run_anew (hl : m.length ≤ 50000) (h : Crit m a b) (hK : K = 1 ∨ K = 2) (ht : okW t) (cc : Int) (hbad : W m a 3 ≠ 0 ∨ W m b 3 ≠ 0 ∨ W m a 1 ≠ b) :
    ∃ n, n ≤ 7 ∧ Run (GS t) n m (wkr K k cc t 10 a b r5 r6 r7) m (wkr K k cc t 0 a b r5 r6 (-1)) := by
  have r1 := run_lock (k := k) (r5 := r5) (r6 := r6) (r7 := r7) hl h hK ht cc
  have hlen : (setW (setW m a 2 t) b 2 t).length = m.length := locks_len m t t
  have L : Lks (setW (setW m a 2 t) b 2 t) a b t t := (h.lks.seta h.la).setb h.ne (by rw [setW_len]; exact h.lb)
  have la' : 4 * a + 3 < (setW (setW m a 2 t) b 2 t).length := by rw [hlen]; exact h.la
  have lb' : 4 * b + 3 < (setW (setW m a 2 t) b 2 t).length := by rw [hlen]; exact h.lb
  have hl' : (setW (setW m a 2 t) b 2 t).length ≤ 50000 := by rw [hlen]; exact hl
  have fin : setW (setW (setW (setW m a 2 t) b 2 t) b 2 0) a 2 0 = m := by
    refine ext_getD (by simp [setW]) (fun i => ?_)
    have fa := h.free a
    have fb := h.free b
    have := h.la; have := h.lb
    unfold W at fa fb
    unfold setW
    rw [getD_set _ _ _ _ (by first | omega | (simp; omega)), getD_set _ _ _ _ (by first | omega | (simp; omega)), getD_set _ _ _ _ (by first | omega | (simp; omega)), getD_set _ _ _ _ (by omega)]
    split
    · rename_i e; rw [← e, fa]
    · split
      · rename_i e; rw [← e, fb]
      · rfl
  have r4 := run_unlock (K := K) (k := k) (r5 := r5) (r6 := r6) (r7 := -1) hl' la' lb' h.ne L hK cc
  rw [fin, if_pos rfl] at r4
  have G : ∀ w w1 : Wk, (w.kind = 1 ∨ w.kind = 2) → w1.done = false → GS t (setW (setW m a 2 t) b 2 t) w (setW (setW m a 2 t) b 2 t) w1 := fun w w1 hk hd => gs_of (.inl rfl) L (.inr rfl) (.inr rfl) hk (fun h => by rw [hd] at h; cases h)
  have t12 := s12 (k := k) (c := cc) (t := t) (r5 := r5) (r6 := r6) (r7 := r7) (b := b) hl' hK la'
  rw [W_locks m t t (by omega) (by omega)] at t12
  by_cases c1 : W m a 3 = 0
  · rw [if_pos c1] at t12
    have t13 := s13 (k := k) (c := cc) (t := t) (r5 := r5) (r6 := r6) (r7 := r7) (a := a) hl' hK lb'
    rw [W_locks m t t (by omega) (by omega)] at t13
    by_cases c2 : W m b 3 = 0
    · rw [if_pos c2] at t13
      have c3 : W m a 1 ≠ b := by rcases hbad with h | h | h; exact absurd c1 h; exact absurd c2 h; exact h
      have t14 := s14f (k := k) (c := cc) (t := t) (r5 := r5) (r6 := r6) (r7 := r7) (b := b) hl' hK la' (by rw [W_locks m t t (by omega) (by omega)]; exact c3)
      exact ⟨7, by omega, r1.trans ((Run.step rfl t12 (G _ _ hK rfl) (Run.step rfl t13 (G _ _ hK rfl) (Run.one rfl t14 (G _ _ hK rfl)))).trans r4)⟩
    · rw [if_neg c2] at t13
      exact ⟨6, by omega, r1.trans ((Run.step rfl t12 (G _ _ hK rfl) (Run.one rfl t13 (G _ _ hK rfl))).trans r4)⟩
  · rw [if_neg c1] at t12
    exact ⟨5, by omega, r1.trans ((Run.one rfl t12 (G _ _ hK rfl)).trans r4)⟩
/-- Up to PC 14, where all is as it was. -/
theorem run_looks (hl : m.length ≤ 50000) (h : Crit m a b) (hK : K = 1 ∨ K = 2) (ht : okW t) (cc : Int) (d1 : W m a 3 = 0) (d2 : W m b 3 = 0) :
    Run (GS t) 4 m (wkr K k cc t 10 a b r5 r6 r7) (setW (setW m a 2 t) b 2 t) (wkr K k cc t 14 a b r5 r6 r7) := by
  have r1 := run_lock (k := k) (r5 := r5) (r6 := r6) (r7 := r7) hl h hK ht cc
  have hlen : (setW (setW m a 2 t) b 2 t).length = m.length := locks_len m t t
  have L : Lks (setW (setW m a 2 t) b 2 t) a b t t := (h.lks.seta h.la).setb h.ne (by rw [setW_len]; exact h.lb)
  have G : ∀ w w1 : Wk, (w.kind = 1 ∨ w.kind = 2) → w1.done = false → GS t (setW (setW m a 2 t) b 2 t) w (setW (setW m a 2 t) b 2 t) w1 := fun w w1 hk hd => gs_of (.inl rfl) L (.inr rfl) (.inr rfl) hk (fun h => by rw [hd] at h; cases h)
  have t12 := s12 (k := k) (c := cc) (t := t) (r5 := r5) (r6 := r6) (r7 := r7) (b := b) (m := setW (setW m a 2 t) b 2 t) (by rw [hlen]; exact hl) hK (show 4 * a + 3 < _ by rw [hlen]; exact h.la)
  rw [W_locks m t t (by omega) (by omega), if_pos d1] at t12
  have t13 := s13 (k := k) (c := cc) (t := t) (r5 := r5) (r6 := r6) (r7 := r7) (a := a) (m := setW (setW m a 2 t) b 2 t) (by rw [hlen]; exact hl) hK (show 4 * b + 3 < _ by rw [hlen]; exact h.lb)
  rw [W_locks m t t (by omega) (by omega), if_pos d2] at t13
  exact r1.trans (Run.step rfl t12 (G _ _ hK rfl) (Run.one rfl t13 (G _ _ hK rfl)))
theorem run_noop (hl : m.length ≤ 50000) (h : Crit m a b) (ht : okW t) (cc : Int) (d1 : W m a 3 = 0) (d2 : W m b 3 = 0) (d3 : W m a 1 = b) (hc : (K = 1 ∧ r5 = k) ∨ (K = 2 ∧ r5 ≠ k)) :
    Run (GS t) 7 m (wkr K k cc t 10 a b r5 r6 r7) m (wkd K k cc t 21 a b r5 r6 0 0) := by
  have hK : K = 1 ∨ K = 2 := by omega
  have r1 := run_looks (k := k) (r5 := r5) (r6 := r6) (r7 := r7) hl h hK ht cc d1 d2
  have hlen : (setW (setW m a 2 t) b 2 t).length = m.length := locks_len m t t
  have L : Lks (setW (setW m a 2 t) b 2 t) a b t t := (h.lks.seta h.la).setb h.ne (by rw [setW_len]; exact h.lb)
  have hl' : (setW (setW m a 2 t) b 2 t).length ≤ 50000 := by rw [hlen]; exact hl
  have la' : 4 * a + 3 < (setW (setW m a 2 t) b 2 t).length := by rw [hlen]; exact h.la
  have lb' : 4 * b + 3 < (setW (setW m a 2 t) b 2 t).length := by rw [hlen]; exact h.lb
  have fin : setW (setW (setW (setW m a 2 t) b 2 t) b 2 0) a 2 0 = m := by
    refine ext_getD (by simp [setW]) (fun i => ?_)
    have fa := h.free a
    have fb := h.free b
    have := h.la; have := h.lb
    unfold W at fa fb
    unfold setW
    rw [getD_set _ _ _ _ (by first | omega | (simp; omega)), getD_set _ _ _ _ (by first | omega | (simp; omega)), getD_set _ _ _ _ (by first | omega | (simp; omega)), getD_set _ _ _ _ (by omega)]
    split
    · rename_i e; rw [← e, fa]
    · split
      · rename_i e; rw [← e, fb]
      · rfl
  have r4 := run_unlock (K := K) (k := k) (r5 := r5) (r6 := r6) (r7 := 0) hl' la' lb' h.ne L hK cc
  rw [fin, if_neg (by omega)] at r4
  have t14 := s14 (k := k) (c := cc) (t := t) (r5 := r5) (r6 := r6) (r7 := r7) (b := b) hl' hK la' (by rw [W_locks m t t (by omega) (by omega)]; exact d3)
  have e14 : (if r5 = k then (if K = 1 then wkr K k cc t 20 a b r5 r6 0 else wkr K k cc t 17 a b r5 r6 r7) else (if K = 1 then wkr K k cc t 15 a b r5 r6 r7 else wkr K k cc t 20 a b r5 r6 0)) = wkr K k cc t 20 a b r5 r6 0 := by
    rcases hc with ⟨h1, h2⟩ | ⟨h1, h2⟩
    · rw [if_pos h2, if_pos h1]
    · rw [if_neg h2, if_neg (by omega)]
  rw [e14] at t14
  exact r1.trans ((Run.one rfl t14 (gs_of (.inl rfl) L (.inr rfl) (.inr rfl) hK (fun h => by cases h))).trans r4)
def insM (m : List Int) (a b c : Nat) (k : Int) : List Int := setW (setW (setW m c 0 k) c 1 b) a 1 c
def delM (m : List Int) (a b : Nat) : List Int := setW (setW m b 3 1) a 1 (W m b 1)
theorem run_insert (hl : m.length ≤ 50000) (h : Crit m a b) (ht : okW t) (hkk : okW k) (lc : 4 * c + 3 < m.length) (hca : c ≠ a) (hcb : c ≠ b) (d1 : W m a 3 = 0) (d2 : W m b 3 = 0) (d3 : W m a 1 = b) (hc : r5 ≠ k) :
    Run (GS t) 10 m (wkr 1 k c t 10 a b r5 r6 r7) (insM m a b c k) (wkd 1 k c t 21 a b r5 r6 1 1) := by
  have r1 := run_looks (K := 1) (k := k) (r5 := r5) (r6 := r6) (r7 := r7) hl h (.inl rfl) ht c d1 d2
  have hlen : (setW (setW m a 2 t) b 2 t).length = m.length := locks_len m t t
  have L : Lks (setW (setW m a 2 t) b 2 t) a b t t := (h.lks.seta h.la).setb h.ne (by rw [setW_len]; exact h.lb)
  have hl' : (setW (setW m a 2 t) b 2 t).length ≤ 50000 := by rw [hlen]; exact hl
  have la' : 4 * a + 3 < (setW (setW m a 2 t) b 2 t).length := by rw [hlen]; exact h.la
  have lb' : 4 * b + 3 < (setW (setW m a 2 t) b 2 t).length := by rw [hlen]; exact h.lb
  have lc' : 4 * c + 3 < (setW (setW m a 2 t) b 2 t).length := by rw [hlen]; exact lc
  have okb : okW (b : Int) := by have := h.lb; unfold okW; omega
  have okc : okW (c : Int) := by unfold okW; omega
  have t14 := s14 (K := 1) (k := k) (c := c) (t := t) (r5 := r5) (r6 := r6) (r7 := r7) (b := b) hl' (.inl rfl) la' (by rw [W_locks m t t (by omega) (by omega)]; exact d3)
  rw [if_neg hc, if_pos rfl] at t14
  generalize hM : setW (setW m a 2 t) b 2 t = M at *
  have t15 := s15 (k := k) (t := t) (a := a) (b := b) (r5 := r5) (r6 := r6) (r7 := r7) hl' lc' hkk
  have t16 := s16 (k := k) (t := t) (a := a) (b := b) (r5 := r5) (r6 := r6) (r7 := r7) (m := setW M c 0 k) (by rw [setW_len]; exact hl') (n := c) (by rw [setW_len]; exact lc') okb
  have t18 := s18 (k := k) (t := t) (a := a) (b := b) (r5 := r5) (r6 := r6) (r7 := r7) (m := setW (setW M c 0 k) c 1 b) (by rw [setW_len, setW_len]; exact hl') (n := c) (by rw [setW_len, setW_len]; exact la') okc
  have L15 : Lks (setW M c 0 k) a b t t := L.keep (by omega) (by omega)
  have L16 : Lks (setW (setW M c 0 k) c 1 b) a b t t := L15.keep (by omega) (by omega)
  have L18 : Lks (setW (setW (setW M c 0 k) c 1 b) a 1 c) a b t t := L16.keep (by omega) (by omega)
  have hl3 : (setW (setW (setW M c 0 k) c 1 b) a 1 c).length = M.length := by simp [setW]
  have r4 := run_unlock (K := 1) (k := k) (r5 := r5) (r6 := r6) (r7 := 1) (m2 := setW (setW (setW M c 0 k) c 1 b) a 1 c) (by rw [hl3]; exact hl') (by rw [hl3]; exact la') (by rw [hl3]; exact lb') h.ne L18 (.inl rfl) c
  rw [if_neg (by omega)] at r4
  have fin : setW (setW (setW (setW (setW M c 0 k) c 1 b) a 1 c) b 2 0) a 2 0 = insM m a b c k := by
    subst hM
    refine ext_getD (by simp [setW, insM]) (fun i => ?_)
    have fa := h.free a
    have fb := h.free b
    have := h.la; have := h.lb; have := h.ne
    unfold W at fa fb
    unfold insM setW
    rw [getD_set _ _ _ _ (by first | omega | (simp; omega)), getD_set _ _ _ _ (by first | omega | (simp; omega)), getD_set _ _ _ _ (by first | omega | (simp; omega)), getD_set _ _ _ _ (by first | omega | (simp; omega)), getD_set _ _ _ _ (by first | omega | (simp; omega)), getD_set _ _ _ _ (by first | omega | (simp; omega)), getD_set _ _ _ _ (by first | omega | (simp; omega)), getD_set _ _ _ _ (by first | omega | (simp; omega)), getD_set _ _ _ _ (by first | omega | (simp; omega)), getD_set _ _ _ _ (by first | omega | (simp; omega))]
    by_cases e1 : 4 * a + 2 = i
    · rw [if_pos e1, if_neg (by omega), if_neg (by omega), if_neg (by omega), ← e1, fa]
    · rw [if_neg e1]
      by_cases e2 : 4 * b + 2 = i
      · rw [if_pos e2, if_neg (by omega), if_neg (by omega), if_neg (by omega), ← e2, fb]
      · rw [if_neg e2, if_neg e2, if_neg e1]
  rw [fin] at r4
  exact r1.trans ((Run.step rfl t14 (gs_of (.inl rfl) L (.inr rfl) (.inr rfl) (.inl rfl) (fun h => by cases h)) (Run.step rfl t15 (gs_of (.inr ⟨_, _, _, rfl⟩) L15 (.inr rfl) (.inr rfl) (.inl rfl) (fun h => by cases h)) (Run.step rfl t16 (gs_of (.inr ⟨_, _, _, rfl⟩) L16 (.inr rfl) (.inr rfl) (.inl rfl) (fun h => by cases h)) (Run.one rfl t18 (gs_of (.inr ⟨_, _, _, rfl⟩) L18 (.inr rfl) (.inr rfl) (.inl rfl) (fun h => by cases h)))))).trans r4)
theorem run_delete (hl : m.length ≤ 50000) (h : Crit m a b) (ht : okW t) (hnb : okW (W m b 1)) (cc : Int) (d1 : W m a 3 = 0) (d2 : W m b 3 = 0) (d3 : W m a 1 = b) (hc : r5 = k) :
    Run (GS t) 10 m (wkr 2 k cc t 10 a b r5 r6 r7) (delM m a b) (wkd 2 k cc t 21 a b r5 (W m b 1) 1 1) := by
  have r1 := run_looks (K := 2) (k := k) (r5 := r5) (r6 := r6) (r7 := r7) hl h (.inr rfl) ht cc d1 d2
  have hlen : (setW (setW m a 2 t) b 2 t).length = m.length := locks_len m t t
  have L : Lks (setW (setW m a 2 t) b 2 t) a b t t := (h.lks.seta h.la).setb h.ne (by rw [setW_len]; exact h.lb)
  have hl' : (setW (setW m a 2 t) b 2 t).length ≤ 50000 := by rw [hlen]; exact hl
  have la' : 4 * a + 3 < (setW (setW m a 2 t) b 2 t).length := by rw [hlen]; exact h.la
  have lb' : 4 * b + 3 < (setW (setW m a 2 t) b 2 t).length := by rw [hlen]; exact h.lb
  have wb : W (setW (setW m a 2 t) b 2 t) b 1 = W m b 1 := W_locks m t t (by omega) (by omega)
  have t14 := s14 (K := 2) (k := k) (c := cc) (t := t) (r5 := r5) (r6 := r6) (r7 := r7) (b := b) hl' (.inr rfl) la' (by rw [W_locks m t t (by omega) (by omega)]; exact d3)
  rw [if_pos hc, if_neg (by omega)] at t14
  generalize hM : setW (setW m a 2 t) b 2 t = M at *
  have t17 := s17 (k := k) (c := cc) (t := t) (a := a) (b := b) (r5 := r5) (r6 := r6) (r7 := r7) hl' lb'
  have t19 := s19 (k := k) (c := cc) (t := t) (a := a) (b := b) (r5 := r5) (r6 := r6) (r7 := r7) (m := setW M b 3 1) (by rw [setW_len]; exact hl') (by rw [setW_len]; exact lb')
  rw [W_other _ _ _ _ (by omega) (by omega) (by omega), wb] at t19
  have t22 := s22 (k := k) (c := cc) (t := t) (a := a) (b := b) (r5 := r5) (r6 := W m b 1) (r7 := r7) (m := setW M b 3 1) (by rw [setW_len]; exact hl') (by rw [setW_len]; exact la') hnb
  have L17 : Lks (setW M b 3 1) a b t t := L.keep (by omega) (by omega)
  have L22 : Lks (setW (setW M b 3 1) a 1 (W m b 1)) a b t t := L17.keep (by omega) (by omega)
  have hl3 : (setW (setW M b 3 1) a 1 (W m b 1)).length = M.length := by simp [setW]
  have r4 := run_unlock (K := 2) (k := k) (r5 := r5) (r6 := W m b 1) (r7 := 1) (m2 := setW (setW M b 3 1) a 1 (W m b 1)) (by rw [hl3]; exact hl') (by rw [hl3]; exact la') (by rw [hl3]; exact lb') h.ne L22 (.inr rfl) cc
  rw [if_neg (by omega)] at r4
  have fin : setW (setW (setW (setW M b 3 1) a 1 (W m b 1)) b 2 0) a 2 0 = delM m a b := by
    subst hM
    refine ext_getD (by simp [setW, delM]) (fun i => ?_)
    have fa := h.free a
    have fb := h.free b
    have := h.la; have := h.lb; have := h.ne
    unfold delM setW
    generalize W m b 1 = nb
    unfold W at fa fb
    rw [getD_set _ _ _ _ (by first | omega | (simp; omega)), getD_set _ _ _ _ (by first | omega | (simp; omega)), getD_set _ _ _ _ (by first | omega | (simp; omega)), getD_set _ _ _ _ (by first | omega | (simp; omega)), getD_set _ _ _ _ (by first | omega | (simp; omega)), getD_set _ _ _ _ (by first | omega | (simp; omega)), getD_set _ _ _ _ (by first | omega | (simp; omega)), getD_set _ _ _ _ (by first | omega | (simp; omega))]
    by_cases e1 : 4 * a + 2 = i
    · rw [if_pos e1, if_neg (by omega), if_neg (by omega), ← e1, fa]
    · rw [if_neg e1]
      by_cases e2 : 4 * b + 2 = i
      · rw [if_pos e2, if_neg (by omega), if_neg (by omega), ← e2, fb]
      · rw [if_neg e2, if_neg e2, if_neg e1]
  rw [fin] at r4
  exact r1.trans ((Run.step rfl t14 (gs_of (.inl rfl) L (.inr rfl) (.inr rfl) (.inr rfl) (fun h => by cases h)) (Run.step rfl t17 (gs_of (.inr ⟨_, _, _, rfl⟩) L17 (.inr rfl) (.inr rfl) (.inr rfl) (fun h => by cases h)) (Run.step rfl t19 (gs_of (.inl rfl) L17 (.inr rfl) (.inr rfl) (.inr rfl) (fun h => by cases h)) (Run.one rfl t22 (gs_of (.inr ⟨_, _, _, rfl⟩) L22 (.inr rfl) (.inr rfl) (.inr rfl) (fun h => by cases h)))))).trans r4)
end
end Go.Proofs.Ytnomicnfgdjdeaa.Ab
