/- Chains as lists of words, and what one worker alone does to them, in plain Lean. No condition. -/
import Derived.Test.YtnomicnfgdjdeaaLazyQ
namespace Go.Proofs.Ytnomicnfgdjdeaa.Ab
open Go.RowKit

def W (m : List Int) (n j : Nat) : Int := m.getD (4 * n + j) 0
def setW (m : List Int) (n j : Nat) (x : Int) : List Int := m.set (4 * n + j) x
theorem setW_len (m : List Int) (n j : Nat) (x : Int) : (setW m n j x).length = m.length := by simp [setW]
theorem W_set (m : List Int) (n j : Nat) (x : Int) (b i : Nat) (hj : j < 4) (hi : i < 4) (h : 4 * n + j < m.length) : W (setW m n j x) b i = if n = b ∧ j = i then x else W m b i := by
  unfold W setW
  rw [List.getD_eq_getElem?_getD, List.getD_eq_getElem?_getD, List.getElem?_set]
  by_cases hc : n = b ∧ j = i
  · obtain ⟨rfl, rfl⟩ := hc
    simp [h]
  · rw [if_neg (by omega), if_neg hc]
theorem W_same (m : List Int) (n j : Nat) (x : Int) (hj : j < 4) (h : 4 * n + j < m.length) : W (setW m n j x) n j = x := by
  rw [W_set m n j x n j hj hj h]; simp
theorem W_other (m : List Int) (n j : Nat) (x : Int) {b i : Nat} (hi : i < 4) (hj : j < 4) (hne : ¬ (n = b ∧ j = i)) : W (setW m n j x) b i = W m b i := by
  unfold W setW
  rw [List.getD_eq_getElem?_getD, List.getD_eq_getElem?_getD, List.getElem?_set, if_neg (by omega)]
/-! ### Steps -/
theorem touch_load (m : List Int) (n j : Nat) (hj : j < 4) (hl : m.length ≤ 50000) (h : 4 * n + 3 < m.length) : touchS m 1 n j 0 = (m, ⟨W m n j, true⟩, 0) := by
  unfold touchS placeS
  rw [if_pos (by omega)]
  unfold doS
  simp only
  rw [if_neg (by omega), if_neg (by omega), if_neg (by omega), if_pos trivial]
  rfl
theorem touch_store (m : List Int) (n j : Nat) (x : Int) (hj : j < 4) (hl : m.length ≤ 50000) (h : 4 * n + 3 < m.length) (hx : okW x) : touchS m 2 n j x = (setW m n j x, ⟨W m n j, true⟩, 0) := by
  unfold touchS placeS
  rw [if_pos (by omega)]
  unfold doS
  simp only
  rw [if_neg (by omega), if_neg (by omega), if_neg (by omega), if_neg (by omega), if_neg (by omega), if_neg (show ¬ (2 : Int) = 4 by omega), if_pos hx]
  rfl
theorem touch_cas_t (m : List Int) (n j : Nat) (x : Int) (hj : j < 4) (hl : m.length ≤ 50000) (h : 4 * n + 3 < m.length) (hx : okW x) (h0 : W m n j = 0) : touchS m 3 n j x = (setW m n j x, ⟨0, true⟩, 0) := by
  have h0' : m.getD (4 * (n : Int) + (j : Int)).toNat 0 = 0 := by
    have : (4 * (n : Int) + (j : Int)).toNat = 4 * n + j := by omega
    rw [this]; exact h0
  unfold touchS placeS
  rw [if_pos (by omega)]
  unfold doS
  simp only
  rw [if_neg (by omega), if_neg (by omega), if_neg (by omega), if_neg (by omega), if_neg (by rintro ⟨_, hh⟩; exact hh h0')]
  rw [if_neg (show ¬ (3 : Int) = 4 by omega), if_pos hx, h0']
  rfl
theorem touch_cas_f (m : List Int) (n j : Nat) (x : Int) (hj : j < 4) (hl : m.length ≤ 50000) (h : 4 * n + 3 < m.length) (h0 : W m n j ≠ 0) : touchS m 3 n j x = (m, ⟨W m n j, false⟩, 0) := by
  have e : (4 * (n : Int) + (j : Int)).toNat = 4 * n + j := by omega
  have h0' : ¬ m.getD (4 * n + j) 0 = 0 := h0
  unfold touchS placeS
  rw [if_pos (by omega)]
  unfold doS
  simp only
  rw [if_neg (by omega), if_neg (by omega), if_neg (by omega), if_neg (by omega), e, if_pos (by simp only [ne_eq, true_and]; exact h0')]
  rfl
theorem stepS_of {m : List Int} {w : Wk} {a : Tch} {m' : List Int} {f : Fnd} (hd : w.done = false) (hk : 1 ≤ w.kind ∧ w.kind ≤ 3) (ha : accS w = some a) (ht : touchS m a.op a.node a.word a.to = (m', f, 0)) : stepS m w = (m', nextS w f, 0) := by
  unfold stepS
  rw [if_neg (by simp [hd]; omega), ha]
  simp [ht]
/-- Steps, one after the other, each of which is as G says. -/
inductive Run (G : List Int → Wk → List Int → Wk → Prop) : Nat → List Int → Wk → List Int → Wk → Prop
  | refl (m : List Int) (w : Wk) : Run G 0 m w m w
  | step {n : Nat} {m : List Int} {w : Wk} {m1 : List Int} {w1 : Wk} {m' : List Int} {w' : Wk} (hd : w.done = false) (h : stepS m w = (m1, w1, 0)) (hg : G m w m1 w1) (r : Run G n m1 w1 m' w') : Run G (n + 1) m w m' w'
theorem Run.trans {G : List Int → Wk → List Int → Wk → Prop} {n k : Nat} {m : List Int} {w : Wk} {m1 : List Int} {w1 : Wk} {m2 : List Int} {w2 : Wk} (h : Run G n m w m1 w1) (h2 : Run G k m1 w1 m2 w2) : Run G (n + k) m w m2 w2 := by
  induction h with
  | refl => simpa using h2
  | step hd hs hg _ ih => rw [Nat.add_right_comm]; exact .step hd hs hg (ih h2)
theorem Run.one {G : List Int → Wk → List Int → Wk → Prop} {m : List Int} {w : Wk} {m1 : List Int} {w1 : Wk} (hd : w.done = false) (h : stepS m w = (m1, w1, 0)) (hg : G m w m1 w1) : Run G 1 m w m1 w1 := .step hd h hg (.refl _ _)
theorem Run.alone {G : List Int → Wk → List Int → Wk → Prop} {m0 : List Int} {w0 : Wk} {n : Nat} {m : List Int} {w : Wk} {m' : List Int} {w' : Wk} (h : Run G n m w m' w') (hd : w'.done = true) : ∀ (k : Nat) (i : Int), n ≤ k → aloneL m0 w0 k m w i = (m', w', i + n, 0) := by
  induction h with
  | refl m w =>
    intro k i _
    cases k <;> simp [aloneL, hd]
  | @step n m w m1 w1 m' w' hd0 hs _ _ ih =>
    intro k i hk
    cases k with
    | zero => omega
    | succ k =>
      have := ih hd k (i + 1) (by omega)
      simp only [aloneL, hd0, hs, Bool.false_eq_true, if_false, if_true]
      rw [this]
      congr 3
      omega
theorem Run.aloneS {G : List Int → Wk → List Int → Wk → Prop} {n : Nat} {m : List Int} {w : Wk} {m' : List Int} {w' : Wk} (h : Run G n m w m' w') (hd : w'.done = true) (hn : n ≤ 50000) : Ab.aloneS m w = (m', w', (n : Int), 0) := by
  unfold Ab.aloneS
  rw [h.alone hd 50000 0 hn]
  simp
theorem Run.mono {G G' : List Int → Wk → List Int → Wk → Prop} (hG : ∀ m w m1 w1, G m w m1 w1 → G' m w m1 w1) {n : Nat} {m : List Int} {w : Wk} {m' : List Int} {w' : Wk} (h : Run G n m w m' w') : Run G' n m w m' w' := by
  induction h with
  | refl => exact .refl _ _
  | step hd hs hg _ ih => exact .step hd hs (hG _ _ _ _ hg) ih
/-! ### Chains -/
abbrev Node := Nat × Int
def Nd (m : List Int) (x : Node) : Prop := 4 * x.1 + 3 < m.length ∧ W m x.1 0 = x.2 ∧ W m x.1 3 = 0
def Lk (m : List Int) : List Node → Prop
  | [] => True
  | [x] => Nd m x
  | x :: y :: R => Nd m x ∧ W m x.1 1 = y.1 ∧ Lk m (y :: R)
theorem Lk.tail {m : List Int} {x : Node} : ∀ {R : List Node}, Lk m (x :: R) → Lk m R
  | [], _ => trivial
  | _ :: _, h => h.2.2
theorem Lk.head {m : List Int} {x : Node} : ∀ {R : List Node}, Lk m (x :: R) → Nd m x
  | [], h => h
  | _ :: _, h => h.1
theorem Lk.mem {m : List Int} : ∀ {P : List Node}, Lk m P → ∀ x ∈ P, Nd m x
  | [], _, x, hx => by simp at hx
  | y :: R, h, x, hx => by
    rcases List.mem_cons.1 hx with rfl | hx
    · exact h.head
    · exact Lk.mem h.tail x hx
theorem Lk.drop {m : List Int} : ∀ (A : List Node) {R : List Node}, Lk m (A ++ R) → Lk m R
  | [], _, h => h
  | _ :: A, _, h => Lk.drop A h.tail
theorem Lk.split {m : List Int} : ∀ (A : List Node) {x : Node} {R : List Node}, Lk m (A ++ x :: R) ↔ Lk m (A ++ [x]) ∧ Lk m (x :: R)
  | [], x, R => by
    constructor
    · intro h; exact ⟨h.head, h⟩
    · intro h; exact h.2
  | [y], x, R => by
    simp only [List.cons_append, List.nil_append, Lk]
    constructor
    · rintro ⟨h1, h2, h3⟩; exact ⟨⟨h1, h2, h3.head⟩, h3⟩
    · rintro ⟨⟨h1, h2, h3⟩, h4⟩; exact ⟨h1, h2, h4⟩
  | y :: z :: A, x, R => by
    have ih := Lk.split (m := m) (z :: A) (x := x) (R := R)
    simp only [List.cons_append] at ih
    simp only [List.cons_append, Lk, ih]
    constructor
    · rintro ⟨h1, h2, h3, h4⟩; exact ⟨⟨h1, h2, h3⟩, h4⟩
    · rintro ⟨⟨h1, h2, h3⟩, h4⟩; exact ⟨h1, h2, h3, h4⟩
/-- What is not of the path does not matter. -/
theorem Lk.congr {m m' : List Int} (hl : m'.length = m.length) : ∀ {P : List Node}, (∀ x ∈ P, W m' x.1 0 = W m x.1 0 ∧ W m' x.1 1 = W m x.1 1 ∧ W m' x.1 3 = W m x.1 3) → Lk m P → Lk m' P
  | [], _, _ => trivial
  | [x], h, hP => by
    obtain ⟨h1, h2, h3⟩ := h x (by simp)
    simp only [Lk, Nd] at hP ⊢
    rw [hl, h1, h3]; exact hP
  | x :: y :: R, h, hP => by
    obtain ⟨h1, h2, h3⟩ := h x (by simp)
    simp only [Lk, Nd] at hP ⊢
    rw [hl, h1, h2, h3]
    exact ⟨hP.1, hP.2.1, Lk.congr hl (fun z hz => h z (by simp [hz])) hP.2.2⟩
abbrev Big : Int := 1099511627777
/-- The path: from the head to the tail. -/
abbrev pathOf (Q : List Node) : List Node := (0, -Big) :: (Q ++ [(1, Big)])
/-- A chain on which nobody works. -/
structure Ch (m : List Int) (Q : List Node) : Prop where
  len : m.length ≤ 2000
  four : m.length % 4 = 0
  lk : Lk m (pathOf Q)
  last : W m 1 1 = 0
  nodup : ((pathOf Q).map (fun x : Node => x.1)).Nodup
  sorted : (pathOf Q).Pairwise (fun (x y : Node) => x.2 < y.2)
  free : ∀ n, W m n 2 = 0
  many : Q.length + 2 ≤ m.length / 4
/-! ### The steps, by PC -/
def wkr (K k c t pc r1 r2 r5 r6 r7 : Int) : Wk := ⟨K, pc, k, r1, r2, c, t, r5, r6, r7, 0, 0, false, 0⟩
def wkd (K k c t pc r1 r2 r5 r6 r7 o : Int) : Wk := ⟨K, pc, k, r1, r2, c, t, r5, r6, r7, 0, 0, true, o⟩
section
variable {m : List Int} {K k c t r5 r6 r7 : Int} {a b : Nat} (hl : m.length ≤ 50000)
include hl
theorem s0 (hK : 1 ≤ K ∧ K ≤ 3) (h : 3 < m.length) (r1 r2 : Int) : stepS m (wkr K k c t 0 r1 r2 r5 r6 r7) = (m, wkr K k c t 1 0 (W m 0 1) r5 r6 r7, 0) :=
  stepS_of rfl hK (a := ⟨1, 0, 1, 0⟩) (by simp [accS, wkr]) (touch_load m 0 1 (by omega) hl (by omega))
theorem s1 (hK : 1 ≤ K ∧ K ≤ 3) (h : 4 * b + 3 < m.length) : stepS m (wkr K k c t 1 a b r5 r6 r7) = (m, if W m b 0 < k then wkr K k c t 2 a b r5 r6 r7 else wkr K k c t (if K = 3 then 3 else 10) a b (W m b 0) r6 r7, 0) := by
  rw [stepS_of rfl hK (a := ⟨1, b, 0, 0⟩) (by simp [accS, wkr]) (touch_load m b 0 (by omega) hl h)]
  by_cases hh : W m b 0 < k
  · simp [nextS, wkr, hh]
  · by_cases h3 : K = 3 <;> simp [nextS, wkr, hh, h3]
theorem s2 (hK : 1 ≤ K ∧ K ≤ 3) (h : 4 * b + 3 < m.length) : stepS m (wkr K k c t 2 a b r5 r6 r7) = (m, wkr K k c t 1 b (W m b 1) r5 r6 r7, 0) := by
  rw [stepS_of rfl hK (a := ⟨1, b, 1, 0⟩) (by simp [accS, wkr]) (touch_load m b 1 (by omega) hl h)]
  simp [nextS, wkr]
theorem s3 (h : 4 * b + 3 < m.length) : stepS m (wkr 3 k c t 3 a b r5 r6 r7) = (m, wkd 3 k c t 3 a b r5 r6 r7 (if r5 = k ∧ W m b 3 = 0 then 1 else 0), 0) := by
  rw [stepS_of rfl (by simp [wkr]) (a := ⟨1, b, 3, 0⟩) (by simp [accS, wkr]) (touch_load m b 3 (by omega) hl h)]
  by_cases h1 : r5 = k ∧ W m b 3 = 0 <;> simp [nextS, wkr, wkd, h1]
variable (hK : K = 1 ∨ K = 2)
include hK
theorem s10 (h : 4 * a + 3 < m.length) (ht : okW t) (h0 : W m a 2 = 0) : stepS m (wkr K k c t 10 a b r5 r6 r7) = (setW m a 2 t, wkr K k c t 11 a b r5 r6 r7, 0) := by
  rw [stepS_of rfl (by simp only [wkr]; omega) (a := ⟨3, a, 2, t⟩) (by rcases hK with rfl | rfl <;> simp [accS, wkr]) (touch_cas_t m a 2 t (by omega) hl h ht h0)]
  simp [nextS, wkr]
theorem s10f (h : 4 * a + 3 < m.length) (h0 : W m a 2 ≠ 0) : stepS m (wkr K k c t 10 a b r5 r6 r7) = (m, wkr K k c t 0 a b r5 r6 r7, 0) := by
  rw [stepS_of rfl (by simp only [wkr]; omega) (a := ⟨3, a, 2, t⟩) (by rcases hK with rfl | rfl <;> simp [accS, wkr]) (touch_cas_f m a 2 t (by omega) hl h h0)]
  simp [nextS, wkr]
theorem s11 (h : 4 * b + 3 < m.length) (ht : okW t) (h0 : W m b 2 = 0) : stepS m (wkr K k c t 11 a b r5 r6 r7) = (setW m b 2 t, wkr K k c t 12 a b r5 r6 r7, 0) := by
  rw [stepS_of rfl (by simp only [wkr]; omega) (a := ⟨3, b, 2, t⟩) (by rcases hK with rfl | rfl <;> simp [accS, wkr]) (touch_cas_t m b 2 t (by omega) hl h ht h0)]
  simp [nextS, wkr]
theorem s11f (h : 4 * b + 3 < m.length) (h0 : W m b 2 ≠ 0) : stepS m (wkr K k c t 11 a b r5 r6 r7) = (m, wkr K k c t 21 a b r5 r6 (-1), 0) := by
  rw [stepS_of rfl (by simp only [wkr]; omega) (a := ⟨3, b, 2, t⟩) (by rcases hK with rfl | rfl <;> simp [accS, wkr]) (touch_cas_f m b 2 t (by omega) hl h h0)]
  simp [nextS, wkr, toS]
theorem s12 (h : 4 * a + 3 < m.length) : stepS m (wkr K k c t 12 a b r5 r6 r7) = (m, if W m a 3 = 0 then wkr K k c t 13 a b r5 r6 r7 else wkr K k c t 20 a b r5 r6 (-1), 0) := by
  rw [stepS_of rfl (by simp only [wkr]; omega) (a := ⟨1, a, 3, 0⟩) (by rcases hK with rfl | rfl <;> simp [accS, wkr]) (touch_load m a 3 (by omega) hl h)]
  by_cases hh : W m a 3 = 0
  · simp [nextS, wkr, hh]
  · simp [nextS, wkr, toS, hh]
theorem s13 (h : 4 * b + 3 < m.length) : stepS m (wkr K k c t 13 a b r5 r6 r7) = (m, if W m b 3 = 0 then wkr K k c t 14 a b r5 r6 r7 else wkr K k c t 20 a b r5 r6 (-1), 0) := by
  rw [stepS_of rfl (by simp only [wkr]; omega) (a := ⟨1, b, 3, 0⟩) (by rcases hK with rfl | rfl <;> simp [accS, wkr]) (touch_load m b 3 (by omega) hl h)]
  by_cases hh : W m b 3 = 0
  · simp [nextS, wkr, hh]
  · simp [nextS, wkr, toS, hh]
theorem s14f (h : 4 * a + 3 < m.length) (h0 : W m a 1 ≠ b) : stepS m (wkr K k c t 14 a b r5 r6 r7) = (m, wkr K k c t 20 a b r5 r6 (-1), 0) := by
  rw [stepS_of rfl (by simp only [wkr]; omega) (a := ⟨1, a, 1, 0⟩) (by rcases hK with rfl | rfl <;> simp [accS, wkr]) (touch_load m a 1 (by omega) hl h)]
  simp [nextS, wkr, toS, h0]
theorem s14 (h : 4 * a + 3 < m.length) (h0 : W m a 1 = b) : stepS m (wkr K k c t 14 a b r5 r6 r7) = (m, if r5 = k then (if K = 1 then wkr K k c t 20 a b r5 r6 0 else wkr K k c t 17 a b r5 r6 r7) else (if K = 1 then wkr K k c t 15 a b r5 r6 r7 else wkr K k c t 20 a b r5 r6 0), 0) := by
  rw [stepS_of rfl (by simp only [wkr]; omega) (a := ⟨1, a, 1, 0⟩) (by rcases hK with rfl | rfl <;> simp [accS, wkr]) (touch_load m a 1 (by omega) hl h), h0]
  by_cases h1 : r5 = k <;> by_cases h2 : K = 1 <;> simp [nextS, wkr, toS, h1, h2]
theorem s20 (h : 4 * b + 3 < m.length) : stepS m (wkr K k c t 20 a b r5 r6 r7) = (setW m b 2 0, wkr K k c t 21 a b r5 r6 r7, 0) := by
  rw [stepS_of rfl (by simp only [wkr]; omega) (a := ⟨2, b, 2, 0⟩) (by rcases hK with rfl | rfl <;> simp [accS, wkr]) (touch_store m b 2 0 (by omega) hl h (by unfold okW; omega))]
  simp [nextS, wkr]
theorem s21 (h : 4 * a + 3 < m.length) : stepS m (wkr K k c t 21 a b r5 r6 r7) = (setW m a 2 0, if r7 = -1 then wkr K k c t 0 a b r5 r6 r7 else wkd K k c t 21 a b r5 r6 r7 r7, 0) := by
  rw [stepS_of rfl (by simp only [wkr]; omega) (a := ⟨2, a, 2, 0⟩) (by rcases hK with rfl | rfl <;> simp [accS, wkr]) (touch_store m a 2 0 (by omega) hl h (by unfold okW; omega))]
  by_cases h1 : r7 = -1 <;> simp [nextS, wkr, wkd, h1]
omit hK
theorem s15 {n : Nat} (h : 4 * n + 3 < m.length) (hk : okW k) : stepS m (wkr 1 k n t 15 a b r5 r6 r7) = (setW m n 0 k, wkr 1 k n t 16 a b r5 r6 r7, 0) := by
  rw [stepS_of rfl (by simp [wkr]) (a := ⟨2, n, 0, k⟩) (by simp [accS, wkr]) (touch_store m n 0 k (by omega) hl h hk)]
  simp [nextS, wkr]
theorem s16 {n : Nat} (h : 4 * n + 3 < m.length) (hb : okW b) : stepS m (wkr 1 k n t 16 a b r5 r6 r7) = (setW m n 1 b, wkr 1 k n t 18 a b r5 r6 r7, 0) := by
  rw [stepS_of rfl (by simp [wkr]) (a := ⟨2, n, 1, b⟩) (by simp [accS, wkr]) (touch_store m n 1 b (by omega) hl h hb)]
  simp [nextS, wkr]
theorem s18 {n : Nat} (h : 4 * a + 3 < m.length) (hn : okW n) : stepS m (wkr 1 k n t 18 a b r5 r6 r7) = (setW m a 1 n, wkr 1 k n t 20 a b r5 r6 1, 0) := by
  rw [stepS_of rfl (by simp [wkr]) (a := ⟨2, a, 1, n⟩) (by simp [accS, wkr]) (touch_store m a 1 n (by omega) hl h hn)]
  simp [nextS, wkr, toS]
theorem s17 (h : 4 * b + 3 < m.length) : stepS m (wkr 2 k c t 17 a b r5 r6 r7) = (setW m b 3 1, wkr 2 k c t 19 a b r5 r6 r7, 0) := by
  rw [stepS_of rfl (by simp [wkr]) (a := ⟨2, b, 3, 1⟩) (by simp [accS, wkr]) (touch_store m b 3 1 (by omega) hl h (by unfold okW; omega))]
  simp [nextS, wkr]
theorem s19 (h : 4 * b + 3 < m.length) : stepS m (wkr 2 k c t 19 a b r5 r6 r7) = (m, wkr 2 k c t 22 a b r5 (W m b 1) r7, 0) := by
  rw [stepS_of rfl (by simp [wkr]) (a := ⟨1, b, 1, 0⟩) (by simp [accS, wkr]) (touch_load m b 1 (by omega) hl h)]
  simp [nextS, wkr]
theorem s22 (h : 4 * a + 3 < m.length) (hr : okW r6) : stepS m (wkr 2 k c t 22 a b r5 r6 r7) = (setW m a 1 r6, wkr 2 k c t 20 a b r5 r6 1, 0) := by
  rw [stepS_of rfl (by simp [wkr]) (a := ⟨2, a, 1, r6⟩) (by simp [accS, wkr]) (touch_store m a 1 r6 (by omega) hl h hr)]
  simp [nextS, wkr, toS]
end
end Go.Proofs.Ytnomicnfgdjdeaa.Ab
