/- What the document tells of a chain on which nobody works: Walk, Keys, Still, Place. No condition. -/
import Derived.Test.YtnomicnfgdjdeaaLazyD
namespace Go.Proofs.Ytnomicnfgdjdeaa.Ab
open Go.RowKit
set_option linter.unusedSimpArgs false

theorem word18W (m : List Int) (n j : Nat) (hm : m.length < 1000000) (hj : j < 4) (h : 4 * n + 3 < m.length) : cd Γ 18 [.list 1 (ints m), .int .i64 n, .int .i64 j] = some (.int .i64 (W m n j)) := by
  rw [word18 m n j (by omega) (by omega) (by omega)]
  have : (4 * (n : Int) + (j : Int)).toNat = 4 * n + j := by omega
  rw [this]
  rfl
theorem w18_0 (m : List Int) (n : Nat) (hm : m.length < 1000000) (h : 4 * n + 3 < m.length) : cd Γ 18 [.list 1 (ints m), .int .i64 n, .int .i64 0] = some (.int .i64 (W m n 0)) := word18W m n 0 hm (by omega) h
theorem w18_1 (m : List Int) (n : Nat) (hm : m.length < 1000000) (h : 4 * n + 3 < m.length) : cd Γ 18 [.list 1 (ints m), .int .i64 n, .int .i64 1] = some (.int .i64 (W m n 1)) := word18W m n 1 hm (by omega) h
theorem w18_2 (m : List Int) (n : Nat) (hm : m.length < 1000000) (h : 4 * n + 3 < m.length) : cd Γ 18 [.list 1 (ints m), .int .i64 n, .int .i64 2] = some (.int .i64 (W m n 2)) := word18W m n 2 hm (by omega) h
theorem w18_3 (m : List Int) (n : Nat) (hm : m.length < 1000000) (h : 4 * n + 3 < m.length) : cd Γ 18 [.list 1 (ints m), .int .i64 n, .int .i64 3] = some (.int .i64 (W m n 3)) := word18W m n 3 hm (by omega) h
def ids (P : List Node) : List Int := P.map (fun x : Node => (x.1 : Int))
theorem ids_app (P Q : List Node) : ids (P ++ Q) = ids P ++ ids Q := by simp [ids]
theorem ids_one (x : Node) : ids [x] = [(x.1 : Int)] := rfl
theorem ids_len (P : List Node) : (ids P).length = P.length := by simp [ids]
theorem ids_get (P : List Node) (i : Nat) (h : i < (ids P).length) : (ids P)[i] = ((P[i]'(by simpa [ids] using h)).1 : Int) := by simp [ids]
theorem nodes69 (m : List Int) (h : m.length % 4 = 0) (h2 : 2 ≤ m.length / 4) (h3 : m.length ≤ 2000) : cd Γ 69 [.list 1 (ints m)] = some (.int .i64 ((m.length / 4 : Nat) : Int)) := by
  rw [call (fn := g69) rfl rfl]
  have e1 : Int.tdiv (m.length : Int) 4 = ((m.length / 4 : Nat) : Int) := by rw [Int.tdiv_eq_ediv_of_nonneg (by omega)]; omega
  have e2 : Int.tmod (m.length : Int) 4 = 0 := by rw [Int.tmod_eq_emod_of_nonneg (by omega)]; omega
  simp (disch := omega) [g69, g69b, e1, e2, decF, decT]
theorem walk53_loop (m : List Int) (N : Nat) (hN : N = m.length / 4) (hml : m.length ≤ 2000) : ∀ (R : List Node) (P1 : List Node) (x y : Node) (sl : List (Nat × AVal)) (mem : List (Nat × Blk)) (nx b : Nat),
    Lk m (x :: y :: R) → (∀ z, (y :: R).getLast? = some z → z.1 = 1) → ((x :: y :: R).map (fun z : Node => z.1)).Nodup → P1.length + R.length + 2 ≤ N → lk sl 0 = .list 1 (ints m) → lk sl 4 = .int .i64 N → lk sl 5 = .vec b → mg mem b = some ⟨3, 1, ints (ids (P1 ++ [x]))⟩ → lk sl 6 = .int .i64 P1.length →
    Ends (den Γ (.loop g53l0) ⟨sl, mem, nx, true⟩) fun e sl' mem' _ pr => e = .ret ∧ pr = true ∧ lk sl' 3 = .int .i64 0 ∧ ∃ b, lk sl' 2 = .vec b ∧ mg mem' b = some ⟨3, 1, ints (ids (P1 ++ x :: y :: R))⟩ := by
  intro R
  induction R with
  | nil =>
    intro P1 x y sl mem nx b hL hlast hnd hlen h0 h4 h5 hb h6
    have hy : y.1 = 1 := hlast y rfl
    have hx := hL.head
    have hyy := hL.tail.head
    have hw := w18_1 m x.1 (by omega) hx.1
    rw [hL.2.1] at hw
    apply Ends_loop
    conv => lhs; lhs; rw [g53l0]
    have hl1 : (ids (P1 ++ [x])).length = P1.length + 1 := by rw [ids_len]; simp
    have hg : ∀ h : P1.length < (ids (P1 ++ [x])).length, (ids (P1 ++ [x]))[P1.length] = (x.1 : Int) := fun h => by rw [ids_get]; simp
    have hout : ids (P1 ++ [x]) ++ [1] = ids (P1 ++ [x, y]) := by simp [ids, hy]
    rw [hy] at hw
    simp only [Int.natCast_one] at hw
    simp (disch := omega) [h0, h4, h5, hb, h6, hl1, hg, hw, decT, decF, ifT, ifF, hout]
  | cons z R ih =>
    intro P1 x y sl mem nx b hL hlast hnd hlen h0 h4 h5 hb h6
    have hx := hL.head
    have hyy := hL.tail.head
    have hw := w18_1 m x.1 (by omega) hx.1
    rw [hL.2.1] at hw
    have hy1 : y.1 ≠ 1 := by
      intro e
      simp only [List.map_cons, List.nodup_cons] at hnd
      obtain ⟨u, hu⟩ : ∃ u, (z :: R).getLast? = some u := ⟨_, List.getLast?_eq_some_getLast (by simp)⟩
      have hu1 := hlast u (by rw [List.getLast?_cons_cons]; exact hu)
      have hmem : u ∈ z :: R := List.mem_of_getLast? hu
      exact hnd.2.1 (by rw [e, ← hu1, ← List.map_cons]; exact List.mem_map_of_mem hmem)
    apply Ends_loop
    conv => lhs; lhs; rw [g53l0]
    have hl1 : (ids (P1 ++ [x])).length = P1.length + 1 := by rw [ids_len]; simp
    have hg : ∀ h : P1.length < (ids (P1 ++ [x])).length, (ids (P1 ++ [x]))[P1.length] = (x.1 : Int) := fun h => by rw [ids_get]; simp
    have hout : ids (P1 ++ [x]) ++ [(y.1 : Int)] = ids ((P1 ++ [x]) ++ [y]) := by simp [ids]
    have hlt : (y.1 : Int) < (N : Int) := by have := hyy.1; omega
    have hy1' : ¬ (y.1 : Int) = 1 := by omega
    simp only [List.length_cons] at hlen
    simp (disch := omega) [h0, h4, h5, hb, h6, hl1, hg, hw, decT, decF, ifT, ifF]
    have := ih (P1 ++ [x]) y z
    simp only [List.append_assoc, List.cons_append, List.nil_append, List.length_append, List.length_cons, List.length_nil] at this
    refine this _ _ _ 1 hL.tail (fun u hu => hlast u (by rw [List.getLast?_cons_cons]; exact hu)) ?_ (by omega) ?_ ?_ ?_ ?_ ?_
    · simp only [List.map_cons, List.nodup_cons] at hnd ⊢
      exact hnd.2
    · simp
    · simp
    · simp
    · simp [ids]
    · simp
/-- A path, whatever locks there are. -/
structure Pa (m : List Int) (Q : List Node) : Prop where
  len : m.length ≤ 2000
  four : m.length % 4 = 0
  lk : Lk m (pathOf Q)
  last : W m 1 1 = 0
  nodup : ((pathOf Q).map (fun x : Node => x.1)).Nodup
  many : Q.length + 2 ≤ m.length / 4
theorem Ch.pa {m : List Int} {Q : List Node} (h : Ch m Q) : Pa m Q := ⟨h.len, h.four, h.lk, h.last, h.nodup, h.many⟩
theorem walk53p {m : List Int} {Q : List Node} (h : Pa m Q) : cd Γ 53 [.list 1 (ints m)] = some (.tup [.own 3 1 (ints (ids (pathOf Q))), .int .i64 0]) := by
  have hml := h.len
  have hmany := h.many
  have q1 := nodes69 m h.four (by omega) hml
  have hL := h.lk
  have n0 := hL.head
  have n1 := hL.mem (1, Big) (by simp [pathOf])
  have w0 : cd Γ 18 [.list 1 (ints m), .int .i64 0, .int .i64 0] = _ := w18_0 m 0 (by omega) n0.1
  have w1 : cd Γ 18 [.list 1 (ints m), .int .i64 1, .int .i64 0] = _ := w18_0 m 1 (by omega) n1.1
  have w2 : cd Γ 18 [.list 1 (ints m), .int .i64 1, .int .i64 1] = _ := w18_1 m 1 (by omega) n1.1
  rw [n0.2.1] at w0
  rw [n1.2.1] at w1
  rw [h.last] at w2
  obtain ⟨y, R, hy⟩ : ∃ y R, Q ++ [(1, Big)] = y :: R := by
    cases Q with
    | nil => exact ⟨_, _, rfl⟩
    | cons x Q => exact ⟨_, _, rfl⟩
  have hP : pathOf Q = (0, -Big) :: y :: R := by unfold pathOf; rw [hy]
  have hn := h.nodup
  rw [hP] at hL hn ⊢
  have hRl : R.length = Q.length := by have := congrArg List.length hy; simp at this; omega
  rw [call (fn := g53) rfl rfl]
  apply Ends.fin
  have e0 : (-Big : Int) = -1099511627777 := rfl
  have e1 : (Big : Int) = 1099511627777 := rfl
  rw [e0] at w0
  rw [e1] at w1
  simp (disch := omega) [g53, g53b, q1, w0, w1, w2, decT, decF, ifT, ifF]
  refine Ends.blk (walk53_loop m (m.length / 4) rfl hml R [] (0, -Big) y _ _ _ 0 hL (fun z hz => ?_) hn (by simp; omega) ?_ ?_ ?_ ?_ ?_) ?_
  · have : (Q ++ [(1, Big)]).getLast? = some (1, Big) := by simp
    rw [hy, hz] at this
    simp only [Option.some.injEq] at this
    rw [this]
  all_goals first | (simp; done) | (simp [ids, lst, cI]; done) | skip
  rintro e sl mem nx pr ⟨rfl, rfl, h3, b, h2, hb⟩
  simp only [List.nil_append] at hb
  simp [h2, h3, hb]
theorem keys27_loop (m : List Int) (hml : m.length ≤ 2000) (Q : List Node) (hQ : Q.length ≤ 2000) (hnd : ∀ x ∈ Q, Nd m x) (L : List Int) (hL : L.length = Q.length + 2) (hLg : ∀ i (h : i < Q.length), L[i + 1]? = some (Q[i].1 : Int)) : ∀ (k i : Nat), i + k = Q.length → ∀ (o : List Int) (sl : List (Nat × AVal)) (mem : List (Nat × Blk)) (nx b : Nat),
    o.length ≤ i → lk sl 0 = .list 1 (ints m) → lk sl 4 = .list 1 (ints L) → lk sl 6 = .vec b → mg mem b = some ⟨3, 1, ints o⟩ → lk sl 7 = .int .i64 (i + 1) → ∀ R, R = o ++ kys (Q.drop i) →
    Ends (den Γ (.loop g27l0) ⟨sl, mem, nx, true⟩) fun e sl' mem' _ _ => e = .exit 0 ∧ ∃ b, lk sl' 6 = .vec b ∧ mg mem' b = some ⟨3, 1, ints R⟩ := by
  intro k
  induction k with
  | zero =>
    intro i hi o sl mem nx b ho h0 h4 h6 hb h7 R hR
    apply Ends_loop
    conv => lhs; lhs; rw [g27l0]
    rw [List.drop_of_length_le (by omega)] at hR
    simp only [kys, List.map_nil, List.append_nil] at hR
    subst hR
    simp (disch := omega) [h0, h4, h6, hb, h7, hL, decF]
  | succ k ih =>
    intro i hi o sl mem nx b ho h0 h4 h6 hb h7 R hR
    have hiQ : i < Q.length := by omega
    have hn := hnd _ (List.getElem_mem hiQ)
    have w3 := w18_3 m Q[i].1 (by omega) hn.1
    have w0 := w18_0 m Q[i].1 (by omega) hn.1
    rw [hn.2.2] at w3
    rw [hn.2.1] at w0
    have hg := hLg i hiQ
    have hiL : i + 1 < L.length := by omega
    have hg' : L[i + 1] = (Q[i].1 : Int) := by rw [List.getElem?_eq_getElem hiL] at hg; simpa using hg
    have et : ((i : Int) + 1).toNat = i + 1 := by omega
    apply Ends_loop
    conv => lhs; lhs; rw [g27l0]
    rw [List.drop_eq_getElem_cons hiQ, kys_cons] at hR
    simp (disch := omega) [h0, h4, h6, hb, h7, hL, decT, ifT, et, hiL, hg', w3, w0]
    refine ih (i + 1) (by omega) (o ++ [Q[i].2]) _ _ _ 1 (by simp; omega) ?_ ?_ ?_ ?_ ?_ R (by rw [hR]; simp)
    all_goals first | (simp; done) | skip
theorem walk53 {m : List Int} {Q : List Node} (h : Ch m Q) : cd Γ 53 [.list 1 (ints m)] = some (.tup [.own 3 1 (ints (ids (pathOf Q))), .int .i64 0]) := walk53p h.pa
theorem keys27p {m : List Int} {Q : List Node} (h : Pa m Q) : cd Γ 27 [.list 1 (ints m)] = some (.tup [.own 3 1 (ints (kys Q)), .int .i64 0]) := by
  have hml := h.len
  have hmany := h.many
  have q := walk53p h
  have hL := h.lk
  rw [call (fn := g27) rfl rfl]
  apply Ends.fin
  simp (disch := omega) [g27, g27b, q]
  refine Ends.blk (keys27_loop m hml Q (by omega) (fun x hx => hL.mem x (by simp [pathOf, hx])) (ids (pathOf Q)) (by rw [ids_len]; simp [pathOf]) (fun i hi => ?_) Q.length 0 (by omega) [] _ _ _ 0 ?_ ?_ ?_ ?_ ?_ ?_ _ rfl) ?_
  · simp [ids, pathOf, List.getElem?_append_left, hi]
  all_goals first | (simp; done) | skip
  rintro e sl mem nx pr ⟨rfl, b, h6, hb⟩
  simp at hb
  simp [h6, hb]
theorem keys27 {m : List Int} {Q : List Node} (h : Ch m Q) : cd Γ 27 [.list 1 (ints m)] = some (.tup [.own 3 1 (ints (kys Q)), .int .i64 0]) := keys27p h.pa
theorem still28_loop (m : List Int) (hml : m.length ≤ 2000) (P : List Node) (hP : P.length ≤ 2000) (hnd : ∀ x ∈ P, Nd m x) (hfree : ∀ n, W m n 2 = 0) (hs : P.Pairwise (fun (x y : Node) => x.2 < y.2)) : ∀ (k i : Nat), i + k = P.length → ∀ (sl : List (Nat × AVal)) (mem : List (Nat × Blk)) (nx : Nat),
    lk sl 0 = .list 1 (ints m) → lk sl 3 = .list 1 (ints (ids P)) → lk sl 5 = .int .i64 i →
    Ends (den Γ (.loop g28l0) ⟨sl, mem, nx, true⟩) fun e _ _ _ _ => e = .exit 0 := by
  intro k
  induction k with
  | zero =>
    intro i hi sl mem nx h0 h3 h5
    apply Ends_loop
    conv => lhs; lhs; rw [g28l0]
    simp (disch := omega) [h0, h3, h5, ids_len, show i = P.length by omega]
  | succ k ih =>
    intro i hi sl mem nx h0 h3 h5
    have hiP : i < P.length := by omega
    have hn := hnd _ (List.getElem_mem hiP)
    have w0 := w18_0 m P[i].1 (by omega) hn.1
    have w2 := w18_2 m P[i].1 (by omega) hn.1
    have w3 := w18_3 m P[i].1 (by omega) hn.1
    rw [hn.2.1] at w0
    rw [hfree] at w2
    rw [hn.2.2] at w3
    have hg : ∀ h : i < (ids P).length, (ids P)[i] = (P[i].1 : Int) := fun h => ids_get P i h
    have hl : i < (ids P).length := by rw [ids_len]; exact hiP
    apply Ends_loop
    conv => lhs; lhs; rw [g28l0]
    rcases i with _ | i
    · simp (disch := omega) [h0, h3, h5, ids_len, hiP, hg, w0, w2, w3, decT, decF, hl]
      refine ih 1 (by omega) _ _ _ ?_ ?_ ?_ <;> simp
    · have hi0 : i < P.length := by omega
      have hn' := hnd _ (List.getElem_mem hi0)
      have v0 := w18_0 m P[i].1 (by omega) hn'.1
      rw [hn'.2.1] at v0
      have hg' : ∀ h : i < (ids P).length, (ids P)[i] = (P[i].1 : Int) := fun h => ids_get P i h
      have hl' : i < (ids P).length := by rw [ids_len]; exact hi0
      have hlt := List.pairwise_iff_getElem.1 hs i (i + 1) hi0 hiP (by omega)
      have e1 : ((i : Int) + 1).toNat = i + 1 := by omega
      simp (disch := omega) [h0, h3, h5, ids_len, hiP, hi0, hg, hg', w0, w2, w3, v0, decT, decF, ifT, hl, hl', e1]
      refine ih (i + 2) (by omega) _ _ _ ?_ ?_ ?_
      · simp
      · simp
      · simp; omega
theorem still28 {m : List Int} {Q : List Node} (h : Ch m Q) : cd Γ 28 [.list 1 (ints m)] = some (.bool true) := by
  have hml := h.len
  have hmany := h.many
  have q := walk53 h
  rw [call (fn := g28) rfl rfl]
  apply Ends.fin
  simp (disch := omega) [g28, g28b, q]
  refine Ends.blk (still28_loop m hml (pathOf Q) (by simp; omega) h.lk.mem h.free h.sorted (pathOf Q).length 0 (by omega) _ _ _ ?_ ?_ ?_) ?_
  all_goals first | (simp; done) | skip
  rintro e sl mem nx pr rfl
  simp
theorem place29_loop (m : List Int) (hml : m.length ≤ 2000) (P : List Node) (hP : P.length ≤ 2000) (hnd : ∀ x ∈ P, Nd m x) (key : Int) (j : Nat) (hj : j < P.length) (hlo : ∀ i (h : i < j), P[i].2 < key) (hhi : key ≤ P[j].2) : ∀ (k i : Nat), i + k = j → 1 ≤ i → ∀ (sl : List (Nat × AVal)) (mem : List (Nat × Blk)) (nx : Nat),
    lk sl 0 = .list 1 (ints m) → lk sl 1 = .int .i64 key → lk sl 7 = .list 1 (ints (ids P)) → lk sl 9 = .int .i64 i →
    Ends (den Γ (.loop g29l0) ⟨sl, mem, nx, true⟩) fun e sl' _ _ _ => e = .exit 0 ∧ lk sl' 7 = .list 1 (ints (ids P)) ∧ lk sl' 9 = .int .i64 j := by
  intro k
  induction k with
  | zero =>
    intro i hi hi1 sl mem nx h0 h1 h7 h9
    have hij : i = j := by omega
    subst hij
    have hn := hnd _ (List.getElem_mem hj)
    have w0 := w18_0 m P[i].1 (by omega) hn.1
    rw [hn.2.1] at w0
    have hg : ∀ h : i < (ids P).length, (ids P)[i] = (P[i].1 : Int) := fun h => ids_get P i h
    have hl : i < (ids P).length := by rw [ids_len]; exact hj
    apply Ends_loop
    conv => lhs; lhs; rw [g29l0]
    simp (disch := omega) [h0, h1, h7, h9, ids_len, hg, hl, w0, decF, ifT, hj]
  | succ k ih =>
    intro i hi hi1 sl mem nx h0 h1 h7 h9
    have hiP : i < P.length := by omega
    have hn := hnd _ (List.getElem_mem hiP)
    have w0 := w18_0 m P[i].1 (by omega) hn.1
    rw [hn.2.1] at w0
    have hg : ∀ h : i < (ids P).length, (ids P)[i] = (P[i].1 : Int) := fun h => ids_get P i h
    have hl : i < (ids P).length := by rw [ids_len]; exact hiP
    have hlt := hlo i (by omega)
    apply Ends_loop
    conv => lhs; lhs; rw [g29l0]
    simp (disch := omega) [h0, h1, h7, h9, ids_len, hg, hl, w0, decT, ifT, hiP]
    refine ih (i + 1) (by omega) (by omega) _ _ _ ?_ ?_ ?_ ?_ <;> simp
theorem place29 {m : List Int} {Q : List Node} (h : Ch m Q) {k : Int} (hk : -100 ≤ k ∧ k ≤ 100) {L1 L2 A : List Node} {a b : Node} {D : List Node} (p : Pl Q k L1 L2 A a b D) : cd Γ 29 [.list 1 (ints m), .int .i64 k] = some (.tup [.int .i64 a.1, .int .i64 b.1, .int .i64 0]) := by
  have hml := h.len
  have hmany := h.many
  have q := walk53 h
  have hpl : (pathOf Q).length = Q.length + 2 := by simp [pathOf]
  have hpath := p.path
  have hj : A.length + 1 < (pathOf Q).length := by rw [hpath]; simp
  have hga : (pathOf Q)[A.length]'(by omega) = a := by simp only [hpath]; simp
  have hgb : (pathOf Q)[A.length + 1]'hj = b := by simp only [hpath]; simp
  rw [call (fn := g29) rfl rfl]
  apply Ends.fin
  simp (disch := omega) [g29, g29b, q, decF, decT]
  refine Ends.blk (place29_loop m hml (pathOf Q) (by omega) h.lk.mem k (A.length + 1) hj (fun i hi => ?_) (by rw [hgb]; exact p.hi) A.length 1 (by omega) (by omega) _ _ _ ?_ ?_ ?_ ?_) ?_
  · have hi2 : i < (A ++ [a]).length := by simp; omega
    have e : (pathOf Q)[i]'(by omega) = (A ++ [a])[i] := by
      have : pathOf Q = (A ++ [a]) ++ (b :: D) := by rw [hpath]; simp
      simp only [this]
      rw [List.getElem_append_left hi2]
    rw [e]
    exact p.lo _ (List.getElem_mem _)
  all_goals first | (simp; done) | skip
  rintro e sl mem nx pr ⟨rfl, h7, h9⟩
  have l1 : A.length < (ids (pathOf Q)).length := by rw [ids_len]; omega
  have l2 : A.length + 1 < (ids (pathOf Q)).length := by rw [ids_len]; omega
  have g1 : ∀ h, (ids (pathOf Q))[A.length]'h = (a.1 : Int) := fun h => by rw [ids_get]; simp only [hga]
  have g2 : ∀ h, (ids (pathOf Q))[A.length + 1]'h = (b.1 : Int) := fun h => by rw [ids_get]; simp only [hgb]
  have e1 : ((A.length : Int) + 1).toNat = A.length + 1 := by omega
  simp (disch := omega) [h7, h9, ifT, l1, l2, g1, g2, e1]
end Go.Proofs.Ytnomicnfgdjdeaa.Ab
