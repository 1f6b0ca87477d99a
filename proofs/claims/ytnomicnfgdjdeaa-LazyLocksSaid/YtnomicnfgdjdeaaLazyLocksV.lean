/- LazyLocks by the interpreter: a worker alone that is done has no lock, and changes one word a step at most. No condition. -/
import Derived.Test.YtnomicnfgdjdeaaLazyThreadsV
namespace Go.Proofs.Ytnomicnfgdjdeaa.Ab
open Go.RowKit
set_option linter.unusedSimpArgs false

def cnt (p : Nat → Bool) : Nat → Nat → Nat
  | _, 0 => 0
  | i, k + 1 => (if p i then 1 else 0) + cnt p (i + 1) k
theorem cnt_zero (p : Nat → Bool) : ∀ (k i : Nat), (∀ j, p j = false) → cnt p i k = 0
  | 0, _, _ => rfl
  | k + 1, i, h => by simp [cnt, h i, cnt_zero p k (i + 1) h]
theorem cnt_two (p : Nat → Bool) (a b : Nat) (h : ∀ j, p j = true → j = a ∨ j = b) : ∀ (k i : Nat), cnt p i k ≤ (if i ≤ a ∧ a < i + k then 1 else 0) + (if i ≤ b ∧ b < i + k then 1 else 0)
  | 0, i => by simp [cnt]
  | k + 1, i => by
    have ih := cnt_two p a b h k (i + 1)
    simp only [cnt]
    cases hp : p i with
    | false =>
      simp only [Bool.false_eq_true, if_false]
      split at ih <;> split at ih <;> split <;> split <;> omega
    | true =>
      simp only [if_true]
      rcases h i hp with e | e <;> (split at ih <;> split at ih <;> split <;> split <;> omega)
theorem cnt_one (p : Nat → Bool) (a : Nat) (h : ∀ j, p j = true → j = a) : ∀ (k i : Nat), cnt p i k ≤ (if i ≤ a ∧ a < i + k then 1 else 0)
  | 0, i => by simp [cnt]
  | k + 1, i => by
    have ih := cnt_one p a h k (i + 1)
    simp only [cnt]
    cases hp : p i with
    | false =>
      simp only [Bool.false_eq_true, if_false]
      split at ih <;> split <;> omega
    | true =>
      have e := h i hp
      simp only [if_true]
      split at ih <;> split <;> omega
theorem cnt_le (p : Nat → Bool) : ∀ (k i : Nat), cnt p i k ≤ k
  | 0, _ => Nat.le_refl _
  | k + 1, i => by have := cnt_le p k (i + 1); simp only [cnt]; split <;> omega
theorem locks7_loop0 (m n : List Int) (w v : Wk) (v13 v18 : Int) (N : Nat) (hN : n.length = 4 * N) (hN2 : N ≤ 1000) (hlk : ∀ k, W n k 2 = 0 ∨ W n k 2 = 9) (p : Nat → Bool) (hp : ∀ k, p k = decide (W n k 2 ≠ 0)) : ∀ (k i : Nat), i + k = N → ∀ (c : Nat) (sl : List (Nat × AVal)) (mem : List (Nat × Blk)) (nx b d : Nat),
    c ≤ i → b ≠ d → lk sl 7 = .bool true → lk sl 9 = .list 1 (ints m) → lk sl 11 = .ptr b 0 0 → mg mem b = some ⟨25, 14, [w.c]⟩ → lk sl 12 = .int .i64 0 → lk sl 13 = .int .i64 v13 → lk sl 14 = .list 1 (ints n) → lk sl 15 = .ptr d 0 0 → mg mem d = some ⟨25, 14, [v.c]⟩ → lk sl 17 = .int .i64 c → lk sl 18 = .int .i64 v18 → lk sl 19 = .int .i64 i →
    ∀ C : Nat, C = c + cnt p i k →
    Ends (den Γ (.loop g7l0) ⟨sl, mem, nx, true⟩) fun e sl' mem' _ pr => e = .exit 2 ∧ pr = true ∧ lk sl' 7 = .bool true ∧ lk sl' 9 = .list 1 (ints m) ∧ lk sl' 12 = .int .i64 0 ∧ lk sl' 13 = .int .i64 v13 ∧ lk sl' 14 = .list 1 (ints n) ∧ lk sl' 17 = .int .i64 C ∧ lk sl' 18 = .int .i64 v18 ∧
      ∃ b, lk sl' 11 = .ptr b 0 0 ∧ ∃ d, lk sl' 15 = .ptr d 0 0 ∧ ¬ b = d ∧ mg mem' b = some ⟨25, 14, [w.c]⟩ ∧ mg mem' d = some ⟨25, 14, [v.c]⟩ := by
  have e4 : Int.tdiv (n.length : Int) 4 = (N : Int) := by rw [Int.tdiv_eq_ediv_of_nonneg (by omega)]; omega
  intro k
  induction k with
  | zero =>
    intro i hi c sl mem nx b d hc hbd h7 h9 h11 hb h12 h13 h14 h15 hd h17 h18 h19 C hC
    simp only [cnt, Nat.add_zero] at hC
    subst hC
    apply Ends_loop
    conv => lhs; lhs; rw [g7l0]
    simp (disch := omega) [h7, h9, h11, hb, h12, h13, h14, h15, hd, h17, h18, h19, hbd, ifF, decF, e4]
  | succ k ih =>
    intro i hi c sl mem nx b d hc hbd h7 h9 h11 hb h12 h13 h14 h15 hd h17 h18 h19 C hC
    have hil : i < N := by omega
    have hidx : 4 * i + 2 < n.length := by omega
    have hv : n[4 * i + 2] = W n i 2 := by
      unfold W
      rw [List.getD_eq_getElem?_getD, List.getElem?_eq_getElem hidx]; rfl
    have et : (4 * (i : Int) + 2).toNat = 4 * i + 2 := by omega
    apply Ends_loop
    conv => lhs; lhs; rw [g7l0]
    simp only [cnt] at hC
    by_cases h0 : W n i 2 = 0
    · rw [show p i = false by rw [hp]; simp [h0]] at hC
      simp only [Bool.false_eq_true, if_false] at hC
      simp (disch := omega) [h7, h9, h11, hb, h12, h13, h14, h15, hd, h17, h18, h19, hbd, ifF, ifT, decT, e4, et, hidx, hv, h0]
      refine ih (i + 1) (by omega) c _ _ _ 0 1 (by omega) (by omega) ?_ ?_ ?_ ?_ ?_ ?_ ?_ ?_ ?_ ?_ ?_ ?_ C (by omega) <;> simp
    · have h9' : W n i 2 = 9 := (hlk i).resolve_left h0
      rw [show p i = true by rw [hp]; simp [h9']] at hC
      simp only [if_true] at hC
      simp (disch := omega) [h7, h9, h11, hb, h12, h13, h14, h15, hd, h17, h18, h19, hbd, ifF, ifT, decT, e4, et, hidx, hv, h9']
      refine ih (i + 1) (by omega) (c + 1) _ _ _ 0 1 (by omega) (by omega) ?_ ?_ ?_ ?_ ?_ ?_ ?_ ?_ ?_ ?_ ?_ ?_ C (by omega) <;> simp
theorem locks7_loop1 (m n : List Int) (w v : Wk) (v13 v17 : Int) (hmn : n.length = m.length) (hN2 : n.length ≤ 4000) (p : Nat → Bool) (hp : ∀ k, p k = decide (n.getD k 0 ≠ m.getD k 0)) : ∀ (k i : Nat), i + k = n.length → ∀ (c : Nat) (sl : List (Nat × AVal)) (mem : List (Nat × Blk)) (nx b d : Nat),
    c ≤ i → b ≠ d → lk sl 7 = .bool true → lk sl 9 = .list 1 (ints m) → lk sl 11 = .ptr b 0 0 → mg mem b = some ⟨25, 14, [w.c]⟩ → lk sl 12 = .int .i64 0 → lk sl 13 = .int .i64 v13 → lk sl 14 = .list 1 (ints n) → lk sl 15 = .ptr d 0 0 → mg mem d = some ⟨25, 14, [v.c]⟩ → lk sl 17 = .int .i64 v17 → lk sl 18 = .int .i64 c → lk sl 20 = .int .i64 i →
    ∀ C : Nat, C = c + cnt p i k →
    Ends (den Γ (.loop g7l1) ⟨sl, mem, nx, true⟩) fun e sl' mem' _ pr => e = .exit 4 ∧ pr = true ∧ lk sl' 7 = .bool true ∧ lk sl' 9 = .list 1 (ints m) ∧ lk sl' 12 = .int .i64 0 ∧ lk sl' 13 = .int .i64 v13 ∧ lk sl' 14 = .list 1 (ints n) ∧ lk sl' 17 = .int .i64 v17 ∧ lk sl' 18 = .int .i64 C ∧
      ∃ b, lk sl' 11 = .ptr b 0 0 ∧ ∃ d, lk sl' 15 = .ptr d 0 0 ∧ ¬ b = d ∧ mg mem' b = some ⟨25, 14, [w.c]⟩ ∧ mg mem' d = some ⟨25, 14, [v.c]⟩ := by
  intro k
  induction k with
  | zero =>
    intro i hi c sl mem nx b d hc hbd h7 h9 h11 hb h12 h13 h14 h15 hd h17 h18 h20 C hC
    simp only [cnt, Nat.add_zero] at hC
    subst hC
    apply Ends_loop
    conv => lhs; lhs; rw [g7l1]
    simp (disch := omega) [h7, h9, h11, hb, h12, h13, h14, h15, hd, h17, h18, h20, hbd, ifF, decF]
  | succ k ih =>
    intro i hi c sl mem nx b d hc hbd h7 h9 h11 hb h12 h13 h14 h15 hd h17 h18 h20 C hC
    have hin : i < n.length := by omega
    have him : i < m.length := by omega
    have gn : n.getD i 0 = n[i] := by rw [List.getD_eq_getElem?_getD, List.getElem?_eq_getElem hin]; rfl
    have gm : m.getD i 0 = m[i] := by rw [List.getD_eq_getElem?_getD, List.getElem?_eq_getElem him]; rfl
    apply Ends_loop
    conv => lhs; lhs; rw [g7l1]
    simp only [cnt] at hC
    by_cases h0 : n[i] = m[i]
    · rw [show p i = false by rw [hp, gn, gm]; simp [h0]] at hC
      simp only [Bool.false_eq_true, if_false] at hC
      simp (disch := omega) [h7, h9, h11, hb, h12, h13, h14, h15, hd, h17, h18, h20, hbd, ifF, ifT, decT, hin, him, h0]
      refine ih (i + 1) (by omega) c _ _ _ 0 1 (by omega) (by omega) ?_ ?_ ?_ ?_ ?_ ?_ ?_ ?_ ?_ ?_ ?_ ?_ C (by omega) <;> simp
    · rw [show p i = true by rw [hp, gn, gm]; simp [h0]] at hC
      simp only [if_true] at hC
      simp (disch := omega) [h7, h9, h11, hb, h12, h13, h14, h15, hd, h17, h18, h20, hbd, ifF, ifT, decT, hin, him, h0]
      refine ih (i + 1) (by omega) (c + 1) _ _ _ 0 1 (by omega) (by omega) ?_ ?_ ?_ ?_ ?_ ?_ ?_ ?_ ?_ ?_ ?_ ?_ C (by omega) <;> simp
set_option maxHeartbeats 2000000 in
theorem locks7_loop2 : ∀ (n : Nat) (m : List Int) (w : Wk) (mf : List Int) (wf : Wk), Run (GS 9) n m w mf wf → wf.done = true → ∀ (i : Nat) (sl : List (Nat × AVal)) (mem : List (Nat × Blk)) (nx b : Nat),
    i + n ≤ 200 → m.length % 4 = 0 → m.length ≤ 4000 → (∀ x ∈ m, i64 x) → w.ok → lk sl 7 = .bool true → lk sl 9 = .list 1 (ints m) → lk sl 11 = .ptr b 0 0 → mg mem b = some ⟨25, 14, [w.c]⟩ → lk sl 12 = .int .i64 0 → lk sl 13 = .int .i64 i →
    Ends (den Γ (.loop g7l2) ⟨sl, mem, nx, true⟩) fun e sl' mem' _ pr => e = .exit 0 ∧ pr = true ∧ lk sl' 7 = .bool true ∧ lk sl' 12 = .int .i64 0 ∧ ∃ b, lk sl' 11 = .ptr b 0 0 ∧ mg mem' b = some ⟨25, 14, [wf.c]⟩ := by
  intro n m w mf wf r
  induction r with
  | refl m w =>
    intro hd i sl mem nx b hi h4 hm hmi hw h7 h9 h11 hb h12 h13
    rw [wcell_of w hd _ rfl] at hb
    apply Ends_loop
    conv => lhs; lhs; rw [g7l2]
    by_cases hlt : (i : Int) < 200
    · simp (disch := omega) [h7, h9, h11, hb, h12, h13, hlt, decT, wcell_of w hd _ rfl]
    · simp (disch := omega) [h7, h9, h11, hb, h12, h13, hlt, decF, wcell_of w hd _ rfl]
  | @step n m w m1 w1 mf wf hd0 hst hg r ih =>
    intro hd i sl mem nx b hi h4 hm hmi hw h7 h9 h11 hb h12 h13
    obtain ⟨gl, gs, ⟨la, lb, gab⟩, g9, g3, gd⟩ := hg
    have st := step19 (w := w) (m := m) (by omega) hmi hw
    have s2 := stepS_i64 m w hmi
    have s3 := stepS_ok m w hmi hw
    rw [hst] at st s2 s3
    rw [stepV_tup] at st
    simp only at st s2 s3
    -- how many locks, how many words
    have c0 : ∃ p : Nat → Bool, (∀ k, p k = decide (W m1 k 2 ≠ 0)) ∧ cnt p 0 (m1.length / 4) ≤ 2 ∧ ((∀ k, W m1 k 2 = 0) → cnt p 0 (m1.length / 4) = 0) := by
      refine ⟨fun k => decide (W m1 k 2 ≠ 0), fun _ => rfl, ?_, fun hz => cnt_zero _ _ _ (fun j => by simp [hz j])⟩
      have := cnt_two (fun k => decide (W m1 k 2 ≠ 0)) la lb (fun j hj => by
        by_cases e1 : j = la
        · exact .inl e1
        · by_cases e2 : j = lb
          · exact .inr e2
          · have := gab j e1 e2; simp [this] at hj) (m1.length / 4) 0
      split at this <;> split at this <;> omega
    obtain ⟨p0, hp0, hc0, hz0⟩ := c0
    have c1 : ∃ p : Nat → Bool, (∀ k, p k = decide (m1.getD k 0 ≠ m.getD k 0)) ∧ cnt p 0 m1.length ≤ 1 ∧ (m1 = m → cnt p 0 m1.length = 0) := by
      refine ⟨fun k => decide (m1.getD k 0 ≠ m.getD k 0), fun _ => rfl, ?_, fun hz => cnt_zero _ _ _ (fun j => by simp [hz])⟩
      rcases gs with hz | ⟨j, x, hx⟩
      · rw [cnt_zero _ _ _ (fun j => by simp [hz])]; omega
      · have := cnt_one (fun k => decide (m1.getD k 0 ≠ m.getD k 0)) j (fun k hk => by
          by_cases e : k = j
          · exact e
          · exfalso
            rw [hx] at hk
            simp [List.getD_eq_getElem?_getD, List.getElem?_set, Ne.symm e] at hk) m1.length 0
        split at this <;> omega
    obtain ⟨p1, hp1, hc1, hz1⟩ := c1
    generalize hC0 : cnt p0 0 (m1.length / 4) = C0 at hc0 hz0
    generalize hC1 : cnt p1 0 m1.length = C1 at hc1 hz1
    have hb' := hb
    rw [Wk.cell, hd0] at hb' st
    apply Ends_loop
    conv => lhs; lhs; rw [g7l2]
    simp (disch := omega) [h7, h9, h11, hb', h12, h13, decT, st, gl]
    refine Ends.ctx (fun z => bindN (bindN (unBlk 1 (bindN (unBlk 2 z) _)) _) _) (locks7_loop0 m m1 w w1 i 0 (m1.length / 4) (by omega) (by omega) g9 p0 hp0 (m1.length / 4) 0 (by omega) 0 _ _ _ 0 1 (by omega) (by omega) ?_ ?_ ?_ ?_ ?_ ?_ ?_ ?_ ?_ ?_ ?_ ?_ C0 (by omega)) ?_
    all_goals first | (simp; done) | (simp [Wk.cell w, hd0]; done) | skip
    rintro e sl mem nx pr ⟨rfl, rfl, u7, u9, u12, u13, u14, u17, u18, b, u11, d, u15, ubd, ub, ud⟩
    simp
    refine Ends.ctx (fun z => bindN (bindN (unBlk 1 (bindN (unBlk 4 z) _)) _) _) (locks7_loop1 m m1 w w1 i C0 gl (by omega) p1 hp1 m1.length 0 (by omega) 0 _ _ _ b d (by omega) ubd ?_ ?_ ?_ ?_ ?_ ?_ ?_ ?_ ?_ ?_ ?_ ?_ C1 (by omega)) ?_
    all_goals first | (simp [u7, u9, u12, u13, u14, u17, u18, u11, u15, ub, ud]; done) | skip
    rintro e sl mem nx pr ⟨rfl, rfl, v7, v9, v12, v13, v14, v17, v18, b, v11, d, v15, vbd, vb, vd⟩
    have hno3 : w.kind = 3 → C1 = 0 ∧ C0 = 0 := fun h => ⟨hz1 (g3 h).1, hz0 (g3 h).2⟩
    have hnod : w1.done = true → C0 = 0 := fun h => hz0 (gd h)
    have vb' := vb
    rw [Wk.cell] at vb'
    have vd' := vd
    by_cases hk3 : w.kind = 3
    · obtain ⟨z1, z2⟩ := hno3 hk3
      subst z1 z2
      cases hd1 : w1.done with
      | true =>
        rw [Wk.cell, hd1] at vd'
        simp (disch := omega) [v7, v9, v12, v13, v14, v17, v18, v11, v15, vb', vd', hk3, ifT, ifF]
        refine ih hd (i + 1) _ _ _ b (by omega) (by omega) (by omega) s2 s3 ?_ ?_ ?_ ?_ ?_ ?_
        all_goals first | (simp [v7, v11, v12, Wk.cell w1, hd1]; done) | skip
      | false =>
        rw [Wk.cell, hd1] at vd'
        simp (disch := omega) [v7, v9, v12, v13, v14, v17, v18, v11, v15, vb', vd', hk3, ifT, ifF]
        refine ih hd (i + 1) _ _ _ b (by omega) (by omega) (by omega) s2 s3 ?_ ?_ ?_ ?_ ?_ ?_
        all_goals first | (simp [v7, v11, v12, Wk.cell w1, hd1]; done) | skip
    · cases hd1 : w1.done with
      | true =>
        have z2 := hnod hd1
        subst z2
        rw [Wk.cell, hd1] at vd'
        simp (disch := omega) [v7, v9, v12, v13, v14, v17, v18, v11, v15, vb', vd', hk3, ifT, ifF, decF]
        refine ih hd (i + 1) _ _ _ b (by omega) (by omega) (by omega) s2 s3 ?_ ?_ ?_ ?_ ?_ ?_
        all_goals first | (simp [v7, v11, v12, Wk.cell w1, hd1]; done) | skip
      | false =>
        rw [Wk.cell, hd1] at vd'
        simp (disch := omega) [v7, v9, v12, v13, v14, v17, v18, v11, v15, vb', vd', hk3, ifT, ifF, decF]
        refine ih hd (i + 1) _ _ _ b (by omega) (by omega) (by omega) s2 s3 ?_ ?_ ?_ ?_ ?_ ?_
        all_goals first | (simp [v7, v11, v12, Wk.cell w1, hd1]; done) | skip
theorem locks7 (raw : List Int) (hraw : ∀ n ∈ raw, i64 n) (hrl : raw.length < 100000000000000) (kind key : Int) (hki : i64 kind) (hky : i64 key) :
    cd Γ 7 [.list 1 (ints raw), .int .i64 kind, .int .i64 key] = some (.bool true) := by
  have q1 := keys24 raw hraw hrl
  have hs := keysS_ok raw
  generalize keysS raw = s at q1 hs
  have hsl := hs.len
  have q2 : cd Γ 25 [.list 1 (ints s), .int .i64 1] = _ := make25 s hs 1 (by omega)
  have hml := makeS_len s 1
  have hmi := (makeS_bnd hs 1).i64
  have hch := makeS_ch hs (more := 1) (by omega)
  have hsp := fun (n : Nat) (hn : s.length + 2 ≤ n) => W_spare s 1 n 3 hn
  generalize makeS s 1 = m at q2 hml hch hsp hmi
  have p1 := pick17 kind 3 hki (by omega)
  have l1 := pickI_lt kind 3 (by omega)
  have p2 := pick17 key 21 hky (by omega)
  have l2 := pickI_lt key 21 (by omega)
  generalize pickI kind 3 = K0 at p1 l1
  generalize pickI key 21 = k at p2 l2
  have e4 : Int.tdiv (m.length : Int) 4 = (m.length : Int) / 4 := Int.tdiv_eq_ediv_of_nonneg (by omega)
  have hK : 1 + K0 = 1 ∨ 1 + K0 = 2 ∨ 1 + K0 = 3 := by omega
  have hcn : (m.length : Int) / 4 - 1 = ((m.length / 4 - 1 : Nat) : Int) := by omega
  have b0 := begin14 (1 + K0) k 8 ((m.length : Int) / 4 - 1)
  have e0 := begin_wkr (1 + K0) k 8 (m.length / 4 - 1) hK (by omega) (by omega)
  rw [hcn, e0] at b0
  have hkq := qR_kys s 0
  have hql := qR_len s 0
  have z : i64 0 := by unfold i64; simp
  obtain ⟨L1, L2, A, a, b, D, pl, n, w', Q', r, d1, _, _, _, d5, _⟩ := op_run (k := k) (t := 9) (c := m.length / 4 - 1) hch hK (by omega) (by unfold okW; omega) (by omega) (makeS_spare (by omega)) (hsp _ (by omega)) (by omega) 0 0 0 0 0
  have hn : n ≤ 200 := by
    rw [d5, stepsN, hkq]
    have := List.length_filter_le (fun x => decide (x < k)) s
    split
    · omega
    · split <;> omega
  have wok : (wkr (1 + K0) k ((m.length / 4 - 1 : Nat) : Int) 9 0 0 0 0 0 0).ok := wkr_ok (by unfold i64; omega) (by unfold i64; omega) (by unfold i64; omega) (by unfold i64; omega) z z z z z z
  rw [call (fn := g7) rfl rfl]
  apply Ends.fin
  simp (disch := omega) [g7, g7b, awake13, q1, q2, p1, p2, e4, hcn, b0]
  refine Ends.blk (locks7_loop2 n m _ _ w' r d1 0 _ _ _ 0 (by omega) hch.four (by omega) hmi wok ?_ ?_ ?_ ?_ ?_ ?_) ?_
  all_goals first | (simp; done) | skip
  rintro e sl mem nx pr ⟨rfl, rfl, u7, u12, b, u11, ub⟩
  rw [wcell_of w' d1 _ rfl] at ub
  simp [u7, u12, u11, ub]
theorem locks_cd (vs : List AVal) (h : ArgsOk [kIs, kI, kI] vs) : cd Γ 7 vs = some (.bool true) := by
  obtain ⟨a, b, c, rfl, ha, hb, hc⟩ := args3 h
  obtain ⟨raw, rfl, h1, h2⟩ := arg_ints ha
  obtain ⟨kind, rfl, h3⟩ := arg_int hb
  obtain ⟨key, rfl, h4⟩ := arg_int hc
  exact locks7 raw h2 (by omega) kind key h3 h4
end Go.Proofs.Ytnomicnfgdjdeaa.Ab
