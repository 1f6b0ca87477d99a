/- LazyRuns by the interpreter: one worker alone goes as the document says, step by step. No condition. -/
import Derived.Test.YtnomicnfgdjdeaaLazyQ
namespace Go.Proofs.Ytnomicnfgdjdeaa.Ab
open Go.RowKit
set_option linter.unusedSimpArgs false

theorem aloneL_len (m0 : List Int) (w0 : Wk) : ∀ (k : Nat) (m : List Int) (w : Wk) (n : Int), m.length = m0.length → (aloneL m0 w0 k m w n).1.length = m0.length
  | 0, m, w, n, h => by unfold aloneL; split <;> simp [h]
  | k + 1, m, w, n, h => by
    unfold aloneL
    split
    · exact h
    · split
      · exact aloneL_len m0 w0 k _ _ _ (by rw [stepS_len, h])
      · rfl
theorem aloneS_len (m : List Int) (w : Wk) : (aloneS m w).1.length = m.length := aloneL_len m w _ m w 0 rfl
theorem runs4_loop0 (v2 v3 : Int) (m : List Int) (v44 : List (List AVal)) (v45 v46 : Int) (w : Wk) : ∀ (k i : Nat), i + k = 40 → ∀ (a : List Int) (v : Wk) (sl : List (Nat × AVal)) (mem : List (Nat × Blk)) (nx b c : Nat),
    a.length ≤ 1000 → (∀ n ∈ a, i64 n) → v.ok → b ≠ c → lk sl 2 = .int .i64 v2 → lk sl 3 = .int .i64 v3 → lk sl 11 = .bool true → lk sl 12 = .list 1 (ints m) → lk sl 15 = .ptr b 0 0 → mg mem b = some ⟨25, 14, [w.c]⟩ → lk sl 17 = .list 1 (ints a) → lk sl 18 = .ptr c 0 0 → mg mem c = some ⟨25, 14, [v.c]⟩ → lk sl 19 = .int .i64 i →
    lk sl 44 = .list 1 v44 → lk sl 45 = .int .i64 v45 → lk sl 46 = .int .i64 v46 →
    Ends (den Γ (.loop g4l0) ⟨sl, mem, nx, true⟩) fun e sl' mem' nx' pr => e = .exit 2 ∧ pr = true ∧ lk sl' 2 = .int .i64 v2 ∧ lk sl' 3 = .int .i64 v3 ∧ lk sl' 11 = .bool true ∧ lk sl' 12 = .list 1 (ints m) ∧ lk sl' 44 = .list 1 v44 ∧ lk sl' 45 = .int .i64 v45 ∧ lk sl' 46 = .int .i64 v46 ∧
      ∃ b, lk sl' 15 = .ptr b 0 0 ∧ ∃ c, lk sl' 18 = .ptr c 0 0 ∧ b < nx' ∧ mg mem' b = some ⟨25, 14, [w.c]⟩ ∧ ∃ v : Wk, mg mem' c = some ⟨25, 14, [v.c]⟩ := by
  intro k
  induction k with
  | zero =>
    intro i hi a v sl mem nx b c ha hai hv hbc h2 h3 h11 h12 h15 hb h17 h18 hc h19 h44 h45 h46
    apply Ends_loop
    conv => lhs; lhs; rw [g4l0]
    have hi' : i = 40 := by omega
    subst hi'
    simp (disch := omega) [h2, h3, h11, h12, h15, hb, h17, h18, hc, h19, h44, h45, h46, hbc, ifF, decF]
    exact ⟨v, rfl⟩
  | succ k ih =>
    intro i hi a v sl mem nx b c ha hai hv hbc h2 h3 h11 h12 h15 hb h17 h18 hc h19 h44 h45 h46
    apply Ends_loop
    conv => lhs; lhs; rw [g4l0]
    have hc' := hc
    cases hd : v.done with
    | true =>
      rw [Wk.cell, hd] at hc'
      simp (disch := omega) [h2, h3, h11, h12, h15, hb, h17, h18, hc', h19, h44, h45, h46, hbc, ifF, decF, decT]
      exact ⟨v, by rw [Wk.cell, hd]⟩
    | false =>
      rw [Wk.cell, hd] at hc'
      have p1 := step19 (w := v) (m := a) (by omega) hai hv
      have p2 := step20 a v (by omega) hai hv
      have s1 := stepS_len a v
      have s2 := stepS_i64 a v hai
      have s3 := stepS_ok a v hai hv
      rw [stepV_tup] at p1 p2
      generalize stepS a v = r at p1 p2 s1 s2 s3
      obtain ⟨m', w', e⟩ := r
      simp only at p1 p2 s1 s2 s3
      rw [Wk.cell, hd] at p1 p2
      have q := ints21 m' m' (by omega)
      by_cases he : e = 0
      · subst he
        simp (disch := omega) [h2, h3, h11, h12, h15, hb, h17, h18, hc', h19, h44, h45, h46, hbc, ifF, decF, decT, p1, p2, q, eqW]
        refine ih (i + 1) (by omega) m' w' _ _ _ 0 1 (by omega) s2 s3 (by omega) ?_ ?_ ?_ ?_ ?_ ?_ ?_ ?_ ?_ ?_ ?_ ?_ ?_
        all_goals first | (simp; done) | skip
      · simp (disch := omega) [h2, h3, h11, h12, h15, hb, h17, h18, hc', h19, h44, h45, h46, hbc, ifF, decF, decT, p1, p2, q, eqW, he]
        exact ⟨v, by rw [Wk.cell, hd]⟩
theorem runs4_loop1 (v2 v3 : Int) (hv2 : i64 v2) (hv3 : i64 v3) (m : List Int) (hm : m.length ≤ 1000) (hmi : ∀ n ∈ m, i64 n) (N : List Int) (hN : N.length = 2) (hNi : ∀ n ∈ N, i64 n) : ∀ (k i : Nat), i + k = 2 → ∀ (sl : List (Nat × AVal)) (mem : List (Nat × Blk)) (nx : Nat),
    lk sl 2 = .int .i64 v2 → lk sl 3 = .int .i64 v3 → lk sl 11 = .bool true → lk sl 12 = .list 1 (ints m) → lk sl 44 = .list 1 (ints N) → lk sl 45 = .int .i64 2 → lk sl 46 = .int .i64 i →
    Ends (den Γ (.loop g4l1) ⟨sl, mem, nx, true⟩) fun e sl' _ _ pr => e = .exit 0 ∧ pr = true ∧ lk sl' 11 = .bool true := by
  intro k
  induction k with
  | zero =>
    intro i hi sl mem nx h2 h3 h11 h12 h44 h45 h46
    apply Ends_loop
    conv => lhs; lhs; rw [g4l1]
    simp [h2, h3, h11, h12, h44, h45, h46, show i = 2 by omega]
  | succ k ih =>
    intro i hi sl mem nx h2 h3 h11 h12 h44 h45 h46
    apply Ends_loop
    conv => lhs; lhs; rw [g4l1]
    have hi2 : (i : Int) < 2 := by omega
    have hiN : i < N.length := by omega
    have p1 := pick17 v2 3 hv2 (by omega)
    have l1 := pickI_lt v2 3 (by omega)
    have p2 := pick17 v3 21 hv3 (by omega)
    have l2 := pickI_lt v3 21 (by omega)
    have p3 := begin15 (1 + pickI v2 3) (pickI v3 21) 4 N[i]
    have hwok := beginS_ok (kind := 1 + pickI v2 3) (key := pickI v3 21) (thread := 4) (node := N[i]) (by unfold i64; omega) (by unfold i64; omega) (hNi _ (List.getElem_mem _))
    generalize (beginS (1 + pickI v2 3) (pickI v3 21) 4 N[i]) = bw at p3 hwok
    obtain ⟨w, be⟩ := bw
    simp only at p3 hwok
    simp (disch := omega) [h2, h3, h11, h12, h44, h45, h46, hi2, hiN, decT, p1, p2, p3]
    refine Ends.ctx (fun z => bindN (bindN (unBlk 1 (bindN (unBlk 2 z) _)) _) _) (runs4_loop0 v2 v3 m (ints N) 2 i w 40 0 rfl m w _ _ _ 0 1 hm hmi hwok (by omega) ?_ ?_ ?_ ?_ ?_ ?_ ?_ ?_ ?_ ?_ ?_ ?_ ?_) ?_
    all_goals first | (simp; done) | skip
    rintro e sl mem nx pr ⟨rfl, rfl, g2, g3, g11, g12, g44, g45, g46, b, g15, c, g18, gbn, gb, v, gc⟩
    have gc' := gc
    cases hd : v.done with
    | false =>
      rw [Wk.cell, hd] at gc'
      simp (disch := omega) [g2, g3, g11, g12, g44, g45, g46, g15, gb, g18, gc']
      refine ih (i + 1) (by omega) _ _ _ ?_ ?_ ?_ ?_ ?_ ?_ ?_ <;> simp [g2, g3, g11, g12, g44, g45]
    | true =>
      rw [Wk.cell, hd] at gc'
      have a1 := alone22 m w (by omega) hmi hwok
      have a2 := alone23 m w (by omega) hmi hwok
      have al := aloneS_len m w
      unfold aloneV at a1 a2
      generalize aloneS m w = r at a1 a2 al
      obtain ⟨n, x, j, er⟩ := r
      simp only at a1 a2 al
      have q := ints21 n n (by omega)
      simp (disch := omega) [g2, g3, g11, g12, g44, g45, g46, g15, gb, g18, gc', a1, a2, q, eqW, ifF]
      refine ih (i + 1) (by omega) _ _ _ ?_ ?_ ?_ ?_ ?_ ?_ ?_ <;> simp [g2, g3, g11, g12, g44, g45]
theorem runs4 (raw : List Int) (hraw : ∀ n ∈ raw, i64 n) (hrl : raw.length < 100000000000000) (ch : List Pr) (hch : ∀ p ∈ ch, p.ok) (hcl : ch.length < 1000000000000000) (kind key node : Int) (hk : i64 kind) (hy : i64 key) (hn : i64 node) :
    cd Γ 4 [.list 1 (ints raw), .list 2 (lst Pr.c ch), .int .i64 kind, .int .i64 key, .int .i64 node] = some (.bool true) := by
  obtain ⟨m, q3, m1, m2, m3⟩ := words16 raw hraw hrl 2 (by unfold i64; simp) ch hch hcl
  have p := pick17 node 12 hn (by omega)
  have l := pickI_lt node 12 (by omega)
  rw [call (fn := g4) rfl rfl]
  apply Ends.fin
  have e4 : Int.tdiv (m.length : Int) 4 = (m.length : Int) / 4 := Int.tdiv_eq_ediv_of_nonneg (by omega)
  simp (disch := omega) [g4, g4b, awake13, q3, e4, p]
  refine Ends.blk (runs4_loop1 kind key hk hy m (by omega) m3.i64 [(m.length : Int) / 4 - 1, pickI node 12] rfl ?_ 2 0 rfl _ _ _ ?_ ?_ ?_ ?_ ?_ ?_ ?_) ?_
  · intro n hn
    simp only [List.mem_cons, List.not_mem_nil, or_false] at hn
    unfold i64
    rcases hn with rfl | rfl <;> omega
  all_goals first | (simp; done) | (simp [lst, cI]; done) | skip
  rintro e sl mem nx pr ⟨rfl, rfl, h11⟩
  simp [h11]
theorem runs_cd (vs : List AVal) (h : ArgsOk [kIs, kPs, kI, kI, kI] vs) : cd Γ 4 vs = some (.bool true) := by
  obtain ⟨a, b, c, d, e, rfl, ha, hb, hc, hd, he⟩ := args5 h
  obtain ⟨raw, rfl, h1, h2⟩ := arg_ints ha
  obtain ⟨ch, rfl, h3, h4⟩ := arg_prs hb
  obtain ⟨kind, rfl, h5⟩ := arg_int hc
  obtain ⟨key, rfl, h6⟩ := arg_int hd
  obtain ⟨node, rfl, h7⟩ := arg_int he
  exact runs4 raw h2 (by omega) ch h4 (by omega) kind key node h5 h6 h7
end Go.Proofs.Ytnomicnfgdjdeaa.Ab
