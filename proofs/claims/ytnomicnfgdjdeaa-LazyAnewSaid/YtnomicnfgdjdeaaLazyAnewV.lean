/- LazyAnew by the interpreter: a worker that is passed by others begins anew, and does what a set does then. No condition. -/
import Derived.Test.YtnomicnfgdjdeaaLazyAnewM
import Derived.Test.YtnomicnfgdjdeaaLazyAloneV
namespace Go.Proofs.Ytnomicnfgdjdeaa.Ab
open Go.RowKit
set_option linter.unusedSimpArgs false

theorem anew9_loop0 (steps : Int) (hst : i64 steps) (tw : List AVal) (s : List Int) (kind key : Int) {m : List Int} {Q : List Node} {K k t : Int} {c : Nat} (h : Ch m Q) (hmi : ∀ n ∈ m, i64 n) (hK : K = 1 ∨ K = 2) (hk : 0 ≤ k ∧ k ≤ 20) : ∀ (j i : Nat), i + j = (pickI steps 30).toNat → ∀ (w : Wk) (sl : List (Nat × AVal)) (mem : List (Nat × Blk)) (nx b : Nat),
    Stale Q K k t c w → w.ok → lk sl 3 = .int .i64 steps → lk sl 6 = .fptr tw → lk sl 9 = .bool true → lk sl 10 = .list 1 (ints s) → lk sl 11 = .list 1 (ints m) → lk sl 13 = .int .i64 kind → lk sl 14 = .int .i64 key → lk sl 15 = .ptr b 0 0 → mg mem b = some ⟨25, 14, [w.c]⟩ → lk sl 16 = .int .i64 0 → lk sl 17 = .int .i64 i →
    Ends (den Γ (.loop g9l0) ⟨sl, mem, nx, true⟩) fun e sl' mem' nx' pr => e = .exit 0 ∧ pr = true ∧ lk sl' 6 = .fptr tw ∧ lk sl' 9 = .bool true ∧ lk sl' 10 = .list 1 (ints s) ∧ lk sl' 11 = .list 1 (ints m) ∧ lk sl' 13 = .int .i64 kind ∧ lk sl' 14 = .int .i64 key ∧ lk sl' 16 = .int .i64 0 ∧
      ∃ b, lk sl' 15 = .ptr b 0 0 ∧ b < nx' ∧ ∃ w : Wk, mg mem' b = some ⟨25, 14, [w.c]⟩ ∧ Stale Q K k t c w ∧ w.ok := by
  have hml := h.len
  have p := pick17 steps 30 hst (by omega)
  have l := pickI_lt steps 30 (by omega)
  generalize pickI steps 30 = N at p l
  intro j
  induction j with
  | zero =>
    intro i hi w sl mem nx b hS hw h3 h6 h9 h10 h11 h13 h14 h15 hb h16 h17
    apply Ends_loop
    conv => lhs; lhs; rw [g9l0]
    simp (disch := omega) [h3, h6, h9, h10, h11, h13, h14, h15, hb, h16, h17, p, decF]
    exact ⟨w, rfl, hS, hw⟩
  | succ j ih =>
    intro i hi w sl mem nx b hS hw h3 h6 h9 h10 h11 h13 h14 h15 hb h16 h17
    apply Ends_loop
    conv => lhs; lhs; rw [g9l0]
    have hb' := hb
    rw [Wk.cell] at hb'
    by_cases hpc : w.pc < 10
    · obtain ⟨w1, st, hS1⟩ := hS.step h hK hk hpc
      have q := step19 (w := w) (m := m) (by omega) hmi hw
      have s3 := stepS_ok m w hmi hw
      rw [st] at q s3
      rw [stepV_tup] at q
      simp only at q s3
      rw [Wk.cell w] at q
      simp (disch := omega) [h3, h6, h9, h10, h11, h13, h14, h15, hb', h16, h17, p, decT, q]
      refine ih (i + 1) (by omega) w1 _ _ _ 0 hS1 s3 ?_ ?_ ?_ ?_ ?_ ?_ ?_ ?_ ?_ ?_ ?_ <;> simp
    · simp (disch := omega) [h3, h6, h9, h10, h11, h13, h14, h15, hb', h16, h17, p, decT, decF]
      exact ⟨w, by rw [Wk.cell w], hS, hw⟩
set_option maxHeartbeats 4000000 in
theorem anew9 (raw : List Int) (hraw : ∀ n ∈ raw, i64 n) (hrl : raw.length < 100000000000000) (one two : Pr) (ho : one.ok) (ht : two.ok) (steps : Int) (hst : i64 steps) :
    cd Γ 9 [.list 1 (ints raw), .agg one.c, .agg two.c, .int .i64 steps] = some (.bool true) := by
  obtain ⟨o0, o1⟩ := one
  obtain ⟨t0, t1⟩ := two
  obtain ⟨ho0, ho1⟩ := ho
  obtain ⟨ht0, ht1⟩ := ht
  simp only at ho0 ho1 ht0 ht1
  have q1 := keys24 raw hraw hrl
  have hs := keysS_ok raw
  generalize keysS raw = s at q1 hs
  have hsl := hs.len
  have q2 : cd Γ 25 [.list 1 (ints s), .int .i64 2] = _ := make25 s hs 2 (by omega)
  have hml := makeS_len s 2
  have hmi := (makeS_bnd hs 2).i64
  have hch := makeS_ch hs (more := 2) (by omega)
  have hsp := fun (n : Nat) (hn : s.length + 2 ≤ n) => W_spare s 2 n 3 hn
  generalize makeS s 2 = m at q2 hml hch hsp hmi
  have p1 := pick17 o0 2 ho0 (by omega)
  have l1 := pickI_lt o0 2 (by omega)
  have p2 := pick17 o1 21 ho1 (by omega)
  have l2 := pickI_lt o1 21 (by omega)
  have p3 := pick17 t0 3 ht0 (by omega)
  have l3 := pickI_lt t0 3 (by omega)
  have p4 := pick17 t1 21 ht1 (by omega)
  have l4 := pickI_lt t1 21 (by omega)
  generalize pickI o0 2 = K0 at p1 l1
  generalize pickI o1 21 = k at p2 l2
  generalize pickI t0 3 = T0 at p3 l3
  generalize pickI t1 21 = j at p4 l4
  have e4 : Int.tdiv (m.length : Int) 4 = (m.length : Int) / 4 := Int.tdiv_eq_ediv_of_nonneg (by omega)
  have hK : 1 + K0 = 1 ∨ 1 + K0 = 2 := by omega
  have hT : 1 + T0 = 1 ∨ 1 + T0 = 2 ∨ 1 + T0 = 3 := by omega
  have hcn : (m.length : Int) / 4 - 1 = ((m.length / 4 - 1 : Nat) : Int) := by omega
  have hcm : (m.length : Int) / 4 - 2 = ((m.length / 4 - 2 : Nat) : Int) := by omega
  have b0 := begin14 (1 + K0) k 1 ((m.length : Int) / 4 - 1)
  have b1 := begin15 (1 + T0) j 2 ((m.length : Int) / 4 - 2)
  have e0 := begin_wkr (1 + K0) k 1 (m.length / 4 - 1) (by omega) (by omega) (by omega)
  have e1 := begin_wkr (1 + T0) j 2 (m.length / 4 - 2) hT (by omega) (by omega)
  rw [hcn, e0] at b0
  rw [hcm, e1] at b1
  have hkq := qR_kys s 0
  have hql := qR_len s 0
  have hq : SetG (kys (qR 0 s)) := by rw [hkq]; exact hs
  have z : i64 0 := by unfold i64; simp
  -- the other one
  obtain ⟨L1, L2, A, a, b, D, pl, n, w', Q', r, d1, d2, d3, d4, d5, d6, d7, d8, d9, d10⟩ := op_run (k := j) (t := 3) (c := m.length / 4 - 2) hch hT (by omega) (by unfold okW; omega) (by omega) (makeS_spare (by omega)) (hsp _ (by omega)) (by omega) 0 0 0 0 0
  have hn : n ≤ 50000 := by rw [d5]; have := steps_le (kys (qR 0 s)) hq (1 + T0) j; omega
  have ra := r.aloneS d1 hn
  have wok2 : (wkr (1 + T0) j ((m.length / 4 - 2 : Nat) : Int) 3 0 0 0 0 0 0).ok := wkr_ok (by unfold i64; omega) (by unfold i64; omega) (by unfold i64; omega) (by unfold i64; omega) z z z z z z
  have g1 := alone23 m (wkr (1 + T0) j ((m.length / 4 - 2 : Nat) : Int) 3 0 0 0 0 0 0) (by omega) hmi wok2
  have gi := aloneS_i64 m (wkr (1 + T0) j ((m.length / 4 - 2 : Nat) : Int) 3 0 0 0 0 0 0) hmi
  rw [ra] at g1 gi
  unfold aloneV at g1
  simp only at g1 gi
  rw [wcell_of w' d1 _ d2] at g1
  rw [hkq] at d2 d4 g1
  have dd0 := do26 s (1 + T0) j hs (by omega) hT
  have hset := hs.doR (kind := 1 + T0) (k := j) (by omega)
  generalize hM : finM m a b (m.length / 4 - 2) (1 + T0) j = M at *
  have dd1 := do26 (doR s (1 + T0) j).1 (1 + K0) k hset (by omega) (by omega)
  have hset2 := hset.doR (kind := 1 + K0) (k := k) (by omega)
  -- this one
  have hfr : ∀ x ∈ pathOf Q', x.1 ≠ m.length / 4 - 1 := by
    intro x hx
    simp only [pathOf, List.mem_cons, List.mem_append, List.not_mem_nil, or_false] at hx
    rcases hx with rfl | hx | rfl
    · simp only; omega
    · rcases d6 x hx with h | h
      · have := qR_mem s 0 x h; omega
      · rw [h]; omega
    · simp only; omega
  have op : Op M Q' (1 + K0) k 2 (m.length / 4 - 1) := by
    refine ⟨d3, by rw [d4]; exact hset, hK, by omega, by unfold okW; omega, by rw [d8]; omega, hfr, ?_, by rw [d8]; omega⟩
    rw [d9 _ (makeS_spare (by omega)) (by omega)]
    exact hsp _ (by omega)
  have hold : ∀ x ∈ pathOf (qR 0 s), Old M Q' x := fun x hx => ⟨by rw [d8]; exact (hch.lk.mem x hx).1, d10 x hx⟩
  obtain ⟨M1, M2, B, u, v, E, pl2⟩ := op.exists_pl
  rw [call (fn := g9) rfl rfl]
  apply Ends.fin
  simp (disch := omega) [g9, g9b, awake13, q1, q2, p1, p2, e4, hcn, b0, Pr.c]
  refine Ends.blk (anew9_loop0 steps hst [.int .i64 t0, .int .i64 t1] s (1 + K0) k (Q := qR 0 s) (K := 1 + K0) (k := k) (t := 2) (c := m.length / 4 - 1) hch hmi hK (by omega) (pickI steps 30).toNat 0 (by omega) (wkr (1 + K0) k ((m.length / 4 - 1 : Nat) : Int) 2 0 0 0 0 0 0) _ _ _ 0 .p0 (wkr_ok (by unfold i64; omega) (by unfold i64; omega) (by unfold i64; omega) (by unfold i64; omega) z z z z z z) ?_ ?_ ?_ ?_ ?_ ?_ ?_ ?_ ?_ ?_ ?_) ?_
  all_goals first | (simp; done) | skip
  rintro e sl mem nx pr ⟨rfl, rfl, u6, u9, u10, u11, u13, u14, u16, b, u15, ubn, w, ub, hS, wok⟩
  obtain ⟨w2, Q2, st, f1, f2, f3, f4, f5, f6⟩ := hS.go op pl2 hold
  have fa := f2.aloneS f3 (by omega)
  have g2 := alone22 M w (by rw [d8]; omega) gi wok
  rw [fa] at g2
  unfold aloneV at g2
  simp only at g2
  rw [wcell_of w2 f3 _ f4] at g2
  have k0 := keys27 f5
  rw [f6, d4] at k0
  rw [d4] at g2
  have st := still28 f5
  have qq := ints21 (doR (doR s (1 + T0) j).1 (1 + K0) k).1 (doR (doR s (1 + T0) j).1 (1 + K0) k).1 (by have := hset2.len; omega)
  simp (disch := omega) [u6, u9, u10, u11, u13, u14, u16, u15, ub, p3, p4, e4, hcm, b1, g1, dd0, g2, dd1, k0, st, qq, ifF]
theorem anew_cd (vs : List AVal) (h : ArgsOk [kIs, kN 2, kN 2, kI] vs) : cd Γ 9 vs = some (.bool true) := by
  obtain ⟨a, b, c, d, rfl, ha, hb, hc, hd⟩ := args4 h
  obtain ⟨raw, rfl, h1, h2⟩ := arg_ints ha
  obtain ⟨one, rfl, h3⟩ := arg_p hb
  obtain ⟨two, rfl, h4⟩ := arg_p hc
  obtain ⟨steps, rfl, h5⟩ := arg_int hd
  exact anew9 raw h2 (by omega) one two h3 h4 steps h5
end Go.Proofs.Ytnomicnfgdjdeaa.Ab
