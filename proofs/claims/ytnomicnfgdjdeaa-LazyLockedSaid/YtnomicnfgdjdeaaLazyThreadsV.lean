/- LazyThreads by the interpreter: by which thread, and to which node, an operation is done, makes no difference. No condition. -/
import Derived.Test.YtnomicnfgdjdeaaLazyX
namespace Go.Proofs.Ytnomicnfgdjdeaa.Ab
open Go.RowKit
set_option linter.unusedSimpArgs false

theorem begin_wkr (K k th : Int) (n : Nat) (hK : K = 1 ∨ K = 2 ∨ K = 3) (hk : 0 ≤ k ∧ k ≤ 20) (ht : 0 ≤ th ∧ th < 64) : beginS K k th n = (wkr K k n (th + 1) 0 0 0 0 0 0, 0) := by
  unfold beginS
  rw [if_neg (by omega)]
  rfl
theorem wkr_ok {K k c t pc r1 r2 r5 r6 r7 : Int} (h1 : i64 K) (h2 : i64 k) (h3 : i64 c) (h4 : i64 t) (h5 : i64 pc) (h6 : i64 r1) (h7 : i64 r2) (h8 : i64 r5) (h9 : i64 r6) (h10 : i64 r7) : (wkr K k c t pc r1 r2 r5 r6 r7).ok := by
  have z : i64 0 := by unfold i64; simp
  exact ⟨h1, h5, h2, h6, h7, h3, h4, h8, h9, h10, z, z, z⟩
/-- One operation on what Make made. -/
theorem alone_op {m : List Int} {Q : List Node} (h : Ch m Q) {K k t : Int} {c : Nat} (hK : K = 1 ∨ K = 2 ∨ K = 3) (hk : 0 ≤ k ∧ k ≤ 20) (ht : okW t) (lc : 4 * c + 3 < m.length) (hc : ∀ x ∈ pathOf Q, x.1 ≠ c) (hd : W m c 3 = 0) (hmany : Q.length + 3 ≤ m.length / 4) (hq : SetG (kys Q)) :
    ∃ m' w' Q', aloneS m (wkr K k c t 0 0 0 0 0 0) = (m', w', (stepsN (kys Q) K k : Int), 0) ∧ w'.done = true ∧ w'.out = (doR (kys Q) K k).2 ∧ Ch m' Q' ∧ kys Q' = (doR (kys Q) K k).1 ∧ m'.length = m.length ∧
      (∀ x ∈ Q', x ∈ Q ∨ x.1 = c) ∧ Q'.length ≤ Q.length + 1 ∧ (∀ i, (∀ x ∈ pathOf Q, x.1 ≠ i) → i ≠ c → W m' i 3 = W m i 3) := by
  obtain ⟨L1, L2, A, a, b, D, p, n, w', Q', r, d1, d2, d3, d4, d5, d6, d7, d8, d9, _⟩ := op_run h hK hk ht lc hc hd hmany 0 0 0 0 0
  have hb : n ≤ 50000 := by
    rw [d5, stepsN]
    have := List.length_filter_le (fun x => decide (x < k)) (kys Q)
    have h2 := hq.len
    split
    · omega
    · split <;> omega
  exact ⟨_, w', Q', by rw [← d5]; exact r.aloneS d1 hb, d1, d2, d3, d4, d8, d6, d7, d9⟩
theorem wcell_of (w : Wk) (hd : w.done = true) (o : Int) (ho : w.out = o) : w.c = [.int .i64 w.kind, .int .i64 w.pc, .int .i64 w.r0, .int .i64 w.r1, .int .i64 w.r2, .int .i64 w.r3, .int .i64 w.r4, .int .i64 w.r5, .int .i64 w.r6, .int .i64 w.r7, .int .i64 w.r8, .int .i64 w.r9, .bool true, .int .i64 o] := by rw [Wk.cell, hd, ho]
set_option maxHeartbeats 4000000 in
theorem threads8 (raw : List Int) (hraw : ∀ n ∈ raw, i64 n) (hrl : raw.length < 100000000000000) (kind key : Int) (hki : i64 kind) (hky : i64 key) (th nd : Pr) (hth : th.ok) (hnd : nd.ok) :
    cd Γ 8 [.list 1 (ints raw), .int .i64 kind, .int .i64 key, .agg th.c, .agg nd.c] = some (.bool true) := by
  obtain ⟨t0, t1⟩ := th
  obtain ⟨n0, n1⟩ := nd
  obtain ⟨ht0, ht1⟩ := hth
  obtain ⟨hn0, hn1⟩ := hnd
  simp only at ht0 ht1 hn0 hn1
  have q1 := keys24 raw hraw hrl
  have hs := keysS_ok raw
  generalize keysS raw = s at q1 hs
  have hsl := hs.len
  have q2 : cd Γ 25 [.list 1 (ints s), .int .i64 5] = _ := make25 s hs 5 (by omega)
  have hml := makeS_len s 5
  have hmi := (makeS_bnd hs 5).i64
  have hch := makeS_ch hs (more := 5) (by omega)
  have hsp := fun (n : Nat) (hn : s.length + 2 ≤ n) => W_spare s 5 n 3 hn
  generalize makeS s 5 = m at q2 hml hch hsp hmi
  have p1 := pick17 kind 3 hki (by omega)
  have l1 := pickI_lt kind 3 (by omega)
  have p2 := pick17 key 21 hky (by omega)
  have l2 := pickI_lt key 21 (by omega)
  have p3 := pick17 t0 64 ht0 (by omega)
  have l3 := pickI_lt t0 64 (by omega)
  have p4 := pick17 t1 64 ht1 (by omega)
  have l4 := pickI_lt t1 64 (by omega)
  have p5 := pick17 n0 5 hn0 (by omega)
  have l5 := pickI_lt n0 5 (by omega)
  have p6 := pick17 n1 5 hn1 (by omega)
  have l6 := pickI_lt n1 5 (by omega)
  generalize pickI kind 3 = K0 at p1 l1
  generalize pickI key 21 = k at p2 l2
  generalize pickI t0 64 = T0 at p3 l3
  generalize pickI t1 64 = T1 at p4 l4
  generalize pickI n0 5 = N0 at p5 l5
  generalize pickI n1 5 = N1 at p6 l6
  have e4 : Int.tdiv (m.length : Int) 4 = (m.length : Int) / 4 := Int.tdiv_eq_ediv_of_nonneg (by omega)
  obtain ⟨c0, hc0⟩ : ∃ c : Nat, (m.length : Int) / 4 - 5 + N0 = c := ⟨((m.length : Int) / 4 - 5 + N0).toNat, by omega⟩
  obtain ⟨c1, hc1⟩ : ∃ c : Nat, (m.length : Int) / 4 - 5 + N1 = c := ⟨((m.length : Int) / 4 - 5 + N1).toNat, by omega⟩
  have hK : 1 + K0 = 1 ∨ 1 + K0 = 2 ∨ 1 + K0 = 3 := by omega
  have b0 := begin14 (1 + K0) k T0 ((m.length : Int) / 4 - 5 + N0)
  have b1 := begin14 (1 + K0) k T1 ((m.length : Int) / 4 - 5 + N1)
  have e0 := begin_wkr (1 + K0) k T0 c0 hK (by omega) (by omega)
  have e1 := begin_wkr (1 + K0) k T1 c1 hK (by omega) (by omega)
  rw [hc0, e0] at b0
  rw [hc1, e1] at b1
  have hkq := qR_kys s 0
  have hql := qR_len s 0
  have hq : SetG (kys (qR 0 s)) := by rw [hkq]; exact hs
  have z : i64 0 := by unfold i64; simp
  obtain ⟨m0, w0, Q0, a1, a2, a3, a4, a5, a6, _⟩ := alone_op (k := k) (t := T0 + 1) (c := c0) hch hK (by omega) (by unfold okW; omega) (by omega) (makeS_spare (by omega)) (hsp c0 (by omega)) (by omega) hq
  obtain ⟨m1, w1, Q1, f1, f2, f3, f4, f5, f6, _⟩ := alone_op (k := k) (t := T1 + 1) (c := c1) hch hK (by omega) (by unfold okW; omega) (by omega) (makeS_spare (by omega)) (hsp c1 (by omega)) (by omega) hq
  have g0 := alone22 m (wkr (1 + K0) k c0 (T0 + 1) 0 0 0 0 0 0) (by omega) hmi (wkr_ok (by unfold i64; omega) (by unfold i64; omega) (by unfold i64; omega) (by unfold i64; omega) z z z z z z)
  have g1 := alone22 m (wkr (1 + K0) k c1 (T1 + 1) 0 0 0 0 0 0) (by omega) hmi (wkr_ok (by unfold i64; omega) (by unfold i64; omega) (by unfold i64; omega) (by unfold i64; omega) z z z z z z)
  rw [a1] at g0
  rw [f1] at g1
  unfold aloneV at g0 g1
  simp only at g0 g1
  rw [wcell_of w0 a2 _ a3] at g0
  rw [wcell_of w1 f2 _ f3] at g1
  have k0 := keys27 a4
  have k1 := keys27 f4
  rw [a5] at k0
  rw [f5] at k1
  have qq := ints21 (doR (kys (qR 0 s)) (1 + K0) k).1 (doR (kys (qR 0 s)) (1 + K0) k).1 (by
    have := congrArg List.length a5
    rw [kys_len] at this
    have hm0 := a4.many
    have := a4.len
    omega)
  rw [call (fn := g8) rfl rfl]
  simp (disch := omega) [g8, g8b, awake13, q1, q2, p1, p2, p3, p4, p5, p6, e4, hc0, hc1, b0, b1, g0, g1, k0, k1, qq, Pr.c, ifT, ifF, decT]
theorem threads_cd (vs : List AVal) (h : ArgsOk [kIs, kI, kI, kN 2, kN 2] vs) : cd Γ 8 vs = some (.bool true) := by
  obtain ⟨a, b, c, d, e, rfl, ha, hb, hc, hd, he⟩ := args5 h
  obtain ⟨raw, rfl, h1, h2⟩ := arg_ints ha
  obtain ⟨kind, rfl, h3⟩ := arg_int hb
  obtain ⟨key, rfl, h4⟩ := arg_int hc
  obtain ⟨th, rfl, h5⟩ := arg_p hd
  obtain ⟨nd, rfl, h6⟩ := arg_p he
  exact threads8 raw h2 (by omega) kind key h3 h4 th nd h5 h6
end Go.Proofs.Ytnomicnfgdjdeaa.Ab
