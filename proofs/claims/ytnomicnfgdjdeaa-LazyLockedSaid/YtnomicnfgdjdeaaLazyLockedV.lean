/- LazyLocked by the interpreter: where a lock that it wants is taken, one worker alone does not end, and changes no key. No condition. -/
import Derived.Test.YtnomicnfgdjdeaaLazyLockedM
import Derived.Test.YtnomicnfgdjdeaaLazyAloneV
namespace Go.Proofs.Ytnomicnfgdjdeaa.Ab
open Go.RowKit
set_option linter.unusedSimpArgs false

theorem locked6_loop0 {m : List Int} {Q : List Node} {K k t : Int} {c : Nat} {L1 L2 A : List Node} {a b : Node} {D : List Node} {node : Nat} (o : Op m Q K k t c) (p : Pl Q k L1 L2 A a b D) (hnode : node = a.1 ∨ node = b.1)
    (steps : Int) (hst : i64 steps) (s want : List Int) (w0 v0 : Wk) (N : List Int) (v85 : Int) : ∀ (j i : Nat), i + j = (pickI steps 200).toNat → ∀ (M : List Int) (x : Wk) (sl : List (Nat × AVal)) (mem : List (Nat × Blk)) (nx b17 b20 b27 : Nat),
    Stuck m Q K k t c a b node M x → (∀ n ∈ M, i64 n) → x.ok → b17 ≠ b20 → b17 ≠ b27 → b20 ≠ b27 → lk sl 3 = .int .i64 steps → lk sl 9 = .bool true → lk sl 10 = .list 1 (ints s) → lk sl 11 = .list 1 (ints m) → lk sl 17 = .ptr b17 0 0 → mg mem b17 = some ⟨25, 14, [w0.c]⟩ → lk sl 19 = .list 1 (ints want) → lk sl 20 = .ptr b20 0 0 → mg mem b20 = some ⟨25, 14, [v0.c]⟩ → lk sl 24 = .int .i64 node → lk sl 26 = .list 1 (ints M) → lk sl 27 = .ptr b27 0 0 → mg mem b27 = some ⟨25, 14, [x.c]⟩ → lk sl 28 = .int .i64 i →
    lk sl 83 = .list 1 (ints N) → lk sl 84 = .int .i64 2 → lk sl 85 = .int .i64 v85 →
    Ends (den Γ (.loop g6l0) ⟨sl, mem, nx, true⟩) fun e sl' mem' nx' pr => e = .exit 2 ∧ pr = true ∧ lk sl' 3 = .int .i64 steps ∧ lk sl' 9 = .bool true ∧ lk sl' 10 = .list 1 (ints s) ∧ lk sl' 11 = .list 1 (ints m) ∧ lk sl' 19 = .list 1 (ints want) ∧ lk sl' 24 = .int .i64 node ∧ lk sl' 83 = .list 1 (ints N) ∧ lk sl' 84 = .int .i64 2 ∧ lk sl' 85 = .int .i64 v85 ∧
      ∃ b17, lk sl' 17 = .ptr b17 0 0 ∧ ∃ b20, lk sl' 20 = .ptr b20 0 0 ∧ ∃ b27, lk sl' 27 = .ptr b27 0 0 ∧ ¬ b17 = b20 ∧ ¬ b17 = b27 ∧ ¬ b20 = b27 ∧ b17 < nx' ∧ b20 < nx' ∧ b27 < nx' ∧ mg mem' b17 = some ⟨25, 14, [w0.c]⟩ ∧ mg mem' b20 = some ⟨25, 14, [v0.c]⟩ ∧ ∃ M : List Int, lk sl' 26 = .list 1 (ints M) ∧ ∃ x : Wk, mg mem' b27 = some ⟨25, 14, [x.c]⟩ ∧ Stuck m Q K k t c a b node M x ∧ (∀ n ∈ M, i64 n) ∧ x.ok := by
  have hml := o.ch.len
  have pk := pick17 steps 200 hst (by omega)
  have l := pickI_lt steps 200 (by omega)
  generalize pickI steps 200 = NN at pk l
  intro j
  induction j with
  | zero =>
    intro i hi M x sl mem nx b17 b20 b27 hS hMi hx h12 h13 h23 h3 h9 h10 h11 h17 hb17 h19 h20 hb20 h24 h26 h27 hb27 h28 h83 h84 h85
    apply Ends_loop
    conv => lhs; lhs; rw [g6l0]
    simp (disch := omega) [h3, h9, h10, h11, h17, hb17, h19, h20, hb20, h24, h26, h27, hb27, h28, h83, h84, h85, pk, h12, h13, h23, decF]
    exact ⟨M, rfl, x, rfl, hS, hMi, hx⟩
  | succ j ih =>
    intro i hi M x sl mem nx b17 b20 b27 hS hMi hx h12 h13 h23 h3 h9 h10 h11 h17 hb17 h19 h20 hb20 h24 h26 h27 hb27 h28 h83 h84 h85
    have hMl := hS.words.1
    obtain ⟨M1, x1, st, hS1⟩ := hS.step o p hnode
    have q := step19 (w := x) (m := M) (by omega) hMi hx
    have s2 := stepS_i64 M x hMi
    have s3 := stepS_ok M x hMi hx
    rw [st] at q s2 s3
    rw [stepV_tup] at q
    simp only at q s2 s3
    have hnd := hS1.notdone
    have hx1 : x1.c = [.int .i64 x1.kind, .int .i64 x1.pc, .int .i64 x1.r0, .int .i64 x1.r1, .int .i64 x1.r2, .int .i64 x1.r3, .int .i64 x1.r4, .int .i64 x1.r5, .int .i64 x1.r6, .int .i64 x1.r7, .int .i64 x1.r8, .int .i64 x1.r9, .bool false, .int .i64 x1.out] := by rw [Wk.cell, hnd]
    rw [hx1] at q
    apply Ends_loop
    conv => lhs; lhs; rw [g6l0]
    simp (disch := omega) [h3, h9, h10, h11, h17, hb17, h19, h20, hb20, h24, h26, h27, hb27, h28, h83, h84, h85, pk, h12, h13, h23, decT, q, ifF, ifT]
    refine ih (i + 1) (by omega) M1 x1 _ _ _ 0 1 2 hS1 s2 s3 (by omega) (by omega) (by omega) ?_ ?_ ?_ ?_ ?_ ?_ ?_ ?_ ?_ ?_ ?_ ?_ ?_ ?_ ?_ ?_ ?_
    all_goals first | (simp; done) | (simp [hx1]; done)
set_option maxHeartbeats 4000000 in
theorem locked6_loop1 {m : List Int} {Q : List Node} {K k t : Int} {c : Nat} {L1 L2 A : List Node} {a b : Node} {D : List Node} (o : Op m Q K k t c) (p : Pl Q k L1 L2 A a b D) (hmi : ∀ n ∈ m, i64 n) (w0 v0 : Wk) (hw0 : w0 = wkr K k c t 0 0 0 0 0 0) (hw0k : w0.ok) (hv0 : v0.done = true) (hv0o : v0.out = (doR (kys Q) K k).2)
    (steps : Int) (hst : i64 steps) : ∀ (j i : Nat), i + j = 2 → ∀ (sl : List (Nat × AVal)) (mem : List (Nat × Blk)) (nx b17 b20 : Nat),
    b17 ≠ b20 → lk sl 3 = .int .i64 steps → lk sl 9 = .bool true → lk sl 10 = .list 1 (ints (kys Q)) → lk sl 11 = .list 1 (ints m) → lk sl 17 = .ptr b17 0 0 → mg mem b17 = some ⟨25, 14, [w0.c]⟩ → lk sl 19 = .list 1 (ints (finM m a b c K k)) → lk sl 20 = .ptr b20 0 0 → mg mem b20 = some ⟨25, 14, [v0.c]⟩ →
    lk sl 83 = .list 1 (ints [(a.1 : Int), (b.1 : Int)]) → lk sl 84 = .int .i64 2 → lk sl 85 = .int .i64 i →
    Ends (den Γ (.loop g6l1) ⟨sl, mem, nx, true⟩) fun e sl' _ _ pr => e = .exit 0 ∧ pr = true ∧ lk sl' 9 = .bool true := by
  have hml := o.ch.len
  obtain ⟨p1, p2, na, nb, nx0⟩ := o.ch.parts p
  have hal := na.1
  have hbl := nb.1
  intro j
  induction j with
  | zero =>
    intro i hi sl mem nx b17 b20 h12 h3 h9 h10 h11 h17 hb17 h19 h20 hb20 h83 h84 h85
    apply Ends_loop
    conv => lhs; lhs; rw [g6l1]
    simp (disch := omega) [h3, h9, h10, h11, h17, hb17, h19, h20, hb20, h83, h84, h85, h12, show i = 2 by omega]
  | succ j ih =>
    intro i hi sl mem nx b17 b20 h12 h3 h9 h10 h11 h17 hb17 h19 h20 hb20 h83 h84 h85
    apply Ends_loop
    conv => lhs; lhs; rw [g6l1]
    obtain ⟨node, hnode, hget⟩ : ∃ node : Nat, (node = a.1 ∨ node = b.1) ∧ (ints [(a.1 : Int), (b.1 : Int)])[i]? = some [.int .i64 (node : Int)] := by
      have hc : i = 0 ∨ i = 1 := by omega
      rcases hc with rfl | rfl
      · exact ⟨a.1, .inl rfl, rfl⟩
      · exact ⟨b.1, .inr rfl, rfl⟩
    have hnl : 4 * node + 3 < m.length := by rcases hnode with e | e <;> omega
    have et : (4 * (node : Int) + 2).toNat = 4 * node + 2 := by omega
    have hidx : 4 * node + 2 < m.length := by omega
    have hi2 : (i : Int) < 2 := by omega
    have hM0 : (m.set (4 * node + 2) 33) = setW m node 2 33 := rfl
    have hM0i : ∀ n ∈ setW m node 2 33, i64 n := by
      intro n hn
      rcases List.mem_or_eq_of_mem_set hn with h1 | h1
      · exact hmi n h1
      · subst h1; unfold i64; omega
    have hS0 : Stuck m Q K k t c a b node (setW m node 2 33) w0 := by rw [hw0]; exact .i0 0 0 0 0
    generalize hL83 : ints [(a.1 : Int), (b.1 : Int)] = L83 at h83 hget
    simp (disch := omega) [h3, h9, h10, h11, h17, hb17, h19, h20, hb20, h83, h84, h85, h12, hi2, hget, et, hidx, decT, ifT]
    refine Ends.ctx (fun z => bindN (bindN (unBlk 1 (bindN (unBlk 2 z) _)) _) _) (locked6_loop0 o p hnode steps hst (kys Q) (finM m a b c K k) w0 v0 [(a.1 : Int), (b.1 : Int)] i (pickI steps 200).toNat 0 (by omega) (setW m node 2 33) w0 _ _ _ 0 1 3 hS0 hM0i hw0k (by omega) (by omega) (by omega) ?_ ?_ ?_ ?_ ?_ ?_ ?_ ?_ ?_ ?_ ?_ ?_ ?_ ?_ ?_ ?_ ?_) ?_
    all_goals first | (simp; done) | (simp [setW]; done) | (simp [hL83]; done) | skip
    rintro e sl mem nx pr ⟨rfl, rfl, u3, u9, u10, u11, u19, u24, u83, u84, u85, c17, u17, c20, u20, c27, u27, d1, d2, d3, n1, n2, n3, ub17, ub20, M, u26, x, ub27, hS, hMi, hx⟩
    obtain ⟨hMl, _⟩ := hS.words
    have kk := keys27p (hS.pa o)
    have qk := ints21 (kys Q) (kys Q) (by have := o.set.len; omega)
    have hlk := hS.lock o.ch p hnl
    have hidxM : 4 * node + 2 < M.length := by omega
    have hgM : M[4 * node + 2] = 33 := by
      have h1 : M.getD (4 * node + 2) 0 = 33 := hlk
      rw [List.getD_eq_getElem?_getD, List.getElem?_eq_getElem hidxM] at h1
      exact h1
    have hM2i : ∀ n ∈ setW M node 2 0, i64 n := by
      intro n hn
      rcases List.mem_or_eq_of_mem_set hn with h1 | h1
      · exact hMi n h1
      · subst h1; unfold i64; omega
    obtain ⟨w2, Q2, st, f1, f2, f3, f4, f5, f6⟩ := hS.go o p hnode
    have fa := f2.aloneS f3 (by omega)
    have g2 := alone22 (setW M node 2 0) x (by rw [setW_len]; omega) hM2i hx
    rw [fa] at g2
    unfold aloneV at g2
    simp only at g2
    rw [wcell_of w2 f3 _ f4] at g2
    have qf := ints21 (finM m a b c K k) (finM m a b c K k) (by have := f5.len; omega)
    rw [wcell_of v0 hv0 _ hv0o] at ub20
    have hset : (M.set (4 * node + 2) 0) = setW M node 2 0 := rfl
    simp (disch := omega) [u3, u9, u10, u11, u19, u24, u83, u84, u85, u17, u20, u27, ub17, ub20, ub27, u26, kk, qk, et, hidxM, hgM, hset, g2, qf, ifT, ifF, decT, mg_md]
    refine ih (i + 1) (by omega) _ _ _ c17 c20 d1 ?_ ?_ ?_ ?_ ?_ ?_ ?_ ?_ ?_ ?_ ?_ ?_
    all_goals first | (simp [u3, u9, u10, u11, u17, u19, u20, u83, u84, hL83]; done) | (simp (disch := omega) [ub17, ub20, ifF, mg_md, wcell_of v0 hv0 _ hv0o]; done) | skip
set_option maxHeartbeats 4000000 in
theorem locked6 (raw : List Int) (hraw : ∀ n ∈ raw, i64 n) (hrl : raw.length < 100000000000000) (kind key steps : Int) (hki : i64 kind) (hky : i64 key) (hst : i64 steps) :
    cd Γ 6 [.list 1 (ints raw), .int .i64 kind, .int .i64 key, .int .i64 steps] = some (.bool true) := by
  have q1 := keys24 raw hraw hrl
  have hs := keysS_ok raw
  generalize keysS raw = s at q1 hs
  have hsl := hs.len
  have q2 : cd Γ 25 [.list 1 (ints s), .int .i64 1] = _ := make25 s hs 1 (by omega)
  have hml := makeS_len s 1
  have hmi := (makeS_bnd hs 1).i64
  have hch := makeS_ch hs (more := 1) (by omega)
  have hsp := fun (n : Nat) (hn : s.length + 2 ≤ n) => W_spare s 1 n 3 hn
  generalize makeS s 1 = m at q2 hml hch hsp hmi
  have p1 := pick17 kind 2 hki (by omega)
  have l1 := pickI_lt kind 2 (by omega)
  have p2 := pick17 key 21 hky (by omega)
  have l2 := pickI_lt key 21 (by omega)
  generalize pickI kind 2 = K0 at p1 l1
  generalize pickI key 21 = k at p2 l2
  have e4 : Int.tdiv (m.length : Int) 4 = (m.length : Int) / 4 := Int.tdiv_eq_ediv_of_nonneg (by omega)
  have hK : 1 + K0 = 1 ∨ 1 + K0 = 2 := by omega
  have hcn : (m.length : Int) / 4 - 1 = ((m.length / 4 - 1 : Nat) : Int) := by omega
  have b0 := begin14 (1 + K0) k 7 ((m.length : Int) / 4 - 1)
  have e0 := begin_wkr (1 + K0) k 7 (m.length / 4 - 1) (by omega) (by omega) (by omega)
  rw [hcn, e0] at b0
  have hkq := qR_kys s 0
  have hql := qR_len s 0
  have hq : SetG (kys (qR 0 s)) := by rw [hkq]; exact hs
  have z : i64 0 := by unfold i64; simp
  have op : Op m (qR 0 s) (1 + K0) k 8 (m.length / 4 - 1) := ⟨hch, hq, hK, by omega, by unfold okW; omega, by omega, makeS_spare (by omega), hsp _ (by omega), by omega⟩
  obtain ⟨L1, L2, A, a, b, D, pl⟩ := op.exists_pl
  have q3 := place29 hch (by omega) pl
  have wok : (wkr (1 + K0) k ((m.length / 4 - 1 : Nat) : Int) 8 0 0 0 0 0 0).ok := wkr_ok (by unfold i64; omega) (by unfold i64; omega) (by unfold i64; omega) (by unfold i64; omega) z z z z z z
  obtain ⟨v, Q2, st, f1, f2, f3, f4, f5, f6⟩ := op.fresh_run pl 0 0 0 0 0
  have fa := f2.aloneS f3 (by omega)
  have g1 := alone22 m (wkr (1 + K0) k ((m.length / 4 - 1 : Nat) : Int) 8 0 0 0 0 0 0) (by omega) hmi wok
  rw [fa] at g1
  unfold aloneV at g1
  simp only at g1
  rw [call (fn := g6) rfl rfl]
  apply Ends.fin
  simp (disch := omega) [g6, g6b, awake13, q1, q2, p1, p2, e4, hcn, q3, b0, g1]
  refine Ends.blk (locked6_loop1 op pl hmi (wkr (1 + K0) k ((m.length / 4 - 1 : Nat) : Int) 8 0 0 0 0 0 0) v rfl wok f3 f4 steps hst 2 0 rfl _ _ _ 0 1 (by omega) ?_ ?_ ?_ ?_ ?_ ?_ ?_ ?_ ?_ ?_ ?_ ?_) ?_
  all_goals first | (simp; done) | (simp [hkq]; done) | (simp [lst, cI]; done) | skip
  rintro e sl mem nx pr ⟨rfl, rfl, u9⟩
  simp [u9]
theorem locked_cd (vs : List AVal) (h : ArgsOk [kIs, kI, kI, kI] vs) : cd Γ 6 vs = some (.bool true) := by
  obtain ⟨a, b, c, d, rfl, ha, hb, hc, hd⟩ := args4 h
  obtain ⟨raw, rfl, h1, h2⟩ := arg_ints ha
  obtain ⟨kind, rfl, h3⟩ := arg_int hb
  obtain ⟨key, rfl, h4⟩ := arg_int hc
  obtain ⟨steps, rfl, h5⟩ := arg_int hd
  exact locked6 raw h2 (by omega) kind key steps h3 h4 h5
end Go.Proofs.Ytnomicnfgdjdeaa.Ab
