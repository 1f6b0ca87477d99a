/- LazyAlone by the interpreter: of a chain that is still one worker alone does what a set does. No condition. -/
import Derived.Test.YtnomicnfgdjdeaaLazyThreadsV
namespace Go.Proofs.Ytnomicnfgdjdeaa.Ab
open Go.RowKit
set_option linter.unusedSimpArgs false

theorem aloneL_i64 (m0 : List Int) (w0 : Wk) (h0 : ∀ n ∈ m0, i64 n) : ∀ (k : Nat) (m : List Int) (w : Wk) (n : Int), (∀ n ∈ m, i64 n) → ∀ x ∈ (aloneL m0 w0 k m w n).1, i64 x
  | 0, m, w, n, h => by unfold aloneL; split; exact h; exact h0
  | k + 1, m, w, n, h => by
    unfold aloneL
    split
    · exact h
    · split
      · exact aloneL_i64 m0 w0 h0 k _ _ _ (stepS_i64 m w h)
      · exact h0
theorem aloneS_i64 (m : List Int) (w : Wk) (h : ∀ n ∈ m, i64 n) : ∀ x ∈ (aloneS m w).1, i64 x := aloneL_i64 m w h _ m w 0 h
theorem alone5_loop0 (s : List Int) (hsl : s.length ≤ 100) (key : Int) (ops : List Pr) (v9 v13 v16 v17 v19 v22 : Int) (m' now told : List Int) (w : Wk) (P : Nat) (hP : P = (s.filter (fun x => decide (x < key))).length) : ∀ (k i : Nat), i + k = s.length → ∀ (c : Nat) (sl : List (Nat × AVal)) (mem : List (Nat × Blk)) (nx b : Nat),
    c ≤ i → c + ((s.drop i).filter (fun x => decide (x < key))).length = P → lk sl 1 = .list 2 (lst Pr.c ops) → lk sl 5 = .bool true → lk sl 6 = .list 1 (ints s) → lk sl 9 = .int .i64 v9 → lk sl 11 = .int .i64 key → lk sl 13 = .int .i64 v13 → lk sl 14 = .list 1 (ints m') → lk sl 15 = .ptr b 0 0 → mg mem b = some ⟨25, 14, [w.c]⟩ →
    lk sl 16 = .int .i64 v16 → lk sl 17 = .int .i64 v17 → lk sl 18 = .list 1 (ints now) → lk sl 19 = .int .i64 v19 → lk sl 21 = .list 1 (ints told) → lk sl 22 = .int .i64 v22 → lk sl 23 = .int .i64 c → lk sl 24 = .int .i64 i →
    Ends (den Γ (.loop g5l0) ⟨sl, mem, nx, true⟩) fun e sl' mem' nx' pr => e = .exit 2 ∧ pr = true ∧ lk sl' 1 = .list 2 (lst Pr.c ops) ∧ lk sl' 5 = .bool true ∧ lk sl' 9 = .int .i64 v9 ∧ lk sl' 13 = .int .i64 v13 ∧ lk sl' 14 = .list 1 (ints m') ∧ lk sl' 16 = .int .i64 v16 ∧ lk sl' 17 = .int .i64 v17 ∧
      lk sl' 18 = .list 1 (ints now) ∧ lk sl' 19 = .int .i64 v19 ∧ lk sl' 21 = .list 1 (ints told) ∧ lk sl' 22 = .int .i64 v22 ∧ lk sl' 23 = .int .i64 P ∧ ∃ b, lk sl' 15 = .ptr b 0 0 ∧ mg mem' b = some ⟨25, 14, [w.c]⟩ := by
  intro k
  induction k with
  | zero =>
    intro i hi c sl mem nx b hc hcP h1 h5 h6 h9 h11 h13 h14 h15 hb h16 h17 h18 h19 h21 h22 h23 h24
    apply Ends_loop
    conv => lhs; lhs; rw [g5l0]
    rw [List.drop_of_length_le (by omega)] at hcP
    simp at hcP
    simp (disch := omega) [h1, h5, h6, h9, h11, h13, h14, h15, hb, h16, h17, h18, h19, h21, h22, h23, h24, decF]
    omega
  | succ k ih =>
    intro i hi c sl mem nx b hc hcP h1 h5 h6 h9 h11 h13 h14 h15 hb h16 h17 h18 h19 h21 h22 h23 h24
    have his : i < s.length := by omega
    apply Ends_loop
    conv => lhs; lhs; rw [g5l0]
    rw [List.drop_eq_getElem_cons his, List.filter_cons] at hcP
    by_cases hlt : s[i] < key
    · rw [if_pos (by simpa using hlt)] at hcP
      simp only [List.length_cons] at hcP
      simp (disch := omega) [h1, h5, h6, h9, h11, h13, h14, h15, hb, h16, h17, h18, h19, h21, h22, h23, h24, his, hlt]
      refine ih (i + 1) (by omega) (c + 1) _ _ _ 0 (by omega) (by omega) ?_ ?_ ?_ ?_ ?_ ?_ ?_ ?_ ?_ ?_ ?_ ?_ ?_ ?_ ?_ ?_ ?_ <;> simp
    · rw [if_neg (by simpa using hlt)] at hcP
      simp (disch := omega) [h1, h5, h6, h9, h11, h13, h14, h15, hb, h16, h17, h18, h19, h21, h22, h23, h24, his, hlt]
      refine ih (i + 1) (by omega) c _ _ _ 0 (by omega) (by omega) ?_ ?_ ?_ ?_ ?_ ?_ ?_ ?_ ?_ ?_ ?_ ?_ ?_ ?_ ?_ ?_ ?_ <;> simp
/-- What is kept from operation to operation: so many nodes are none's still. -/
structure Room (m : List Int) (Q : List Node) (i : Nat) : Prop where
  ch : Ch m Q
  set : SetG (kys Q)
  i64s : ∀ n ∈ m, i64 n
  free : ∀ j, i ≤ j → j < 12 → (∀ x ∈ pathOf Q, x.1 ≠ m.length / 4 - 1 - j) ∧ W m (m.length / 4 - 1 - j) 3 = 0
  len : 12 + 2 ≤ m.length / 4
  many : Q.length + 2 + (12 - i) ≤ m.length / 4
set_option maxHeartbeats 4000000 in
theorem alone5_loop1 (ops : List Pr) (hops : ∀ p ∈ ops, p.ok) (hol : ops.length < 1000000000000000) : ∀ (k i : Nat), i + k = min ops.length 12 → ∀ (m : List Int) (Q : List Node) (s : List Int) (sl : List (Nat × AVal)) (mem : List (Nat × Blk)) (nx : Nat),
    Room m Q i → kys Q = s → lk sl 1 = .list 2 (lst Pr.c ops) → lk sl 5 = .bool true → lk sl 6 = .list 1 (ints s) → lk sl 7 = .list 1 (ints m) → lk sl 9 = .int .i64 i →
    Ends (den Γ (.loop g5l1) ⟨sl, mem, nx, true⟩) fun e sl' _ _ pr => e = .exit 0 ∧ pr = true ∧ lk sl' 5 = .bool true := by
  intro k
  induction k with
  | zero =>
    intro i hi m Q s sl mem nx hR hs h1 h5 h6 h7 h9
    apply Ends_loop
    conv => lhs; lhs; rw [g5l1]
    by_cases hlt : i < ops.length
    · simp (disch := omega) [h1, h5, h6, h7, h9, hlt, decF]
    · simp (disch := omega) [h1, h5, h6, h7, h9, hlt, decF]
  | succ k ih =>
    intro i hi m Q s sl mem nx hR hs h1 h5 h6 h7 h9
    subst hs
    have hil : i < ops.length := by omega
    obtain ⟨oa, ob⟩ := hops _ (List.getElem_mem hil)
    have hml := hR.ch.len
    have h4 := hR.ch.four
    have hlen := hR.len
    have hmany := hR.many
    have hsl := hR.set.len
    have p1 := pick17 ops[i].a 3 oa (by omega)
    have l1 := pickI_lt ops[i].a 3 (by omega)
    have p2 := pick17 ops[i].b 21 ob (by omega)
    have l2 := pickI_lt ops[i].b 21 (by omega)
    generalize hK0 : pickI ops[i].a 3 = K0 at p1 l1
    generalize hk0 : pickI ops[i].b 21 = key at p2 l2
    have e4 : Int.tdiv (m.length : Int) 4 = (m.length : Int) / 4 := Int.tdiv_eq_ediv_of_nonneg (by omega)
    have hcn : (m.length : Int) / 4 - 1 - (i : Int) = ((m.length / 4 - 1 - i : Nat) : Int) := by omega
    have hK : 1 + K0 = 1 ∨ 1 + K0 = 2 ∨ 1 + K0 = 3 := by omega
    have b0 := begin14 (1 + K0) key i ((m.length : Int) / 4 - 1 - (i : Int))
    have e0 := begin_wkr (1 + K0) key i (m.length / 4 - 1 - i) hK (by omega) (by omega)
    rw [hcn, e0] at b0
    obtain ⟨f1, f2⟩ := hR.free i (Nat.le_refl _) (by omega)
    obtain ⟨m', w', Q', a1, a2, a3, a4, a5, a6, a7, a8, a9⟩ := alone_op (k := key) (t := (i : Int) + 1) (c := m.length / 4 - 1 - i) hR.ch hK (by omega) (by unfold okW; omega) (by omega) f1 f2 (by omega) hR.set
    have z : i64 0 := by unfold i64; simp
    have wok : (wkr (1 + K0) key ((m.length / 4 - 1 - i : Nat) : Int) ((i : Int) + 1) 0 0 0 0 0 0).ok := wkr_ok (by unfold i64; omega) (by unfold i64; omega) (by unfold i64; omega) (by unfold i64; omega) z z z z z z
    have g0 := alone22 m (wkr (1 + K0) key ((m.length / 4 - 1 - i : Nat) : Int) ((i : Int) + 1) 0 0 0 0 0 0) (by omega) hR.i64s wok
    have gi := aloneS_i64 m (wkr (1 + K0) key ((m.length / 4 - 1 - i : Nat) : Int) ((i : Int) + 1) 0 0 0 0 0 0) hR.i64s
    rw [a1] at g0 gi
    unfold aloneV at g0
    simp only at g0 gi
    rw [wcell_of w' a2 _ a3] at g0
    have hset := hR.set.doR (kind := 1 + K0) (k := key) (by omega)
    have d0 := do26 (kys Q) (1 + K0) key hR.set (by omega) hK
    have k0 := keys27 a4
    rw [a5] at k0
    have st := still28 a4
    have qq := ints21 (doR (kys Q) (1 + K0) key).1 (doR (kys Q) (1 + K0) key).1 (by have := hset.len; omega)
    have hpl := List.length_filter_le (fun x => decide (x < key)) (kys Q)
    have hstep : (stepsN (kys Q) (1 + K0) key : Int) ≤ 2 * (((kys Q).filter (fun x => decide (x < key))).length : Int) + 16 := by
      unfold stepsN
      split
      · omega
      · split <;> omega
    have hstep0 : (0 : Int) ≤ (stepsN (kys Q) (1 + K0) key : Int) := by omega
    have hstepn : ¬ (stepsN (kys Q) (1 + K0) key : Int) > 2 * (((kys Q).filter (fun x => decide (x < key))).length : Int) + 16 := by omega
    generalize hPs : ((kys Q).filter (fun x => decide (x < key))).length = P at hpl hstep hstepn
    generalize (stepsN (kys Q) (1 + K0) key : Int) = NS at g0 hstep hstep0 hstepn
    apply Ends_loop
    conv => lhs; lhs; rw [g5l1]
    simp (disch := omega) [h1, h5, h6, h7, h9, hil, decT, Pr.c, p1, p2, e4, hcn, b0, g0, d0, k0, ifT]
    refine Ends.ctx (fun z => bindN (bindN (unBlk 1 (bindN (unBlk 2 z) _)) _) _) (alone5_loop0 (kys Q) (by omega) key ops i 0 NS 0 (doR (kys Q) (1 + K0) key).2 0 m' (doR (kys Q) (1 + K0) key).1 (doR (kys Q) (1 + K0) key).1 w' P hPs.symm (kys Q).length 0 (by omega) 0 _ _ _ 1 (by omega) (by simpa using hPs) ?_ ?_ ?_ ?_ ?_ ?_ ?_ ?_ ?_ ?_ ?_ ?_ ?_ ?_ ?_ ?_ ?_) ?_
    all_goals first | (simp; done) | (simp [lst, Pr.c]; done) | (simp [wcell_of w' a2 _ a3]; done) | skip
    rintro e sl mem nx pr ⟨rfl, rfl, u1, u5, u9, u13, u14, u16, u17, u18, u19, u21, u22, u23, b, u15, ub⟩
    rw [wcell_of w' a2 _ a3] at ub
    simp (disch := omega) [u1, u5, u9, u13, u14, u16, u17, u18, u19, u21, u22, u23, u15, ub, qq, st, decF]
    refine ih (i + 1) (by omega) m' Q' (doR (kys Q) (1 + K0) key).1 _ _ _ ⟨a4, by rw [a5]; exact hset, gi, fun j hj hj2 => ?_, by omega, by omega⟩ a5 ?_ ?_ ?_ ?_ ?_
    · obtain ⟨v1, v2⟩ := hR.free j (by omega) hj2
      rw [a6]
      refine ⟨fun x hx => ?_, ?_⟩
      · simp only [pathOf, List.mem_cons, List.mem_append, List.not_mem_nil, or_false] at hx
        rcases hx with rfl | hx | rfl
        · exact v1 _ (by simp [pathOf])
        · rcases a7 x hx with h | h
          · exact v1 x (by simp [pathOf, h])
          · rw [h]; omega
        · exact v1 _ (by simp [pathOf])
      · rw [a9 _ v1 (by omega)]; exact v2
    all_goals first | (simp [u1, u5]; done) | (simp [lst, Pr.c]; done) | skip
theorem alone5 (raw : List Int) (hraw : ∀ n ∈ raw, i64 n) (hrl : raw.length < 100000000000000) (ops : List Pr) (hops : ∀ p ∈ ops, p.ok) (hol : ops.length < 1000000000000000) :
    cd Γ 5 [.list 1 (ints raw), .list 2 (lst Pr.c ops)] = some (.bool true) := by
  have q1 := keys24 raw hraw hrl
  have hs := keysS_ok raw
  generalize keysS raw = s at q1 hs
  have hsl := hs.len
  have q2 : cd Γ 25 [.list 1 (ints s), .int .i64 12] = _ := make25 s hs 12 (by omega)
  have hml := makeS_len s 12
  have hkq := qR_kys s 0
  have hql := qR_len s 0
  have hR : Room (makeS s 12) (qR 0 s) 0 := by
    refine ⟨makeS_ch hs (by omega), by rw [hkq]; exact hs, (makeS_bnd hs 12).i64, fun j _ hj => ?_, by omega, by omega⟩
    exact ⟨makeS_spare (by omega), W_spare s 12 _ 3 (by omega)⟩
  rw [call (fn := g5) rfl rfl]
  apply Ends.fin
  simp (disch := omega) [g5, g5b, awake13, q1, q2]
  refine Ends.blk (alone5_loop1 ops hops hol (min ops.length 12) 0 (by omega) (makeS s 12) (qR 0 s) s _ _ _ hR hkq ?_ ?_ ?_ ?_ ?_) ?_
  all_goals first | (simp; done) | skip
  rintro e sl mem nx pr ⟨rfl, rfl, h5⟩
  simp [h5]
theorem alone_cd (vs : List AVal) (h : ArgsOk [kIs, kPs] vs) : cd Γ 5 vs = some (.bool true) := by
  obtain ⟨a, b, rfl, ha, hb⟩ := args2 h
  obtain ⟨raw, rfl, h1, h2⟩ := arg_ints ha
  obtain ⟨ops, rfl, h3, h4⟩ := arg_prs hb
  exact alone5 raw h2 (by omega) ops h4 (by omega)
end Go.Proofs.Ytnomicnfgdjdeaa.Ab
