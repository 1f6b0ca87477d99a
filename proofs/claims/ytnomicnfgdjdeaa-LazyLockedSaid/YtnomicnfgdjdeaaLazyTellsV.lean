/- LazyTells by the interpreter: what a worker begins with, and what a step does, is as the document says. No condition. -/
import Derived.Test.YtnomicnfgdjdeaaLazyB
namespace Go.Proofs.Ytnomicnfgdjdeaa.Ab
open Go.RowKit
set_option linter.unusedSimpArgs false

theorem Wk.cell (w : Wk) : w.c = [.int .i64 w.kind, .int .i64 w.pc, .int .i64 w.r0, .int .i64 w.r1, .int .i64 w.r2, .int .i64 w.r3, .int .i64 w.r4, .int .i64 w.r5, .int .i64 w.r6, .int .i64 w.r7, .int .i64 w.r8, .int .i64 w.r9, .bool w.done, .int .i64 w.out] := rfl
theorem tells3_loop0 (ns : List Int) (hn : ns.length = 10) (hni : ∀ x ∈ ns, i64 x) : ∀ (k i : Nat), i + k = 10 → ∀ (x : Wk) (sl : List (Nat × AVal)) (mem : List (Nat × Blk)) (nx b : Nat),
    x.ok → lk sl 13 = .fptr (ns.map (AVal.int .i64)) → lk sl 24 = .ptr b 0 0 → mg mem b = some ⟨25, 14, [x.c]⟩ → lk sl 25 = .int .i64 i → ∀ v9 v17 v22 v23, lk sl 9 = .fptr v9 → lk sl 17 = .bool v17 → lk sl 22 = .list 1 (ints v22) → lk sl 23 = .list 1 (ints v23) →
    Ends (den Γ (.loop g3l0) ⟨sl, mem, nx, true⟩) fun e sl' mem' nx' pr => e = .exit 0 ∧ pr = true ∧ lk sl' 9 = .fptr v9 ∧ lk sl' 13 = .fptr (ns.map (AVal.int .i64)) ∧ lk sl' 17 = .bool v17 ∧ lk sl' 22 = .list 1 (ints v22) ∧ lk sl' 23 = .list 1 (ints v23) ∧
      ∃ b, lk sl' 24 = .ptr b 0 0 ∧ b < nx' ∧ ∃ y : Wk, mg mem' b = some ⟨25, 14, [y.c]⟩ ∧ y.ok := by
  match ns, hn with
  | [n0, n1, n2, n3, n4, n5, n6, n7, n8, n9], _ =>
  intro k
  induction k with
  | zero =>
    intro i hi x sl mem nx b hx h13 h24 hb h25 v9 v17 v22 v23 h9 h17 h22 h23
    apply Ends_loop
    conv => lhs; lhs; rw [g3l0]
    simp [h9, h13, h17, h22, h23, h24, h25, hb, show i = 10 by omega]
    exact ⟨x, rfl, hx⟩
  | succ k ih =>
    intro i hi x sl mem nx b hx h13 h24 hb h25 v9 v17 v22 v23 h9 h17 h22 h23
    apply Ends_loop
    conv => lhs; lhs; rw [g3l0]
    have pk : ∀ n : Int, i64 n → cd Γ 17 [.int .i64 n, .int .i64 9] = some (.int .i64 (pickI n 9)) := fun n hn => pick17 n 9 hn (by omega)
    have hlt : ∀ n : Int, 0 ≤ pickI n 9 ∧ pickI n 9 < 9 := fun n => pickI_lt n 9 (by omega)
    have hv : ∀ n : Int, i64 (pickI n 9 - 1) := fun n => by have := hlt n; unfold i64; omega
    simp only [List.mem_cons, List.not_mem_nil, or_false, forall_eq_or_imp, forall_eq] at hni
    obtain ⟨m0, m1, m2, m3, m4, m5, m6, m7, m8, m9⟩ := hni
    obtain ⟨kind, pc, r0, r1, r2, r3, r4, r5, r6, r7, r8, r9, done, out⟩ := x
    obtain ⟨o1, o2, o3, o4, o5, o6, o7, o8, o9, o10, o11, o12, o13⟩ := hx
    simp only at o1 o2 o3 o4 o5 o6 o7 o8 o9 o10 o11 o12 o13
    rw [Wk.cell] at hb
    simp only at hb
    have hc : i = 0 ∨ i = 1 ∨ i = 2 ∨ i = 3 ∨ i = 4 ∨ i = 5 ∨ i = 6 ∨ i = 7 ∨ i = 8 ∨ i = 9 := by omega
    rcases hc with rfl | rfl | rfl | rfl | rfl | rfl | rfl | rfl | rfl | rfl
    · have l := hlt n0
      simp (disch := omega) [h9, h13, h17, h22, h23, h24, h25, hb, pk _ m0]
      refine ih 1 (by omega) ⟨kind, pc, pickI n0 9 - 1, r1, r2, r3, r4, r5, r6, r7, r8, r9, done, out⟩ _ _ _ 0 ⟨o1, o2, hv _, o4, o5, o6, o7, o8, o9, o10, o11, o12, o13⟩ ?_ ?_ ?_ ?_ v9 v17 v22 v23 ?_ ?_ ?_ ?_ <;> simp [Wk.c]
    · have l := hlt n1
      simp (disch := omega) [h9, h13, h17, h22, h23, h24, h25, hb, pk _ m1]
      refine ih 2 (by omega) ⟨kind, pc, r0, pickI n1 9 - 1, r2, r3, r4, r5, r6, r7, r8, r9, done, out⟩ _ _ _ 0 ⟨o1, o2, o3, hv _, o5, o6, o7, o8, o9, o10, o11, o12, o13⟩ ?_ ?_ ?_ ?_ v9 v17 v22 v23 ?_ ?_ ?_ ?_ <;> simp [Wk.c]
    · have l := hlt n2
      simp (disch := omega) [h9, h13, h17, h22, h23, h24, h25, hb, pk _ m2]
      refine ih 3 (by omega) ⟨kind, pc, r0, r1, pickI n2 9 - 1, r3, r4, r5, r6, r7, r8, r9, done, out⟩ _ _ _ 0 ⟨o1, o2, o3, o4, hv _, o6, o7, o8, o9, o10, o11, o12, o13⟩ ?_ ?_ ?_ ?_ v9 v17 v22 v23 ?_ ?_ ?_ ?_ <;> simp [Wk.c]
    · have l := hlt n3
      simp (disch := omega) [h9, h13, h17, h22, h23, h24, h25, hb, pk _ m3]
      refine ih 4 (by omega) ⟨kind, pc, r0, r1, r2, pickI n3 9 - 1, r4, r5, r6, r7, r8, r9, done, out⟩ _ _ _ 0 ⟨o1, o2, o3, o4, o5, hv _, o7, o8, o9, o10, o11, o12, o13⟩ ?_ ?_ ?_ ?_ v9 v17 v22 v23 ?_ ?_ ?_ ?_ <;> simp [Wk.c]
    · have l := hlt n4
      simp (disch := omega) [h9, h13, h17, h22, h23, h24, h25, hb, pk _ m4]
      refine ih 5 (by omega) ⟨kind, pc, r0, r1, r2, r3, pickI n4 9 - 1, r5, r6, r7, r8, r9, done, out⟩ _ _ _ 0 ⟨o1, o2, o3, o4, o5, o6, hv _, o8, o9, o10, o11, o12, o13⟩ ?_ ?_ ?_ ?_ v9 v17 v22 v23 ?_ ?_ ?_ ?_ <;> simp [Wk.c]
    · have l := hlt n5
      simp (disch := omega) [h9, h13, h17, h22, h23, h24, h25, hb, pk _ m5]
      refine ih 6 (by omega) ⟨kind, pc, r0, r1, r2, r3, r4, pickI n5 9 - 1, r6, r7, r8, r9, done, out⟩ _ _ _ 0 ⟨o1, o2, o3, o4, o5, o6, o7, hv _, o9, o10, o11, o12, o13⟩ ?_ ?_ ?_ ?_ v9 v17 v22 v23 ?_ ?_ ?_ ?_ <;> simp [Wk.c]
    · have l := hlt n6
      simp (disch := omega) [h9, h13, h17, h22, h23, h24, h25, hb, pk _ m6]
      refine ih 7 (by omega) ⟨kind, pc, r0, r1, r2, r3, r4, r5, pickI n6 9 - 1, r7, r8, r9, done, out⟩ _ _ _ 0 ⟨o1, o2, o3, o4, o5, o6, o7, o8, hv _, o10, o11, o12, o13⟩ ?_ ?_ ?_ ?_ v9 v17 v22 v23 ?_ ?_ ?_ ?_ <;> simp [Wk.c]
    · have l := hlt n7
      simp (disch := omega) [h9, h13, h17, h22, h23, h24, h25, hb, pk _ m7]
      refine ih 8 (by omega) ⟨kind, pc, r0, r1, r2, r3, r4, r5, r6, pickI n7 9 - 1, r8, r9, done, out⟩ _ _ _ 0 ⟨o1, o2, o3, o4, o5, o6, o7, o8, o9, hv _, o11, o12, o13⟩ ?_ ?_ ?_ ?_ v9 v17 v22 v23 ?_ ?_ ?_ ?_ <;> simp [Wk.c]
    · have l := hlt n8
      simp (disch := omega) [h9, h13, h17, h22, h23, h24, h25, hb, pk _ m8]
      refine ih 9 (by omega) ⟨kind, pc, r0, r1, r2, r3, r4, r5, r6, r7, pickI n8 9 - 1, r9, done, out⟩ _ _ _ 0 ⟨o1, o2, o3, o4, o5, o6, o7, o8, o9, o10, hv _, o12, o13⟩ ?_ ?_ ?_ ?_ v9 v17 v22 v23 ?_ ?_ ?_ ?_ <;> simp [Wk.c]
    · have l := hlt n9
      simp (disch := omega) [h9, h13, h17, h22, h23, h24, h25, hb, pk _ m9]
      refine ih 10 (by omega) ⟨kind, pc, r0, r1, r2, r3, r4, r5, r6, r7, r8, pickI n9 9 - 1, done, out⟩ _ _ _ 0 ⟨o1, o2, o3, o4, o5, o6, o7, o8, o9, o10, o11, hv _, o13⟩ ?_ ?_ ?_ ?_ v9 v17 v22 v23 ?_ ?_ ?_ ?_ <;> simp [Wk.c]
theorem stepV_tup (r : List Int × Wk × Int) : stepV r = .tup [.list 1 (ints r.1), .agg r.2.1.c, .int .i64 r.2.2] := rfl
theorem doS_len (m : List Int) (a : Acc) : (doS m a).1.length = m.length := by
  unfold doS
  generalize (if a.op = 4 then m.getD a.at_.toNat 0 + a.new else a.new) = t
  repeat (split; · simp)
  rfl
theorem stepS_len (m : List Int) (w : Wk) : (stepS m w).1.length = m.length := by
  unfold stepS
  split
  · rfl
  · split
    · rfl
    · split
      · exact doS_len _ _
      · rfl
theorem tells3_loop1 (m : List Int) (hm : m.length ≤ 1000) (hmi : ∀ n ∈ m, i64 n) (L : List Wk) (hLl : L.length = 3) (hL : ∀ w ∈ L, w.ok) (x y : Wk) (v118 : List (List AVal)) (v119 v120 : Int) (v9 : List AVal) : ∀ (k i : Nat), i + k = 3 → ∀ (sl : List (Nat × AVal)) (mem : List (Nat × Blk)) (nx b c : Nat),
    b ≠ c → lk sl 24 = .ptr b 0 0 → mg mem b = some ⟨25, 14, [x.c]⟩ → lk sl 26 = .ptr c 0 0 → mg mem c = some ⟨25, 14, [y.c]⟩ → lk sl 28 = .list 1 (ints m) → lk sl 127 = .list 14 (lst Wk.c L) → lk sl 128 = .int .i64 3 → lk sl 129 = .int .i64 i →
    lk sl 9 = .fptr v9 → lk sl 17 = .bool true → lk sl 118 = .list 1 v118 → lk sl 119 = .int .i64 v119 → lk sl 120 = .int .i64 v120 →
    Ends (den Γ (.loop g3l1) ⟨sl, mem, nx, true⟩) fun e sl' mem' _ pr => e = .exit 4 ∧ pr = true ∧ lk sl' 9 = .fptr v9 ∧ lk sl' 17 = .bool true ∧ lk sl' 118 = .list 1 v118 ∧ lk sl' 119 = .int .i64 v119 ∧ lk sl' 120 = .int .i64 v120 ∧
      ∃ b, lk sl' 24 = .ptr b 0 0 ∧ ∃ c, lk sl' 26 = .ptr c 0 0 ∧ ¬ b = c ∧ mg mem' b = some ⟨25, 14, [x.c]⟩ ∧ mg mem' c = some ⟨25, 14, [y.c]⟩ := by
  intro k
  induction k with
  | zero =>
    intro i hi sl mem nx b c hbc h24 hb h26 hc h28 h127 h128 h129 h9 h17 h118 h119 h120
    apply Ends_loop
    conv => lhs; lhs; rw [g3l1]
    simp [h24, hb, h26, hc, h28, h127, h128, h129, h9, h17, h118, h119, h120, show i = 3 by omega, hbc]
  | succ k ih =>
    intro i hi sl mem nx b c hbc h24 hb h26 hc h28 h127 h128 h129 h9 h17 h118 h119 h120
    have hil : i < L.length := by omega
    have hi3 : i < 3 := by omega
    have hw := hL _ (List.getElem_mem hil)
    have p1 := step19 (w := L[i]) (m := m) (by omega) hmi hw
    have p2 := step20 m L[i] (by omega) hmi hw
    have hsl := stepS_len m L[i]
    rw [stepV_tup] at p1 p2
    generalize hr : stepS m L[i] = r at p1 p2 hsl
    obtain ⟨n, v, er⟩ := r
    simp only at p1 p2 hsl
    have q := ints21 n n (by omega)
    apply Ends_loop
    conv => lhs; lhs; rw [g3l1]
    simp (disch := omega) [h24, hb, h26, hc, h28, h127, h128, h129, h9, h17, h118, h119, h120, hbc, hil, decT, ifT, ifF, p1, p2, q, eqW]
    refine ih (i + 1) (by omega) _ _ _ 0 1 (by omega) ?_ ?_ ?_ ?_ ?_ ?_ ?_ ?_ ?_ ?_ ?_ ?_ ?_ <;> simp
theorem tells3_loop2 (M : List (List Int)) (hMl : M.length = 2) (hM : ∀ m ∈ M, m.length ≤ 1000 ∧ ∀ n ∈ m, i64 n) (w x y : Wk) (hw : w.ok) (hx : x.ok) (hy : y.ok) : ∀ (k i : Nat), i + k = 2 → ∀ (sl : List (Nat × AVal)) (mem : List (Nat × Blk)) (nx b c : Nat),
    b ≠ c → lk sl 24 = .ptr b 0 0 → mg mem b = some ⟨25, 14, [x.c]⟩ → lk sl 26 = .ptr c 0 0 → mg mem c = some ⟨25, 14, [y.c]⟩ →
    lk sl 9 = .fptr w.c → lk sl 17 = .bool true → lk sl 118 = .list 1 (lst (fun l => [.list 1 (ints l)]) M) → lk sl 119 = .int .i64 2 → lk sl 120 = .int .i64 i →
    Ends (den Γ (.loop g3l2) ⟨sl, mem, nx, true⟩) fun e sl' _ _ pr => e = .exit 2 ∧ pr = true ∧ lk sl' 17 = .bool true := by
  intro k
  induction k with
  | zero =>
    intro i hi sl mem nx b c hbc h24 hb h26 hc h9 h17 h118 h119 h120
    apply Ends_loop
    conv => lhs; lhs; rw [g3l2]
    simp [h24, hb, h26, hc, h9, h17, h118, h119, h120, show i = 2 by omega, hbc]
  | succ k ih =>
    intro i hi sl mem nx b c hbc h24 hb h26 hc h9 h17 h118 h119 h120
    have hil : i < M.length := by omega
    have hi2 : i < 2 := by omega
    obtain ⟨hm, hmi⟩ := hM _ (List.getElem_mem hil)
    apply Ends_loop
    conv => lhs; lhs; rw [g3l2]
    simp (disch := omega) [h24, hb, h26, hc, h9, h17, h118, h119, h120, hbc, hil, decT, ifT, ifF]
    refine Ends.ctx (fun z => bindN (bindN (unBlk 3 (unBlk 4 z)) _) _) (tells3_loop1 M[i] hm hmi [w, x, y] rfl (by simp [hw, hx, hy]) x y (lst (fun l => [.list 1 (ints l)]) M) 2 i w.c 3 0 rfl _ _ _ 0 1 (by omega) ?_ ?_ ?_ ?_ ?_ ?_ ?_ ?_ ?_ ?_ ?_ ?_ ?_) ?_
    all_goals first | (simp; done) | (simp [lst]; done) | skip
    rintro e sl mem nx pr ⟨rfl, rfl, g9, g17, g118, g119, g120, b, g24, c, g26, gbc, gb, gc⟩
    simp (disch := omega) [g9, g17, g118, g119, g120, g24, g26, gb, gc]
    refine ih (i + 1) (by omega) _ _ _ b c gbc ?_ gb ?_ gc ?_ ?_ ?_ ?_ ?_ <;> simp [g9, g17, g118, g119, g24, g26]
theorem nextS_ok {w : Wk} (hw : w.ok) {f : Fnd} (hf : i64 f.v) : (nextS w f).ok := by
  obtain ⟨kind, pc, r0, r1, r2, r3, r4, r5, r6, r7, r8, r9, done, out⟩ := w
  obtain ⟨o1, o2, o3, o4, o5, o6, o7, o8, o9, o10, o11, o12, o13⟩ := hw
  simp only at o1 o2 o3 o4 o5 o6 o7 o8 o9 o10 o11 o12 o13
  have z : ∀ n : Int, -100 ≤ n ∧ n ≤ 100 → i64 n := fun n hn => by unfold i64; omega
  have fin : ∀ (a b c d e : Int) (x : Bool) (y g : Int), i64 a → i64 b → i64 c → i64 d → i64 e → i64 y → i64 g → (⟨kind, a, r0, b, c, r3, r4, d, e, g, r8, r9, x, y⟩ : Wk).ok := fun a b c d e x y g h1 h2 h3 h4 h5 h6 h7 => ⟨o1, h1, o3, h2, h3, o6, o7, h4, h5, h7, o11, o12, h6⟩
  unfold nextS toS
  simp only
  by_cases c0 : pc = 0
  · rw [if_pos c0]; exact fin _ _ _ _ _ _ _ _ (z _ (by omega)) (z _ (by omega)) hf o8 o9 o13 o10
  rw [if_neg c0]
  by_cases c1 : pc = 1
  · rw [if_pos c1]
    split
    · exact fin _ _ _ _ _ _ _ _ (z _ (by omega)) o4 o5 o8 o9 o13 o10
    · refine fin _ _ _ _ _ _ _ _ ?_ o4 o5 hf o9 o13 o10
      split <;> exact z _ (by omega)
  rw [if_neg c1]
  by_cases c2 : pc = 2
  · rw [if_pos c2]; exact fin _ _ _ _ _ _ _ _ (z _ (by omega)) o5 hf o8 o9 o13 o10
  rw [if_neg c2]
  by_cases c3 : pc = 3
  · rw [if_pos c3]
    refine fin _ _ _ _ _ _ _ _ o2 o4 o5 o8 o9 ?_ o10
    split <;> exact z _ (by omega)
  rw [if_neg c3]
  by_cases c10 : pc = 10
  · rw [if_pos c10]; split <;> exact fin _ _ _ _ _ _ _ _ (z _ (by omega)) o4 o5 o8 o9 o13 o10
  rw [if_neg c10]
  by_cases c11 : pc = 11
  · rw [if_pos c11]
    split
    · exact fin _ _ _ _ _ _ _ _ (z _ (by omega)) o4 o5 o8 o9 o13 o10
    · exact fin _ _ _ _ _ _ _ _ (z _ (by omega)) o4 o5 o8 o9 o13 (z _ (by omega))
  rw [if_neg c11]
  by_cases c12 : pc = 12
  · rw [if_pos c12]
    split
    · exact fin _ _ _ _ _ _ _ _ (z _ (by omega)) o4 o5 o8 o9 o13 o10
    · exact fin _ _ _ _ _ _ _ _ (z _ (by omega)) o4 o5 o8 o9 o13 (z _ (by omega))
  rw [if_neg c12]
  by_cases c13 : pc = 13
  · rw [if_pos c13]
    split
    · exact fin _ _ _ _ _ _ _ _ (z _ (by omega)) o4 o5 o8 o9 o13 o10
    · exact fin _ _ _ _ _ _ _ _ (z _ (by omega)) o4 o5 o8 o9 o13 (z _ (by omega))
  rw [if_neg c13]
  by_cases c14 : pc = 14
  · rw [if_pos c14]
    split
    · exact fin _ _ _ _ _ _ _ _ (z _ (by omega)) o4 o5 o8 o9 o13 (z _ (by omega))
    · split
      · split
        · exact fin _ _ _ _ _ _ _ _ (z _ (by omega)) o4 o5 o8 o9 o13 (z _ (by omega))
        · exact fin _ _ _ _ _ _ _ _ (z _ (by omega)) o4 o5 o8 o9 o13 o10
      · split
        · exact fin _ _ _ _ _ _ _ _ (z _ (by omega)) o4 o5 o8 o9 o13 o10
        · exact fin _ _ _ _ _ _ _ _ (z _ (by omega)) o4 o5 o8 o9 o13 (z _ (by omega))
  rw [if_neg c14]
  by_cases c15 : pc = 15
  · rw [if_pos c15]; exact fin _ _ _ _ _ _ _ _ (z _ (by omega)) o4 o5 o8 o9 o13 o10
  rw [if_neg c15]
  by_cases c16 : pc = 16
  · rw [if_pos c16]; exact fin _ _ _ _ _ _ _ _ (z _ (by omega)) o4 o5 o8 o9 o13 o10
  rw [if_neg c16]
  by_cases c17 : pc = 17
  · rw [if_pos c17]; exact fin _ _ _ _ _ _ _ _ (z _ (by omega)) o4 o5 o8 o9 o13 o10
  rw [if_neg c17]
  by_cases c18 : pc = 18
  · rw [if_pos c18]; exact fin _ _ _ _ _ _ _ _ (z _ (by omega)) o4 o5 o8 o9 o13 (z _ (by omega))
  rw [if_neg c18]
  by_cases c22 : pc = 22
  · rw [if_pos c22]; exact fin _ _ _ _ _ _ _ _ (z _ (by omega)) o4 o5 o8 o9 o13 (z _ (by omega))
  rw [if_neg c22]
  by_cases c19 : pc = 19
  · rw [if_pos c19]; exact fin _ _ _ _ _ _ _ _ (z _ (by omega)) o4 o5 o8 hf o13 o10
  rw [if_neg c19]
  by_cases c20 : pc = 20
  · rw [if_pos c20]; exact fin _ _ _ _ _ _ _ _ (z _ (by omega)) o4 o5 o8 o9 o13 o10
  rw [if_neg c20]
  split
  · exact fin _ _ _ _ _ _ _ _ (z _ (by omega)) o4 o5 o8 o9 o13 o10
  · exact fin _ _ _ _ _ _ _ _ o2 o4 o5 o8 o9 o10 o10
theorem beginS_ok {kind key thread node : Int} (h1 : i64 kind) (h2 : i64 key) (h4 : i64 node) : (beginS kind key thread node).1.ok := by
  have z : ∀ n : Int, -100 ≤ n ∧ n ≤ 100 → i64 n := fun n hn => by unfold i64; omega
  unfold beginS
  split
  · exact ⟨z _ (by simp [zeroW]), z _ (by simp [zeroW]), z _ (by simp [zeroW]), z _ (by simp [zeroW]), z _ (by simp [zeroW]), z _ (by simp [zeroW]), z _ (by simp [zeroW]), z _ (by simp [zeroW]), z _ (by simp [zeroW]), z _ (by simp [zeroW]), z _ (by simp [zeroW]), z _ (by simp [zeroW]), z _ (by simp [zeroW])⟩
  · exact ⟨h1, z _ (by simp), h2, z _ (by simp), z _ (by simp), h4, z _ (by simp only; omega), z _ (by simp), z _ (by simp), z _ (by simp), z _ (by simp), z _ (by simp), z _ (by simp)⟩
theorem pcs : ∀ j : Nat, j < 17 → ∃ p, ([[.int .i64 0], [.int .i64 1], [.int .i64 2], [.int .i64 3], [.int .i64 10], [.int .i64 11], [.int .i64 12], [.int .i64 13], [.int .i64 14], [.int .i64 15], [.int .i64 16], [.int .i64 17], [.int .i64 18], [.int .i64 19], [.int .i64 20], [.int .i64 21], [.int .i64 22]] : List (List AVal))[j]? = some [.int .i64 p] ∧ i64 p := by
  intro j hj
  have z : ∀ n : Int, -100 ≤ n ∧ n ≤ 100 → i64 n := fun n hn => by unfold i64; omega
  have hc : j = 0 ∨ j = 1 ∨ j = 2 ∨ j = 3 ∨ j = 4 ∨ j = 5 ∨ j = 6 ∨ j = 7 ∨ j = 8 ∨ j = 9 ∨ j = 10 ∨ j = 11 ∨ j = 12 ∨ j = 13 ∨ j = 14 ∨ j = 15 ∨ j = 16 := by omega
  rcases hc with rfl | rfl | rfl | rfl | rfl | rfl | rfl | rfl | rfl | rfl | rfl | rfl | rfl | rfl | rfl | rfl | rfl <;> exact ⟨_, rfl, z _ (by omega)⟩
set_option maxHeartbeats 4000000 in
theorem tells3 (any : List Int) (hany : ∀ n ∈ any, i64 n) (hanl : any.length < 100000000000000) (w : Wk) (hw : w.ok) (raw : List Int) (hraw : ∀ n ∈ raw, i64 n) (hrl : raw.length < 100000000000000) (ch : List Pr) (hch : ∀ p ∈ ch, p.ok) (hcl : ch.length < 1000000000000000)
    (b0 b1 b2 b3 : Int) (hb0 : i64 b0) (hb1 : i64 b1) (hb3 : i64 b3) (ns : List Int) (hn : ns.length = 10) (hni : ∀ x ∈ ns, i64 x) (pc kind : Int) (hpc : i64 pc) (hkind : i64 kind) :
    cd Γ 3 [.list 1 (ints any), .agg w.c, .list 1 (ints raw), .list 2 (lst Pr.c ch), .agg [.int .i64 b0, .int .i64 b1, .int .i64 b2, .int .i64 b3], .agg (ns.map (AVal.int .i64)), .int .i64 pc, .int .i64 kind] = some (.bool true) := by
  have q1 := begin14 b0 b1 b2 b3
  have q2 := begin15 b0 b1 b2 b3
  obtain ⟨m, q3, m1, m2, m3⟩ := words16 raw hraw hrl 2 (by unfold i64; simp) ch hch hcl
  have q4 := pick17 kind 3 hkind (by omega)
  have l4 := pickI_lt kind 3 (by omega)
  have q5 := pick17 pc 17 hpc (by omega)
  have l5 := pickI_lt pc 17 (by omega)
  obtain ⟨j, hj⟩ : ∃ j : Nat, pickI pc 17 = j := ⟨(pickI pc 17).toNat, by omega⟩
  rw [hj] at q5 l5
  obtain ⟨p, hp, hp64⟩ := pcs j (by omega)
  have q6 := word18 m 0 1 (by omega) (by omega) (by omega)
  have q6' : i64 (m.getD (4 * (0 : Int) + 1).toNat 0) := by
    refine m3.i64 _ ?_
    rw [List.getD_eq_getElem?_getD, List.getElem?_eq_getElem (show (4 * (0 : Int) + 1).toNat < m.length by simp; omega)]
    exact List.getElem_mem _
  generalize m.getD (4 * (0 : Int) + 1).toNat 0 = z6 at q6 q6'
  -- a list whose length is that of the first 60
  have hA : ∃ A : List Int, (if 60 < any.length then any.take 60 else any) = A ∧ A.length ≤ 60 ∧ ∀ n ∈ A, i64 n := by
    refine ⟨_, rfl, ?_, ?_⟩
    · split
      · simp; omega
      · omega
    · split
      · intro n hn; exact hany n (List.mem_of_mem_take hn)
      · exact hany
  obtain ⟨A, hA0, hA1, hA2⟩ := hA
  rw [call (fn := g3) rfl rfl]
  apply Ends.fin
  have hnr : (ns.map (AVal.int .i64)).all AVal.noRef = true := by simp [AVal.noRef]
  have tail : ∀ (x y : Wk), x.ok → y.ok → ∀ sl mem nx b c, b ≠ c → lk sl 24 = .ptr b 0 0 → mg mem b = some ⟨25, 14, [x.c]⟩ → lk sl 26 = .ptr c 0 0 → mg mem c = some ⟨25, 14, [y.c]⟩ →
      lk sl 9 = .fptr w.c → lk sl 17 = .bool true → lk sl 118 = .list 1 (lst (fun l => [.list 1 (ints l)]) [A, m]) → lk sl 119 = .int .i64 2 → lk sl 120 = .int .i64 0 →
      Ends (bindN (unBlk 2 (den Γ (.loop g3l2) ⟨sl, mem, nx, true⟩)) (den Γ (.seq (.ops none [⟨some 163, none, .mov (.t 17)⟩, ⟨some 16, none, .mov (.t 163)⟩]) .ret))) fun e sl mem nx pr => finP g3.res (some (e, ⟨sl, mem, nx, pr⟩)) = some (.bool true) := by
    intro x y hx hy sl mem nx b c hbc h24 hb h26 hc h9 h17 h118 h119 h120
    refine Ends.blk (tells3_loop2 [A, m] rfl ?_ w x y hw hx hy 2 0 rfl sl mem nx b c hbc h24 hb h26 hc h9 h17 h118 h119 (by simpa using h120)) ?_
    · intro l hl
      simp only [List.mem_cons, List.not_mem_nil, or_false] at hl
      rcases hl with rfl | rfl
      · exact ⟨by omega, hA2⟩
      · exact ⟨by omega, m3.i64⟩
    · rintro e sl mem nx pr ⟨rfl, rfl, h17⟩
      simp [h17, g3]
  have xk : ∀ p : Int, i64 p → (⟨1 + pickI kind 3, p, 0, 0, 0, 0, 0, 0, 0, 0, 0, 0, false, 0⟩ : Wk).ok := by
    intro p hp
    have z : ∀ n : Int, -100 ≤ n ∧ n ≤ 100 → i64 n := fun n hn => by unfold i64; omega
    exact ⟨z _ (by simp only; omega), hp, z _ (by simp), z _ (by simp), z _ (by simp), z _ (by simp), z _ (by simp), z _ (by simp), z _ (by simp), z _ (by simp), z _ (by simp), z _ (by simp), z _ (by simp)⟩
  by_cases h60 : 60 < any.length
  · rw [if_pos h60] at hA0
    subst hA0
    simp (disch := omega) [g3, g3b, awake13, q1, q2, q3, q4, q5, hp, eqW, h60, decT, decF, ifT, ifF, hnr, hn]
    refine Ends.blk (tells3_loop0 ns hn hni 10 0 rfl ⟨1 + pickI kind 3, p, 0, 0, 0, 0, 0, 0, 0, 0, 0, 0, false, 0⟩ _ _ _ 2 ?_ ?_ ?_ ?_ ?_ w.c true (any.take 60) m ?_ ?_ ?_ ?_) ?_
    case refine_1 => exact xk p hp64
    all_goals first | rfl | (simp; done) | skip
    rintro e sl mem nx pr ⟨rfl, rfl, g9, g13, g17, g22, g23, b, g24, gbn, y, gb, gy⟩
    have g13' := g13
    match ns, hn with
    | [n0, n1, n2, n3, n4, n5, n6, n7, n8, n9], _ =>
    have n64 := hni n0 (by simp)
    have q8 := pick17 n0 2 n64 (by omega)
    by_cases h0 : pickI n0 2 = 0
    · rw [h0] at q8
      have gb' := gb
      rw [Wk.cell] at gb'
      simp (disch := omega) [g9, g13, g17, g22, g23, g24, gb', q8, q6, mg_ms_o]
      refine tail y ⟨y.kind, y.pc, y.r0, 0, z6, y.r3, y.r4, y.r0, y.r6, y.r7, y.r8, y.r9, y.done, y.out⟩ gy ?_ _ _ _ b nx (by omega) ?_ ?_ ?_ ?_ ?_ ?_ ?_ ?_ ?_
      · obtain ⟨o1, o2, o3, o4, o5, o6, o7, o8, o9, o10, o11, o12, o13⟩ := gy
        exact ⟨o1, o2, o3, by unfold i64; simp, q6', o6, o7, o3, o9, o10, o11, o12, o13⟩
      all_goals first | (simp [g24, g9, g17]; done) | (simp [lst]; done) | (simp (disch := omega) [ifF, gb]; done) | (simp [Wk.c]; done)
    · simp (disch := omega) [g9, g13, g17, g22, g23, g24, gb, q8, h0]
      refine tail y y gy gy _ _ _ b nx (by omega) ?_ ?_ ?_ ?_ ?_ ?_ ?_ ?_ ?_
      all_goals first | (simp [g24, g9, g17]; done) | (simp [lst]; done) | (simp (disch := omega) [ifF, gb]; done) | (simp [Wk.c]; done)
  · rw [if_neg h60] at hA0
    subst hA0
    simp (disch := omega) [g3, g3b, awake13, q1, q2, q3, q4, q5, hp, eqW, h60, decT, decF, ifT, ifF, hnr, hn]
    refine Ends.blk (tells3_loop0 ns hn hni 10 0 rfl ⟨1 + pickI kind 3, p, 0, 0, 0, 0, 0, 0, 0, 0, 0, 0, false, 0⟩ _ _ _ 2 ?_ ?_ ?_ ?_ ?_ w.c true any m ?_ ?_ ?_ ?_) ?_
    case refine_1 => exact xk p hp64
    all_goals first | rfl | (simp; done) | skip
    rintro e sl mem nx pr ⟨rfl, rfl, g9, g13, g17, g22, g23, b, g24, gbn, y, gb, gy⟩
    have g13' := g13
    match ns, hn with
    | [n0, n1, n2, n3, n4, n5, n6, n7, n8, n9], _ =>
    have n64 := hni n0 (by simp)
    have q8 := pick17 n0 2 n64 (by omega)
    by_cases h0 : pickI n0 2 = 0
    · rw [h0] at q8
      have gb' := gb
      rw [Wk.cell] at gb'
      simp (disch := omega) [g9, g13, g17, g22, g23, g24, gb', q8, q6, mg_ms_o]
      refine tail y ⟨y.kind, y.pc, y.r0, 0, z6, y.r3, y.r4, y.r0, y.r6, y.r7, y.r8, y.r9, y.done, y.out⟩ gy ?_ _ _ _ b nx (by omega) ?_ ?_ ?_ ?_ ?_ ?_ ?_ ?_ ?_
      · obtain ⟨o1, o2, o3, o4, o5, o6, o7, o8, o9, o10, o11, o12, o13⟩ := gy
        exact ⟨o1, o2, o3, by unfold i64; simp, q6', o6, o7, o3, o9, o10, o11, o12, o13⟩
      all_goals first | (simp [g24, g9, g17]; done) | (simp [lst]; done) | (simp (disch := omega) [ifF, gb]; done) | (simp [Wk.c]; done)
    · simp (disch := omega) [g9, g13, g17, g22, g23, g24, gb, q8, h0]
      refine tail y y gy gy _ _ _ b nx (by omega) ?_ ?_ ?_ ?_ ?_ ?_ ?_ ?_ ?_
      all_goals first | (simp [g24, g9, g17]; done) | (simp [lst]; done) | (simp (disch := omega) [ifF, gb]; done) | (simp [Wk.c]; done)
theorem tells_cd (vs : List AVal) (h : ArgsOk [kIs, kW, kIs, kPs, kN 4, kN 10, kI, kI] vs) : cd Γ 3 vs = some (.bool true) := by
  obtain ⟨a, b, c, d, e, f, g, i, rfl, ha, hb, hc, hd, he, hf, hg, hi⟩ := args8 h
  obtain ⟨any, rfl, h1, h2⟩ := arg_ints ha
  obtain ⟨w, rfl, hw⟩ := arg_w hb
  obtain ⟨raw, rfl, h3, h4⟩ := arg_ints hc
  obtain ⟨ch, rfl, h5, h6⟩ := arg_prs hd
  obtain ⟨bg, rfl, h7, h8⟩ := arg_n he
  obtain ⟨ns, rfl, h9, h10⟩ := arg_n hf
  obtain ⟨pc, rfl, h11⟩ := arg_int hg
  obtain ⟨kind, rfl, h12⟩ := arg_int hi
  match bg, h7 with
  | [b0, b1, b2, b3], _ =>
    exact tells3 any h2 (by omega) w hw raw h4 (by omega) ch h6 (by omega) b0 b1 b2 b3 (h8 _ (by simp)) (h8 _ (by simp)) (h8 _ (by simp)) ns h9 h10 pc kind h11 h12
end Go.Proofs.Ytnomicnfgdjdeaa.Ab
