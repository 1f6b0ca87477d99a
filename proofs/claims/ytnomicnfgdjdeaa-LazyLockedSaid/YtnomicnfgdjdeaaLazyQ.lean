/- What Alone comes to, the program's and the document's. No condition. -/
import Derived.Test.YtnomicnfgdjdeaaLazyTellsV
namespace Go.Proofs.Ytnomicnfgdjdeaa.Ab
open Go.RowKit
set_option linter.unusedSimpArgs false

theorem doS_i64 (m : List Int) (a : Acc) (h : ∀ n ∈ m, i64 n) : ∀ n ∈ (doS m a).1, i64 n := by
  unfold doS
  generalize (if a.op = 4 then m.getD a.at_.toNat 0 + a.new else a.new) = t
  repeat (split; · first | exact h | (rename_i hw; intro n hn; rcases List.mem_or_eq_of_mem_set hn with h1 | h1; exact h n h1; subst h1; unfold okW at hw; unfold i64; omega))
  exact h
theorem doS_v (m : List Int) (a : Acc) (h : ∀ n ∈ m, i64 n) : i64 (doS m a).2.1.v := by
  have z : i64 0 := by unfold i64; simp
  have g : i64 (m.getD a.at_.toNat 0) := by
    rw [List.getD_eq_getElem?_getD]
    rcases Nat.lt_or_ge a.at_.toNat m.length with hl | hl
    · rw [List.getElem?_eq_getElem hl]; exact h _ (List.getElem_mem _)
    · rw [List.getElem?_eq_none hl]; exact z
  unfold doS
  generalize (if a.op = 4 then m.getD a.at_.toNat 0 + a.new else a.new) = t
  repeat (split; · first | exact z | exact g)
  exact z
theorem stepS_i64 (m : List Int) (w : Wk) (h : ∀ n ∈ m, i64 n) : ∀ n ∈ (stepS m w).1, i64 n := by
  unfold stepS
  split
  · exact h
  · split
    · exact h
    · split
      · exact doS_i64 _ _ h
      · exact h
theorem stepS_ok (m : List Int) (w : Wk) (h : ∀ n ∈ m, i64 n) (hw : w.ok) : (stepS m w).2.1.ok := by
  unfold stepS
  split
  · exact hw
  · split
    · exact hw
    · split
      · exact nextS_ok hw (doS_v _ _ h)
      · exact hw
def aloneL (m0 : List Int) (w0 : Wk) : Nat → List Int → Wk → Int → List Int × Wk × Int × Int
  | 0, m, w, n => if w.done then (m, w, n, 0) else (m0, w0, 0, 2)
  | k + 1, m, w, n => if w.done then (m, w, n, 0) else if (stepS m w).2.2 = 0 then aloneL m0 w0 k (stepS m w).1 (stepS m w).2.1 (n + 1) else (m0, w0, 0, (stepS m w).2.2)
def aloneS (m : List Int) (w : Wk) : List Int × Wk × Int × Int := aloneL m w 50000 m w 0
def aloneV (r : List Int × Wk × Int × Int) : AVal := .tup [.list 1 (ints r.1), .agg r.2.1.c, .int .i64 r.2.2.1, .int .i64 r.2.2.2]
theorem alone22_loop (m0 : List Int) (w0 : Wk) (hm0 : m0.length * 8 ≤ 140737488355328) : ∀ (k i : Nat), i + k = 50000 → ∀ (m : List Int) (w x : Wk) (sl : List (Nat × AVal)) (mem : List (Nat × Blk)) (nx b c : Nat),
    m.length * 8 ≤ 140737488355328 → (∀ n ∈ m, i64 n) → w.ok → b ≠ c → lk sl 0 = .list 1 (ints m0) → lk sl 3 = .fptr w0.c → lk sl 5 = .ptr b 0 0 → mg mem b = some ⟨25, 14, [x.c]⟩ → lk sl 8 = .list 1 (ints m) → lk sl 9 = .ptr c 0 0 → mg mem c = some ⟨25, 14, [w.c]⟩ → lk sl 10 = .int .i64 i →
    ∀ R, R = aloneL m0 w0 k m w i → Ends (den Γ (.loop g22l0) ⟨sl, mem, nx, true⟩) fun e sl' mem' _ _ => e = .ret ∧ lk sl' 4 = .list 1 (ints R.1) ∧ lk sl' 6 = .int .i64 R.2.2.1 ∧ lk sl' 7 = .int .i64 R.2.2.2 ∧ ∃ b, lk sl' 5 = .ptr b 0 0 ∧ mg mem' b = some ⟨25, 14, [R.2.1.c]⟩ := by
  have hcl := clone41 m0 hm0
  intro k
  induction k with
  | zero =>
    intro i hi m w x sl mem nx b c hm hmi hw hbc h0 h3 h5 hb h8 h9 hc h10 R hR
    apply Ends_loop
    conv => lhs; lhs; rw [g22l0]
    have hi' : i = 50000 := by omega
    subst hi'
    unfold aloneL at hR
    cases hd : w.done with
    | true =>
      rw [if_pos hd] at hR
      subst hR
      have hc' := hc
      rw [Wk.cell, hd] at hc'
      simp (disch := omega) [h0, h3, h5, hb, h8, h9, hc', h10, hbc, ifF]
      rw [Wk.cell, hd]
    | false =>
      rw [if_neg (by simp [hd])] at hR
      subst hR
      have hc' := hc
      rw [Wk.cell, hd] at hc'
      simp (disch := omega) [h0, h3, h5, hb, h8, h9, hc', h10, hbc, ifF, hcl]
  | succ k ih =>
    intro i hi m w x sl mem nx b c hm hmi hw hbc h0 h3 h5 hb h8 h9 hc h10 R hR
    apply Ends_loop
    conv => lhs; lhs; rw [g22l0]
    have hi' : ¬ (i : Int) = 50000 := by omega
    unfold aloneL at hR
    cases hd : w.done with
    | true =>
      rw [if_pos hd] at hR
      subst hR
      have hc' := hc
      rw [Wk.cell, hd] at hc'
      simp (disch := omega) [h0, h3, h5, hb, h8, h9, hc', h10, hbc, ifF]
      rw [Wk.cell, hd]
    | false =>
      rw [if_neg (by simp [hd])] at hR
      have hc' := hc
      rw [Wk.cell, hd] at hc'
      have p := step19 (w := w) (m := m) hm hmi hw
      have s1 := stepS_len m w
      have s2 := stepS_i64 m w hmi
      have s3 := stepS_ok m w hmi hw
      rw [stepV_tup] at p
      generalize stepS m w = r at p s1 s2 s3 hR
      obtain ⟨m', w', e⟩ := r
      simp only at p s1 s2 s3 hR
      rw [Wk.cell, hd] at p
      by_cases he : e = 0
      · rw [if_pos he] at hR
        subst he
        simp (disch := omega) [h0, h3, h5, hb, h8, h9, hc', h10, hbc, ifF, hi', p]
        refine ih (i + 1) (by omega) m' w' x _ _ _ 0 1 (by omega) s2 s3 (by omega) ?_ ?_ ?_ ?_ ?_ ?_ ?_ ?_ R (by rw [hR]; simp)
        all_goals first | (simp; done) | skip
      · rw [if_neg he] at hR
        subst hR
        simp (disch := omega) [h0, h3, h5, hb, h8, h9, hc', h10, hbc, ifF, hi', p, he, hcl]
theorem alone22 (m : List Int) (w : Wk) (hm : m.length * 8 ≤ 140737488355328) (hmi : ∀ n ∈ m, i64 n) (hw : w.ok) : cd Γ 22 [.list 1 (ints m), .agg w.c] = some (aloneV (aloneS m w)) := by
  have hcl := clone41 m hm
  rw [call (fn := g22) rfl rfl]
  apply Ends.fin
  simp (disch := omega) [g22, g22b, hcl]
  refine Ends.ctx (fun z => unBlk 0 z) (alone22_loop m w hm 50000 0 rfl m w zeroW _ _ _ 0 1 hm hmi hw (by omega) ?_ ?_ ?_ ?_ ?_ ?_ ?_ ?_ (aloneS m w) rfl) ?_
  all_goals first | (simp; done) | (simp [zeroW, Wk.c]; done) | skip
  rintro e sl mem nx pr ⟨rfl, h4, h6, h7, b, h5, hb⟩
  simp [h4, h6, h7, h5, hb, aloneV]
theorem alone23_loop (m0 : List Int) (w0 : Wk) : ∀ (k i : Nat), i + k = 50000 → ∀ (m : List Int) (w x : Wk) (sl : List (Nat × AVal)) (mem : List (Nat × Blk)) (nx b c : Nat),
    m.length * 8 ≤ 140737488355328 → (∀ n ∈ m, i64 n) → w.ok → b ≠ c → lk sl 0 = .list 1 (ints m0) → lk sl 3 = .fptr w0.c → lk sl 5 = .ptr b 0 0 → mg mem b = some ⟨25, 14, [x.c]⟩ → lk sl 8 = .list 1 (ints m) → lk sl 9 = .ptr c 0 0 → mg mem c = some ⟨25, 14, [w.c]⟩ → lk sl 10 = .int .i64 i →
    ∀ R, R = aloneL m0 w0 k m w i → Ends (bindN (unBlk 0 (den Γ (.loop g23l0) ⟨sl, mem, nx, true⟩)) (den Γ (.seq (.ops (some [[], [], [0], [0, 1, 2], [0, 1, 2, 3], [0, 1, 2, 3, 4]]) [⟨some 41, none, .mov (.t 0)⟩, ⟨some 42, none, .ldf (.t 3) true 14⟩, ⟨some 4, none, .mov (.t 41)⟩, ⟨none, none, .st (.t 5) (.t 42) 14⟩, ⟨some 6, none, .mov (.c (.int .i64 0))⟩, ⟨some 7, none, .mov (.c (.int .i64 2))⟩]) .ret))) fun e sl' mem' _ _ => e = .ret ∧ lk sl' 4 = .list 1 (ints R.1) ∧ lk sl' 6 = .int .i64 R.2.2.1 ∧ lk sl' 7 = .int .i64 R.2.2.2 ∧ ∃ b, lk sl' 5 = .ptr b 0 0 ∧ mg mem' b = some ⟨25, 14, [R.2.1.c]⟩ := by
  intro k
  induction k with
  | zero =>
    intro i hi m w x sl mem nx b c hm hmi hw hbc h0 h3 h5 hb h8 h9 hc h10 R hR
    rw [den_loop]
    conv => lhs; lhs; rw [g23l0]
    have hi' : i = 50000 := by omega
    subst hi'
    unfold aloneL at hR
    cases hd : w.done with
    | true =>
      rw [if_pos hd] at hR
      subst hR
      have hc' := hc
      rw [Wk.cell, hd] at hc'
      simp (disch := omega) [h0, h3, h5, hb, h8, h9, hc', h10, hbc, ifF]
      rw [Wk.cell, hd]
    | false =>
      rw [if_neg (by simp [hd])] at hR
      subst hR
      have hc' := hc
      rw [Wk.cell, hd] at hc'
      simp (disch := omega) [h0, h3, h5, hb, h8, h9, hc', h10, hbc, ifF]
  | succ k ih =>
    intro i hi m w x sl mem nx b c hm hmi hw hbc h0 h3 h5 hb h8 h9 hc h10 R hR
    rw [den_loop]
    conv => lhs; lhs; rw [g23l0]
    have hi' : ¬ (i : Int) = 50000 := by omega
    have hi2 : (i : Int) ≤ 50000 := by omega
    unfold aloneL at hR
    cases hd : w.done with
    | true =>
      rw [if_pos hd] at hR
      subst hR
      have hc' := hc
      rw [Wk.cell, hd] at hc'
      simp (disch := omega) [h0, h3, h5, hb, h8, h9, hc', h10, hbc, ifF, hi2, decT]
      rw [Wk.cell, hd]
    | false =>
      rw [if_neg (by simp [hd])] at hR
      have hc' := hc
      rw [Wk.cell, hd] at hc'
      have p := step20 m w hm hmi hw
      have s1 := stepS_len m w
      have s2 := stepS_i64 m w hmi
      have s3 := stepS_ok m w hmi hw
      rw [stepV_tup] at p
      generalize stepS m w = r at p s1 s2 s3 hR
      obtain ⟨m', w', e⟩ := r
      simp only at p s1 s2 s3 hR
      rw [Wk.cell, hd] at p
      by_cases he : e = 0
      · rw [if_pos he] at hR
        subst he
        simp (disch := omega) [h0, h3, h5, hb, h8, h9, hc', h10, hbc, ifF, hi', hi2, decT, p]
        refine ih (i + 1) (by omega) m' w' x _ _ _ 0 1 (by omega) s2 s3 (by omega) ?_ ?_ ?_ ?_ ?_ ?_ ?_ ?_ R (by rw [hR]; simp)
        all_goals first | (simp; done) | skip
      · rw [if_neg he] at hR
        subst hR
        simp (disch := omega) [h0, h3, h5, hb, h8, h9, hc', h10, hbc, ifF, hi', hi2, decT, p, he]
theorem alone23 (m : List Int) (w : Wk) (hm : m.length * 8 ≤ 140737488355328) (hmi : ∀ n ∈ m, i64 n) (hw : w.ok) : cd Γ 23 [.list 1 (ints m), .agg w.c] = some (aloneV (aloneS m w)) := by
  rw [call (fn := g23) rfl rfl]
  apply Ends.fin
  simp (disch := omega) [g23, g23b]
  refine (alone23_loop m w 50000 0 rfl m w zeroW _ _ _ 0 1 hm hmi hw (by omega) ?_ ?_ ?_ ?_ ?_ ?_ ?_ ?_ (aloneS m w) rfl).mono ?_
  all_goals first | (simp; done) | (simp [zeroW, Wk.c]; done) | skip
  rintro e sl mem nx pr ⟨rfl, h4, h6, h7, b, h5, hb⟩
  simp [h4, h6, h7, h5, hb, aloneV]
end Go.Proofs.Ytnomicnfgdjdeaa.Ab
