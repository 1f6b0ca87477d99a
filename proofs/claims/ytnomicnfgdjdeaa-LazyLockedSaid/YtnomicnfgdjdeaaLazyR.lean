/- What the document's step comes to. No condition. -/
import Derived.Test.YtnomicnfgdjdeaaLazyS
import Derived.Test.YtnomicnfgdjdeaaLazyW
namespace Go.Proofs.Ytnomicnfgdjdeaa.Ab
open Go.RowKit
set_option linter.unusedSimpArgs false

theorem place66 (m : List Int) (node word : Int) (hm : m.length * 8 ≤ 140737488355328) (hw : 0 ≤ word ∧ word ≤ 3) : cd Γ 66 [.list 1 (ints m), .int .i64 node, .int .i64 word] = some (.int .i64 (placeS m node word)) := by
  rw [call (fn := g66) rfl rfl]
  unfold placeS
  have e : Int.tdiv (m.length : Int) 4 = (m.length : Int) / 4 := Int.tdiv_eq_ediv_of_nonneg (by omega)
  by_cases h1 : node < 0
  · simp (disch := omega) [decT, decF, ifT, ifF, g66, g66b, h1, e]
  · by_cases h2 : (m.length : Int) / 4 ≤ node
    · simp (disch := omega) [decT, decF, ifT, ifF, g66, g66b, h1, h2, e]
    · simp (disch := omega) [decT, decF, ifT, ifF, g66, g66b, h1, h2, e]
def passA (m : List Int) (w : Wk) : Acc :=
  if w.pc = 0 then ⟨1, placeS m 0 1, 0, 0⟩ else if w.pc = 1 then ⟨1, placeS m w.r2 0, 0, 0⟩ else if w.pc = 2 then ⟨1, placeS m w.r2 1, 0, 0⟩ else ⟨0, 0, 0, 0⟩
theorem passes65 (m : List Int) (w : Wk) (hm : m.length * 8 ≤ 140737488355328) : cd Γ 65 [.list 1 (ints m), .agg w.c] = some (.agg (passA m w).c) := by
  obtain ⟨kind, pc, r0, r1, r2, r3, r4, r5, r6, r7, r8, r9, done, out⟩ := w
  rw [call (fn := g65) rfl rfl]
  have p := fun node word h => place66 m node word hm h
  unfold passA
  by_cases h0 : pc = 0
  · subst h0; simp [g65, g65b, Wk.c, Acc.c, p]
  by_cases h1 : pc = 1
  · subst h1; simp [g65, g65b, Wk.c, Acc.c, p]
  by_cases h2 : pc = 2
  · subst h2; simp [g65, g65b, Wk.c, Acc.c, p]
  simp [g65, g65b, Wk.c, Acc.c, h0, h1, h2]
theorem to68 (w : Wk) (pc r7 : Int) : cd Γ 68 [.agg w.c, .int .i64 pc, .int .i64 r7] = some (.agg (toS w pc r7).c) := by
  obtain ⟨kind, pc', r0, r1, r2, r3, r4, r5, r6, r7', r8, r9, done, out⟩ := w
  rw [call (fn := g68) rfl rfl]
  simp [g68, g68b, Wk.c, toS]
set_option maxHeartbeats 4000000 in
theorem access42 (m : List Int) (w : Wk) (hm : m.length * 8 ≤ 140737488355328) (hk : 1 ≤ w.kind ∧ w.kind ≤ 3) :
    ∃ x : Acc, cd Γ 42 [.list 1 (ints m), .agg w.c] = some (.tup [.agg x.c, .bool (accS w).isSome]) ∧ ∀ a, accS w = some a → x = ⟨a.op, placeS m a.node a.word, 0, a.to⟩ := by
  have hpass := passes65 m w hm
  obtain ⟨kind, pc, r0, r1, r2, r3, r4, r5, r6, r7, r8, r9, done, out⟩ := w
  rw [call (fn := g42) rfl rfl]
  have p := fun node word h => place66 m node word hm h
  simp only at hk
  unfold passA at hpass
  simp only at hpass
  by_cases h0 : pc = 0
  · subst h0
    exact ⟨⟨1, placeS m 0 1, 0, 0⟩, by simp [g42, g42b, Wk.c, Acc.c] at hpass ⊢; simp [hpass, accS], by simp [accS]⟩
  by_cases h1 : pc = 1
  · subst h1
    exact ⟨⟨1, placeS m r2 0, 0, 0⟩, by simp [g42, g42b, Wk.c, Acc.c] at hpass ⊢; simp [hpass, accS], by simp [accS]⟩
  by_cases h2 : pc = 2
  · subst h2
    exact ⟨⟨1, placeS m r2 1, 0, 0⟩, by simp [g42, g42b, Wk.c, Acc.c] at hpass ⊢; simp [hpass, accS], by simp [accS]⟩
  simp only [h0, h1, h2, if_false, Wk.c, Acc.c] at hpass
  by_cases h3 : kind = 3
  · subst h3
    exact ⟨⟨1, placeS m r2 3, 0, 0⟩, by
      by_cases h : pc = 3
      · subst h; simp [g42, g42b, Wk.c, Acc.c, hpass, p, accS]
      · simp [g42, g42b, Wk.c, Acc.c, hpass, p, accS, h0, h1, h2, h], by simp [accS, h0, h1, h2]⟩
  by_cases h10 : pc = 10
  · subst h10
    exact ⟨⟨3, placeS m r1 2, 0, r4⟩, by simp [g42, g42b, Wk.c, Acc.c, hpass, p, accS, h3], by simp [accS, h3]⟩
  by_cases h11 : pc = 11
  · subst h11
    exact ⟨⟨3, placeS m r2 2, 0, r4⟩, by simp [g42, g42b, Wk.c, Acc.c, hpass, p, accS, h3], by simp [accS, h3]⟩
  by_cases h12 : pc = 12
  · subst h12
    exact ⟨⟨1, placeS m r1 3, 0, 0⟩, by simp [g42, g42b, Wk.c, Acc.c, hpass, p, accS, h3], by simp [accS, h3]⟩
  by_cases h13 : pc = 13
  · subst h13
    exact ⟨⟨1, placeS m r2 3, 0, 0⟩, by simp [g42, g42b, Wk.c, Acc.c, hpass, p, accS, h3], by simp [accS, h3]⟩
  by_cases h14 : pc = 14
  · subst h14
    exact ⟨⟨1, placeS m r1 1, 0, 0⟩, by simp [g42, g42b, Wk.c, Acc.c, hpass, p, accS, h3], by simp [accS, h3]⟩
  by_cases h15 : pc = 15
  · subst h15
    have hk2 : kind = 1 ∨ kind = 2 := by omega
    rcases hk2 with rfl | rfl
    · exact ⟨⟨2, placeS m r3 0, 0, r0⟩, by simp [g42, g42b, Wk.c, Acc.c, hpass, p, accS], by simp [accS]⟩
    · exact ⟨⟨2, placeS m r3 0, 0, r0⟩, by simp [g42, g42b, Wk.c, Acc.c, hpass, p, accS], by simp [accS]⟩
  by_cases h16 : pc = 16
  · subst h16
    have hk2 : kind = 1 ∨ kind = 2 := by omega
    rcases hk2 with rfl | rfl
    · exact ⟨⟨2, placeS m r3 1, 0, r2⟩, by simp [g42, g42b, Wk.c, Acc.c, hpass, p, accS], by simp [accS]⟩
    · exact ⟨⟨2, placeS m r3 1, 0, r2⟩, by simp [g42, g42b, Wk.c, Acc.c, hpass, p, accS], by simp [accS]⟩
  by_cases h17 : pc = 17
  · subst h17
    have hk2 : kind = 1 ∨ kind = 2 := by omega
    rcases hk2 with rfl | rfl
    · exact ⟨⟨2, placeS m r2 3, 0, 1⟩, by simp [g42, g42b, Wk.c, Acc.c, hpass, p, accS], by simp [accS]⟩
    · exact ⟨⟨2, placeS m r2 3, 0, 1⟩, by simp [g42, g42b, Wk.c, Acc.c, hpass, p, accS], by simp [accS]⟩
  by_cases h18 : pc = 18
  · subst h18
    have hk2 : kind = 1 ∨ kind = 2 := by omega
    rcases hk2 with rfl | rfl
    · exact ⟨⟨2, placeS m r1 1, 0, r3⟩, by simp [g42, g42b, Wk.c, Acc.c, hpass, p, accS], by simp [accS]⟩
    · exact ⟨⟨2, placeS m r1 1, 0, r3⟩, by simp [g42, g42b, Wk.c, Acc.c, hpass, p, accS], by simp [accS]⟩
  by_cases h19 : pc = 19
  · subst h19
    have hk2 : kind = 1 ∨ kind = 2 := by omega
    rcases hk2 with rfl | rfl
    · exact ⟨⟨1, placeS m r2 1, 0, 0⟩, by simp [g42, g42b, Wk.c, Acc.c, hpass, p, accS], by simp [accS]⟩
    · exact ⟨⟨1, placeS m r2 1, 0, 0⟩, by simp [g42, g42b, Wk.c, Acc.c, hpass, p, accS], by simp [accS]⟩
  by_cases h20 : pc = 20
  · subst h20
    exact ⟨⟨2, placeS m r2 2, 0, 0⟩, by simp [g42, g42b, Wk.c, Acc.c, hpass, p, accS, h3], by simp [accS, h3]⟩
  by_cases h21 : pc = 21
  · subst h21
    exact ⟨⟨2, placeS m r1 2, 0, 0⟩, by simp [g42, g42b, Wk.c, Acc.c, hpass, p, accS, h3], by simp [accS, h3]⟩
  by_cases h22 : pc = 22
  · subst h22
    have hk2 : kind = 1 ∨ kind = 2 := by omega
    rcases hk2 with rfl | rfl
    · exact ⟨⟨2, placeS m r1 1, 0, r6⟩, by simp [g42, g42b, Wk.c, Acc.c, hpass, p, accS], by simp [accS]⟩
    · exact ⟨⟨2, placeS m r1 1, 0, r6⟩, by simp [g42, g42b, Wk.c, Acc.c, hpass, p, accS], by simp [accS]⟩
  exact ⟨⟨0, 0, 0, 0⟩, by simp [g42, g42b, Wk.c, Acc.c, hpass, p, accS, h0, h1, h2, h3, h10, h11, h12, h13, h14, h15, h16, h17, h18, h19, h20, h21, h22], by simp [accS, h0, h1, h2, h3, h10, h11, h12, h13, h14, h15, h16, h17, h18, h19, h20, h21, h22]⟩
set_option maxHeartbeats 4000000 in
theorem goes44 (w : Wk) (f : Fnd) (hpc : w.pc ≤ 3) (h3 : w.pc = 0 ∨ w.pc = 1 ∨ w.pc = 2 ∨ w.pc = 3) : cd Γ 44 [.agg w.c, .int .i64 f.v] = some (.agg (nextS w f).c) := by
  obtain ⟨kind, pc, r0, r1, r2, r3, r4, r5, r6, r7, r8, r9, done, out⟩ := w
  obtain ⟨x, d⟩ := f
  rw [call (fn := g44) rfl rfl]
  simp only at h3
  rcases h3 with rfl | rfl | rfl | rfl
  · simp [g44, g44b, Wk.c, nextS]
  · by_cases h : x < r0
    · simp [g44, g44b, Wk.c, nextS, h]
    · by_cases hk : kind = 3 <;> simp [g44, g44b, Wk.c, nextS, h, hk]
  · simp [g44, g44b, Wk.c, nextS]
  · by_cases h : r5 = r0
    · by_cases hx : x = 0 <;> simp [g44, g44b, Wk.c, nextS, h, hx]
    · simp [g44, g44b, Wk.c, nextS, h]
set_option maxHeartbeats 4000000 in
theorem checks45 (w : Wk) (f : Fnd) (h3 : w.pc = 10 ∨ w.pc = 11 ∨ w.pc = 12 ∨ w.pc = 13 ∨ w.pc = 14) : cd Γ 45 [.agg w.c, .agg f.c] = some (.agg (nextS w f).c) := by
  have t := fun pc r7 => to68 w pc r7
  obtain ⟨kind, pc, r0, r1, r2, r3, r4, r5, r6, r7, r8, r9, done, out⟩ := w
  obtain ⟨x, d⟩ := f
  rw [call (fn := g45) rfl rfl]
  simp only [Wk.c, toS] at t
  simp only at h3
  rcases h3 with rfl | rfl | rfl | rfl | rfl
  · cases d <;> simp [g45, g45b, Wk.c, Fnd.c, nextS, toS, t]
  · cases d <;> simp [g45, g45b, Wk.c, Fnd.c, nextS, toS, t]
  · by_cases h : x = 0 <;> simp [g45, g45b, Wk.c, Fnd.c, nextS, toS, t, h]
  · by_cases h : x = 0 <;> simp [g45, g45b, Wk.c, Fnd.c, nextS, toS, t, h]
  · by_cases h : x = r2
    · subst h
      by_cases h5 : r5 = r0
      · subst h5
        by_cases hk : kind = 1
        · subst hk; simp [g45, g45b, Wk.c, Fnd.c, nextS, toS, t]
        · simp [g45, g45b, Wk.c, Fnd.c, nextS, toS, t, hk]
      · by_cases hk : kind = 1
        · subst hk; simp [g45, g45b, Wk.c, Fnd.c, nextS, toS, t, h5]
        · simp [g45, g45b, Wk.c, Fnd.c, nextS, toS, t, h5, hk]
    · simp [g45, g45b, Wk.c, Fnd.c, nextS, toS, t, h]
set_option maxHeartbeats 4000000 in
theorem writes46 (w : Wk) (f : Fnd) (h3 : w.pc = 15 ∨ w.pc = 16 ∨ w.pc = 17 ∨ w.pc = 18 ∨ w.pc = 19 ∨ w.pc = 20 ∨ w.pc = 21 ∨ w.pc = 22) : cd Γ 46 [.agg w.c, .int .i64 f.v] = some (.agg (nextS w f).c) := by
  have t := fun pc r7 => to68 w pc r7
  have t2 := fun pc r7 => to68 { w with r6 := f.v } pc r7
  obtain ⟨kind, pc, r0, r1, r2, r3, r4, r5, r6, r7, r8, r9, done, out⟩ := w
  obtain ⟨x, d⟩ := f
  rw [call (fn := g46) rfl rfl]
  simp only [Wk.c, toS] at t t2
  simp only at h3
  rcases h3 with rfl | rfl | rfl | rfl | rfl | rfl | rfl | rfl
  all_goals first
    | (simp [g46, g46b, Wk.c, nextS, toS, t, t2]; done)
    | (by_cases h : r7 = -1
       · subst h; simp [g46, g46b, Wk.c, nextS, toS, t]
       · simp [g46, g46b, Wk.c, nextS, toS, t, h])
def stepV (r : List Int × Wk × Int) : AVal := .tup [.list 1 (ints r.1), .agg r.2.1.c, .int .i64 r.2.2]
theorem accS_pc {w : Wk} {a : Tch} (h : accS w = some a) : (w.pc = 0 ∨ w.pc = 1 ∨ w.pc = 2 ∨ w.pc = 3) ∨ (w.pc = 10 ∨ w.pc = 11 ∨ w.pc = 12 ∨ w.pc = 13 ∨ w.pc = 14) ∨ (w.pc = 15 ∨ w.pc = 16 ∨ w.pc = 17 ∨ w.pc = 18 ∨ w.pc = 19 ∨ w.pc = 20 ∨ w.pc = 21 ∨ w.pc = 22) := by
  unfold accS at h
  by_cases h0 : w.pc = 0
  · omega
  by_cases h1 : w.pc = 1
  · omega
  by_cases h2 : w.pc = 2
  · omega
  rw [if_neg h0, if_neg h1, if_neg h2] at h
  by_cases k3 : w.kind = 3
  · rw [if_pos k3] at h
    by_cases c3 : w.pc = 3
    · omega
    · rw [if_neg c3] at h; cases h
  rw [if_neg k3] at h
  by_cases d0 : w.pc = 10
  · omega
  rw [if_neg d0] at h
  by_cases d1 : w.pc = 11
  · omega
  rw [if_neg d1] at h
  by_cases d2 : w.pc = 12
  · omega
  rw [if_neg d2] at h
  by_cases d3 : w.pc = 13
  · omega
  rw [if_neg d3] at h
  by_cases d4 : w.pc = 14
  · omega
  rw [if_neg d4] at h
  by_cases d5 : w.pc = 15 ∧ w.kind = 1
  · omega
  rw [if_neg d5] at h
  by_cases d6 : w.pc = 16 ∧ w.kind = 1
  · omega
  rw [if_neg d6] at h
  by_cases d7 : w.pc = 17 ∧ w.kind = 2
  · omega
  rw [if_neg d7] at h
  by_cases d8 : w.pc = 18 ∧ w.kind = 1
  · omega
  rw [if_neg d8] at h
  by_cases d9 : w.pc = 19 ∧ w.kind = 2
  · omega
  rw [if_neg d9] at h
  by_cases d10 : w.pc = 20
  · omega
  rw [if_neg d10] at h
  by_cases d11 : w.pc = 21
  · omega
  rw [if_neg d11] at h
  by_cases d12 : w.pc = 22 ∧ w.kind = 2
  · omega
  rw [if_neg d12] at h
  cases h
theorem placeS_i64 (m : List Int) (hm : m.length * 8 ≤ 140737488355328) (node word : Int) (hw : 0 ≤ word ∧ word ≤ 3) : i64 (placeS m node word) := by
  unfold placeS i64
  split <;> omega
theorem accS_ok {w : Wk} {a : Tch} (hw : w.ok) (h : accS w = some a) : i64 a.op ∧ (0 ≤ a.word ∧ a.word ≤ 3) ∧ i64 a.to := by
  obtain ⟨h1, h2, h3, h4, h5, h6, h7, h8, h9, h10, h11, h12, h13⟩ := hw
  unfold accS at h
  have z : ∀ n : Int, -100 ≤ n ∧ n ≤ 100 → i64 n := fun n hn => by unfold i64; omega
  have fin : ∀ {x : Tch}, some x = some a → i64 x.op ∧ (0 ≤ x.word ∧ x.word ≤ 3) ∧ i64 x.to → i64 a.op ∧ (0 ≤ a.word ∧ a.word ≤ 3) ∧ i64 a.to := by
    intro x hx hh
    simp only [Option.some.injEq] at hx
    subst hx
    exact hh
  by_cases c0 : w.pc = 0
  · rw [if_pos c0] at h; exact fin h ⟨z _ (by simp), by simp, z _ (by simp)⟩
  by_cases c1 : w.pc = 1
  · rw [if_neg c0, if_pos c1] at h; exact fin h ⟨z _ (by simp), by simp, z _ (by simp)⟩
  by_cases c2 : w.pc = 2
  · rw [if_neg c0, if_neg c1, if_pos c2] at h; exact fin h ⟨z _ (by simp), by simp, z _ (by simp)⟩
  rw [if_neg c0, if_neg c1, if_neg c2] at h
  by_cases k3 : w.kind = 3
  · rw [if_pos k3] at h
    by_cases c3 : w.pc = 3
    · rw [if_pos c3] at h; exact fin h ⟨z _ (by simp), by simp, by first | assumption | exact z _ (by simp)⟩
    · rw [if_neg c3] at h; cases h
  rw [if_neg k3] at h
  by_cases d0 : w.pc = 10
  · rw [if_pos d0] at h; exact fin h ⟨z _ (by simp), by simp, by first | assumption | exact z _ (by simp)⟩
  rw [if_neg d0] at h
  by_cases d1 : w.pc = 11
  · rw [if_pos d1] at h; exact fin h ⟨z _ (by simp), by simp, by first | assumption | exact z _ (by simp)⟩
  rw [if_neg d1] at h
  by_cases d2 : w.pc = 12
  · rw [if_pos d2] at h; exact fin h ⟨z _ (by simp), by simp, by first | assumption | exact z _ (by simp)⟩
  rw [if_neg d2] at h
  by_cases d3 : w.pc = 13
  · rw [if_pos d3] at h; exact fin h ⟨z _ (by simp), by simp, by first | assumption | exact z _ (by simp)⟩
  rw [if_neg d3] at h
  by_cases d4 : w.pc = 14
  · rw [if_pos d4] at h; exact fin h ⟨z _ (by simp), by simp, by first | assumption | exact z _ (by simp)⟩
  rw [if_neg d4] at h
  by_cases d5 : w.pc = 15 ∧ w.kind = 1
  · rw [if_pos d5] at h; exact fin h ⟨z _ (by simp), by simp, by first | assumption | exact z _ (by simp)⟩
  rw [if_neg d5] at h
  by_cases d6 : w.pc = 16 ∧ w.kind = 1
  · rw [if_pos d6] at h; exact fin h ⟨z _ (by simp), by simp, by first | assumption | exact z _ (by simp)⟩
  rw [if_neg d6] at h
  by_cases d7 : w.pc = 17 ∧ w.kind = 2
  · rw [if_pos d7] at h; exact fin h ⟨z _ (by simp), by simp, by first | assumption | exact z _ (by simp)⟩
  rw [if_neg d7] at h
  by_cases d8 : w.pc = 18 ∧ w.kind = 1
  · rw [if_pos d8] at h; exact fin h ⟨z _ (by simp), by simp, by first | assumption | exact z _ (by simp)⟩
  rw [if_neg d8] at h
  by_cases d9 : w.pc = 19 ∧ w.kind = 2
  · rw [if_pos d9] at h; exact fin h ⟨z _ (by simp), by simp, by first | assumption | exact z _ (by simp)⟩
  rw [if_neg d9] at h
  by_cases d10 : w.pc = 20
  · rw [if_pos d10] at h; exact fin h ⟨z _ (by simp), by simp, by first | assumption | exact z _ (by simp)⟩
  rw [if_neg d10] at h
  by_cases d11 : w.pc = 21
  · rw [if_pos d11] at h; exact fin h ⟨z _ (by simp), by simp, by first | assumption | exact z _ (by simp)⟩
  rw [if_neg d11] at h
  by_cases d12 : w.pc = 22 ∧ w.kind = 2
  · rw [if_pos d12] at h; exact fin h ⟨z _ (by simp), by simp, by first | assumption | exact z _ (by simp)⟩
  rw [if_neg d12] at h
  cases h
set_option maxHeartbeats 4000000 in
theorem step20 (m : List Int) (w : Wk) (hm : m.length * 8 ≤ 140737488355328) (hmi : ∀ n ∈ m, i64 n) (hw : w.ok) : cd Γ 20 [.list 1 (ints m), .agg w.c] = some (stepV (stepS m w)) := by
  rw [call (fn := g20) rfl rfl]
  unfold stepS stepV
  by_cases hd : w.done = true
  · obtain ⟨kind, pc, r0, r1, r2, r3, r4, r5, r6, r7, r8, r9, done, out⟩ := w
    simp only at hd
    subst hd
    simp [g20, g20b, Wk.c]
  by_cases hk1 : w.kind < 1
  · obtain ⟨kind, pc, r0, r1, r2, r3, r4, r5, r6, r7, r8, r9, done, out⟩ := w
    simp only at hd hk1
    simp only [Bool.not_eq_true] at hd
    subst hd
    simp [g20, g20b, Wk.c, hk1]
  by_cases hk2 : 3 < w.kind
  · obtain ⟨kind, pc, r0, r1, r2, r3, r4, r5, r6, r7, r8, r9, done, out⟩ := w
    simp only at hd hk1 hk2
    simp only [Bool.not_eq_true] at hd
    subst hd
    simp [g20, g20b, Wk.c, hk1, hk2]
  rw [if_neg (by simp [hd, hk1, hk2])]
  obtain ⟨x, e1, e2⟩ := access42 m w hm (by omega)
  have hcell : w.c = [.int .i64 w.kind, .int .i64 w.pc, .int .i64 w.r0, .int .i64 w.r1, .int .i64 w.r2, .int .i64 w.r3, .int .i64 w.r4, .int .i64 w.r5, .int .i64 w.r6, .int .i64 w.r7, .int .i64 w.r8, .int .i64 w.r9, .bool w.done, .int .i64 w.out] := rfl
  simp only [Bool.not_eq_true] at hd
  cases ha : accS w with
  | none =>
    rw [ha] at e1
    rw [hcell] at e1
    simp [g20, g20b, Wk.c, hd, hk1, hk2] at e1 ⊢
    simp [e1, Acc.c]
  | some a =>
    rw [ha] at e1
    have hx := e2 a ha
    obtain ⟨o1, o2, o3⟩ := accS_ok hw ha
    have hdo := do43 m x hm hmi (by rw [hx]; exact ⟨o1, placeS_i64 m hm _ _ o2, by unfold i64; simp, o3⟩)
    unfold touchS
    unfold own3 at hdo
    simp only
    rw [← hx]
    have hxc : x.c = [.int .i64 x.op, .int .i64 x.at_, .int .i64 x.old, .int .i64 x.new] := rfl
    generalize hr : doS m x = r at hdo ⊢
    obtain ⟨m', f, e⟩ := r
    obtain ⟨v, d⟩ := f
    simp only at hdo ⊢
    rw [hcell, hxc] at e1
    rw [hxc] at hdo
    by_cases he : e = 0
    · rcases accS_pc ha with hp | hp | hp
      · have hg := goes44 w ⟨v, d⟩ (by omega) hp
        rw [hcell] at hg
        have : w.pc ≤ 3 := by omega
        simp [g20, g20b, Wk.c, hd, hk1, hk2, Fnd.c, he, this] at e1 hdo hg ⊢
        simp [e1, hdo, hg, this]
      · have hg := checks45 w ⟨v, d⟩ hp
        rw [hcell] at hg
        have h1 : ¬ w.pc ≤ 3 := by omega
        have h2 : w.pc ≤ 14 := by omega
        simp [g20, g20b, Wk.c, hd, hk1, hk2, Fnd.c, he, h1, h2] at e1 hdo hg ⊢
        simp [e1, hdo, hg, h1, h2]
      · have hg := writes46 w ⟨v, d⟩ hp
        rw [hcell] at hg
        have h1 : ¬ w.pc ≤ 3 := by omega
        have h2 : ¬ w.pc ≤ 14 := by omega
        simp [g20, g20b, Wk.c, hd, hk1, hk2, Fnd.c, he, h1, h2] at e1 hdo hg ⊢
        simp [e1, hdo, hg, h1, h2]
    · simp [g20, g20b, Wk.c, hd, hk1, hk2, Fnd.c, he] at e1 hdo ⊢
      simp [e1, hdo, he]
end Go.Proofs.Ytnomicnfgdjdeaa.Ab
