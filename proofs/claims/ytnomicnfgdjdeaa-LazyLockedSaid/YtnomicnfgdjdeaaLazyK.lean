/- What the program's step comes to. No condition. -/
import Derived.Test.YtnomicnfgdjdeaaLazyJ
namespace Go.Proofs.Ytnomicnfgdjdeaa.Ab
open Go.RowKit
set_option linter.unusedSimpArgs false
section
variable {w : Wk} {m : List Int} {e : Int}
theorem accS_none {w : Wk} (h : accS w = none) : (¬ w.pc = 0 ∧ ¬ w.pc = 1 ∧ ¬ w.pc = 2) ∧ (w.kind = 3 → ¬ w.pc = 3) ∧ (¬ w.kind = 3 → ¬ w.pc = 10 ∧ ¬ w.pc = 11 ∧ ¬ w.pc = 12 ∧ ¬ w.pc = 13 ∧ ¬ w.pc = 14 ∧ ¬ w.pc = 20 ∧ ¬ w.pc = 21 ∧ (w.kind = 1 → ¬ w.pc = 15 ∧ ¬ w.pc = 16 ∧ ¬ w.pc = 18) ∧ (w.kind = 2 → ¬ w.pc = 17 ∧ ¬ w.pc = 19 ∧ ¬ w.pc = 22)) := by
  obtain ⟨kind, pc, r0, r1, r2, r3, r4, r5, r6, r7, r8, r9, done, out⟩ := w
  simp only
  have t : ∀ p : Int, pc = p → accS ⟨kind, p, r0, r1, r2, r3, r4, r5, r6, r7, r8, r9, done, out⟩ = none := fun p hp => by rw [← hp]; exact h
  have no : ∀ p : Int, (accS ⟨kind, p, r0, r1, r2, r3, r4, r5, r6, r7, r8, r9, done, out⟩).isSome = true → ¬ pc = p := fun p hs hp => by rw [t p hp] at hs; cases hs
  refine ⟨⟨no _ (by simp [accS]), no _ (by simp [accS]), no _ (by simp [accS])⟩, fun hk => no _ (by simp [accS, hk]), fun hk => ⟨no _ (by simp [accS, hk]), no _ (by simp [accS, hk]), no _ (by simp [accS, hk]), no _ (by simp [accS, hk]), no _ (by simp [accS, hk]), no _ (by simp [accS, hk]), no _ (by simp [accS, hk]), fun h1 => ⟨no _ (by simp [accS, h1]), no _ (by simp [accS, h1]), no _ (by simp [accS, h1])⟩, fun h1 => ⟨no _ (by simp [accS, h1]), no _ (by simp [accS, h1]), no _ (by simp [accS, h1])⟩⟩⟩
theorem accS_kind {w : Wk} {a : Tch} (h : accS w = some a) : (w.pc = 0 ∨ w.pc = 1 ∨ w.pc = 2) ∨ (w.kind = 3 ∧ w.pc = 3 ∧ a = ⟨1, w.r2, 3, 0⟩) ∨ (¬ w.kind = 3 ∧ ((w.pc = 10 ∨ w.pc = 11 ∨ w.pc = 12 ∨ w.pc = 13 ∨ w.pc = 14 ∨ w.pc = 20 ∨ w.pc = 21) ∨ (w.kind = 1 ∧ (w.pc = 15 ∨ w.pc = 16 ∨ w.pc = 18)) ∨ (w.kind = 2 ∧ (w.pc = 17 ∨ w.pc = 19 ∨ w.pc = 22)))) := by
  unfold accS at h
  by_cases c0 : w.pc = 0
  · omega
  by_cases c1 : w.pc = 1
  · omega
  by_cases c2 : w.pc = 2
  · omega
  rw [if_neg c0, if_neg c1, if_neg c2] at h
  by_cases k3 : w.kind = 3
  · rw [if_pos k3] at h
    by_cases c3 : w.pc = 3
    · rw [if_pos c3] at h
      simp only [Option.some.injEq] at h
      exact .inr (.inl ⟨k3, c3, h.symm⟩)
    · rw [if_neg c3] at h; cases h
  refine .inr (.inr ⟨k3, ?_⟩)
  have := accS_pc (w := w) (a := a) (by unfold accS; rw [if_neg c0, if_neg c1, if_neg c2]; exact h)
  rw [if_neg k3] at h
  by_cases d5 : w.pc = 15
  · by_cases d : w.kind = 1
    · omega
    · exfalso; simp [d5, d] at h
  by_cases d6 : w.pc = 16
  · by_cases d : w.kind = 1
    · omega
    · exfalso; simp [d6, d] at h
  by_cases d7 : w.pc = 17
  · by_cases d : w.kind = 2
    · omega
    · exfalso; simp [d7, d] at h
  by_cases d8 : w.pc = 18
  · by_cases d : w.kind = 1
    · omega
    · exfalso; simp [d8, d] at h
  by_cases d9 : w.pc = 19
  · by_cases d : w.kind = 2
    · omega
    · exfalso; simp [d9, d] at h
  by_cases d10 : w.pc = 22
  · by_cases d : w.kind = 2
    · omega
    · exfalso; simp [d10, d] at h
  by_cases d11 : w.pc = 3
  · exfalso; simp [d11, k3] at h
  omega
theorem step_no40 (hk : 1 ≤ w.kind ∧ w.kind ≤ 3) (ha : accS w = none) : HC 40 (hc w m e) [] (.bool false) (hc w m e) := by
  refine HC_of (fn := g40) rfl rfl (fun mem nx b hb hmg => ?_)
  obtain ⟨⟨h0, h1, h2⟩, h3, h4⟩ := accS_none ha
  obtain ⟨M, N, q1, q2, q3, q4⟩ := walk_no60 h0 h1 h2 mem nx b hb hmg
  unfold Keeps
  have q5 := q3
  simp only [hc] at q5
  have hkk : w.kind = 1 ∨ w.kind = 2 ∨ w.kind = 3 := by omega
  rcases hkk with hk | hk | hk
  · obtain ⟨k1, k2, k3, k4, k5, k6, k7, k8, _⟩ := h4 (by omega)
    obtain ⟨M2, N2, p1, p2, p3, p4⟩ := locks_no62 ⟨k1, k2, k3, k4, k5, k6, k7⟩ M N b (by omega) q3
    obtain ⟨M3, N3, r1, r2, r3, r4⟩ := insert_no63 (k8 hk) M2 N2 b (by omega) p3
    have p5 := p3
    simp only [hc] at p5
    simp (disch := omega) [g40, g40b, q1, p1, r1, q5, p5, hk]
    refine ⟨by omega, r3, fun c h8 h9 => ?_⟩
    rw [r4 c (by omega) h9, p4 c (by omega) h9, q4 c h8 h9]
  · obtain ⟨k1, k2, k3, k4, k5, k6, k7, _, k8⟩ := h4 (by omega)
    obtain ⟨M2, N2, p1, p2, p3, p4⟩ := locks_no62 ⟨k1, k2, k3, k4, k5, k6, k7⟩ M N b (by omega) q3
    obtain ⟨M3, N3, r1, r2, r3, r4⟩ := remove_no64 (k8 hk) M2 N2 b (by omega) p3
    have p5 := p3
    simp only [hc] at p5
    simp (disch := omega) [g40, g40b, q1, p1, r1, q5, p5, hk]
    refine ⟨by omega, r3, fun c h8 h9 => ?_⟩
    rw [r4 c (by omega) h9, p4 c (by omega) h9, q4 c h8 h9]
  · obtain ⟨M2, N2, p1, p2, p3, p4⟩ := tell_no61 (h3 hk) M N b (by omega) q3
    simp (disch := omega) [g40, g40b, q1, p1, q5, hk]
    refine ⟨by omega, p3, fun c h8 h9 => ?_⟩
    rw [p4 c (by omega) h9, q4 c h8 h9]
theorem step40 {a : Tch} (hm : m.length * 8 ≤ 140737488355328) (hmi : ∀ n ∈ m, i64 n) (hw : w.ok) (hk : 1 ≤ w.kind ∧ w.kind ≤ 3) (ha : accS w = some a) :
    HC 40 (hc w m e) [] (.bool true) (hc (nextS w (touchS m a.op a.node a.word a.to).2.1) (touchS m a.op a.node a.word a.to).1 (te m a.op a.node a.word a.to)) := by
  refine HC_of (fn := g40) rfl rfl (fun mem nx b hb hmg => ?_)
  unfold Keeps
  rcases accS_kind ha with hp | ⟨h1, h2, rfl⟩ | ⟨h1, hp⟩
  · obtain ⟨M, N, q1, q2, q3, q4⟩ := walk60 (e := e) hm hmi hp ha mem nx b hb hmg
    simp (disch := omega) [g40, g40b, q1]
    exact ⟨q2, q3, q4⟩
  · obtain ⟨M, N, q1, q2, q3, q4⟩ := walk_no60 (w := w) (by omega) (by omega) (by omega) mem nx b hb hmg
    obtain ⟨M2, N2, p1, p2, p3, p4⟩ := tell61 (e := e) hm hmi h2 M N b (by omega) q3
    have q5 := q3
    simp only [hc] at q5
    rw [load_same]
    simp (disch := omega) [g40, g40b, q1, p1, q5, h1]
    refine ⟨by omega, p3, fun c h8 h9 => ?_⟩
    rw [p4 c (by omega) h9, q4 c h8 h9]
  · have hp0 : ¬ w.pc = 0 ∧ ¬ w.pc = 1 ∧ ¬ w.pc = 2 := by omega
    obtain ⟨M, N, q1, q2, q3, q4⟩ := walk_no60 hp0.1 hp0.2.1 hp0.2.2 mem nx b hb hmg
    have q5 := q3
    simp only [hc] at q5
    have hk12 : w.kind = 1 ∨ w.kind = 2 := by omega
    rcases hp with hp | ⟨hk1, hp⟩ | ⟨hk1, hp⟩
    · obtain ⟨M2, N2, p1, p2, p3, p4⟩ := locks62 (e := e) hm hmi hw hk12 hp ha M N b (by omega) q3
      rcases hk12 with hk1 | hk1
      · simp (disch := omega) [g40, g40b, q1, p1, q5, hk1]
        refine ⟨by omega, p3, fun c h8 h9 => ?_⟩
        rw [p4 c (by omega) h9, q4 c h8 h9]
      · simp (disch := omega) [g40, g40b, q1, p1, q5, hk1]
        refine ⟨by omega, p3, fun c h8 h9 => ?_⟩
        rw [p4 c (by omega) h9, q4 c h8 h9]
    · obtain ⟨M2, N2, p1, p2, p3, p4⟩ := locks_no62 (by omega) M N b (by omega) q3
      obtain ⟨M3, N3, r1, r2, r3, r4⟩ := insert63 (e := e) hm hmi hw hk1 hp ha M2 N2 b (by omega) p3
      have p5 := p3
      simp only [hc] at p5
      simp (disch := omega) [g40, g40b, q1, p1, q5, r1, p5, hk1]
      refine ⟨by omega, r3, fun c h8 h9 => ?_⟩
      rw [r4 c (by omega) h9, p4 c (by omega) h9, q4 c h8 h9]
    · obtain ⟨M2, N2, p1, p2, p3, p4⟩ := locks_no62 (by omega) M N b (by omega) q3
      obtain ⟨M3, N3, r1, r2, r3, r4⟩ := remove64 (e := e) hm hmi hw hk1 hp ha M2 N2 b (by omega) p3
      have p5 := p3
      simp only [hc] at p5
      simp (disch := omega) [g40, g40b, q1, p1, q5, r1, p5, hk1]
      refine ⟨by omega, r3, fun c h8 h9 => ?_⟩
      rw [r4 c (by omega) h9, p4 c (by omega) h9, q4 c h8 h9]
set_option maxHeartbeats 2000000 in
theorem step19 (hm : m.length * 8 ≤ 140737488355328) (hmi : ∀ n ∈ m, i64 n) (hw : w.ok) : cd Γ 19 [.list 1 (ints m), .agg w.c] = some (stepV (stepS m w)) := by
  rw [call (fn := g19) rfl rfl]
  have hcl := clone41 m hm
  unfold stepS stepV
  have hcell : w.c = [.int .i64 w.kind, .int .i64 w.pc, .int .i64 w.r0, .int .i64 w.r1, .int .i64 w.r2, .int .i64 w.r3, .int .i64 w.r4, .int .i64 w.r5, .int .i64 w.r6, .int .i64 w.r7, .int .i64 w.r8, .int .i64 w.r9, .bool w.done, .int .i64 w.out] := rfl
  by_cases hd : w.done = true
  · simp [g19, g19b, hcell, hd, hcl]
  by_cases hk1 : w.kind < 1
  · simp only [Bool.not_eq_true] at hd
    simp [g19, g19b, hcell, hd, hk1, hcl]
  by_cases hk2 : 3 < w.kind
  · simp only [Bool.not_eq_true] at hd
    simp [g19, g19b, hcell, hd, hk1, hk2, hcl]
  rw [if_neg (by simp [hd, hk1, hk2])]
  simp only [Bool.not_eq_true] at hd
  cases ha : accS w with
  | none =>
    obtain ⟨M, N, q1, q2, q3, q4⟩ := step_no40 (w := w) (m := m) (e := 0) (by omega) ha [(1, ⟨75, 16, [hc w m 0]⟩), (0, ⟨25, 14, [[.int .i64 0, .int .i64 0, .int .i64 0, .int .i64 0, .int .i64 0, .int .i64 0, .int .i64 0, .int .i64 0, .int .i64 0, .int .i64 0, .int .i64 0, .int .i64 0, .bool false, .int .i64 0]]⟩)] 2 1 (by simp) (by simp)
    have q5 := q4 0 (by omega) (by omega)
    simp only [hc, hd] at q1 q3
    simp [mg] at q5
    simp (disch := omega) [g19, g19b, hcell, hd, hk1, hk2, hcl, q1, q5, mg_ms_o]
  | some a =>
    obtain ⟨M, N, q1, q2, q3, q4⟩ := step40 (w := w) (m := m) (e := 0) hm hmi hw (by omega) ha [(1, ⟨75, 16, [hc w m 0]⟩), (0, ⟨25, 14, [[.int .i64 0, .int .i64 0, .int .i64 0, .int .i64 0, .int .i64 0, .int .i64 0, .int .i64 0, .int .i64 0, .int .i64 0, .int .i64 0, .int .i64 0, .int .i64 0, .bool false, .int .i64 0]]⟩)] 2 1 (by simp) (by simp)
    have q5 := q4 0 (by omega) (by omega)
    simp [mg] at q5
    simp only
    unfold te at q3
    generalize hr : touchS m a.op a.node a.word a.to = r at q3 ⊢
    obtain ⟨m', f, er⟩ := r
    simp only at q3 ⊢
    have hcell2 : (nextS w f).c = [.int .i64 (nextS w f).kind, .int .i64 (nextS w f).pc, .int .i64 (nextS w f).r0, .int .i64 (nextS w f).r1, .int .i64 (nextS w f).r2, .int .i64 (nextS w f).r3, .int .i64 (nextS w f).r4, .int .i64 (nextS w f).r5, .int .i64 (nextS w f).r6, .int .i64 (nextS w f).r7, .int .i64 (nextS w f).r8, .int .i64 (nextS w f).r9, .bool (nextS w f).done, .int .i64 (nextS w f).out] := rfl
    simp only [hc, hd] at q1 q3
    by_cases he : er = 0
    · subst he
      rw [if_pos rfl]
      simp (disch := omega) [g19, g19b, hcell, hd, hk1, hk2, hcl, q1, q3, q5, mg_ms_o]
      rw [hcell2]
    · rw [if_neg he]
      simp (disch := omega) [g19, g19b, hcell, hd, hk1, hk2, hcl, q1, q3, q5, mg_ms_o, he]
end
end Go.Proofs.Ytnomicnfgdjdeaa.Ab
