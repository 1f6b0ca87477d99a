/- What a step of a hand comes to. No condition. -/
import Derived.Test.YtnomicnfgdjdeaaLazyH
namespace Go.Proofs.Ytnomicnfgdjdeaa.Ab
open Go.RowKit
set_option linter.unusedSimpArgs false
section
variable {w : Wk} {m : List Int} {e : Int}
abbrev tv (m : List Int) (node word : Int) : Int := (touchS m 1 node word 0).2.1.v
abbrev te (m : List Int) (op node word to : Int) : Int := (touchS m op node word to).2.2
theorem alive77 {node : Int} (hm : m.length * 8 ≤ 140737488355328) (hmi : ∀ n ∈ m, i64 n) (hp : -100 ≤ w.pc ∧ w.pc ≤ 100) :
    HC 77 (hc w m e) [.int .i64 node] (.tup []) (hc (if tv m node 3 = 0 then { w with pc := w.pc + 1 } else toS w 20 (-1)) m (te m 1 node 3 0)) := by
  refine HC_of (fn := g77) rfl rfl (fun mem nx b hb hmg => ?_)
  obtain ⟨M, N, q1, q2, q3, q4⟩ := load72 (w := w) (e := e) hm hmi (node := node) (word := 3) (by simp) mem nx b hb hmg
  unfold Keeps tv te
  by_cases h : (touchS m 1 node 3 0).2.1.v = 0
  · rw [h] at q1
    simp only [hc, h, if_true] at q3 ⊢
    simp (disch := omega) [g77, g77b, q1, q3, tupV]
    refine ⟨by omega, fun c h8 h9 => ?_⟩
    simp (disch := omega) [mg_ms_o, q4]
  · obtain ⟨M2, N2, p1, p2, p3, p4⟩ := ends76 (w := w) (m := m) (e := (touchS m 1 node 3 0).2.2) (res := -1) (pc := 20) M N b (by omega) q3
    simp (disch := omega) [g77, g77b, q1, h, p1, tupV]
    refine ⟨by omega, p3, fun c h8 h9 => ?_⟩
    rw [p4 c (by omega) h9, q4 c h8 h9]
set_option maxHeartbeats 1000000 in
theorem decide78 (hm : m.length * 8 ≤ 140737488355328) (hmi : ∀ n ∈ m, i64 n) (hk : w.kind = 1 ∨ w.kind = 2) (hpc : w.pc = 14) :
    HC 78 (hc w m e) [] (.tup []) (hc (nextS w (touchS m 1 w.r1 1 0).2.1) m (te m 1 w.r1 1 0)) := by
  refine HC_of (fn := g78) rfl rfl (fun mem nx b hb hmg => ?_)
  have q0 := pred75 (nx := nx) hmg
  obtain ⟨M, N, q1, q2, q3, q4⟩ := load72 (w := w) (e := e) hm hmi (node := w.r1) (word := 1) (by simp) mem nx b hb hmg
  have q5 := cur73 (nx := N) q3
  unfold Keeps te
  generalize (touchS m 1 w.r1 1 0) = r at q1 q3 q5 ⊢
  obtain ⟨m', ⟨fv, fd⟩, er⟩ := r
  obtain ⟨kind, pc, r0, r1, r2, r3, r4, r5, r6, r7, r8, r9, done, out⟩ := w
  simp only at hk hpc q0 q1 q3 q5 ⊢
  subst hpc
  by_cases h1 : fv = r2
  · subst h1
    by_cases h2 : r5 = r0
    · subst h2
      rcases hk with rfl | rfl
      · obtain ⟨M2, N2, p1, p2, p3, p4⟩ := ends76 (m := m) (e := er) (res := 0) (pc := 20) M N b (by omega) q3
        simp only [hc] at q3 p3
        simp (disch := omega) [g78, g78b, q0, q1, q3, q5, p1, tupV, nextS, toS]
        refine ⟨by omega, by simpa [hc] using p3, fun c h8 h9 => ?_⟩
        rw [p4 c (by omega) h9, q4 c h8 h9]
      · simp only [hc] at q3
        simp (disch := omega) [g78, g78b, q0, q1, q3, q5, tupV, nextS, toS, hc]
        refine ⟨by omega, fun c h8 h9 => ?_⟩
        simp (disch := omega) [mg_ms_o, q4]
    · rcases hk with rfl | rfl
      · simp only [hc] at q3
        simp (disch := omega) [g78, g78b, q0, q1, q3, q5, tupV, nextS, toS, hc, h2]
        refine ⟨by omega, fun c h8 h9 => ?_⟩
        simp (disch := omega) [mg_ms_o, q4]
      · obtain ⟨M2, N2, p1, p2, p3, p4⟩ := ends76 (m := m) (e := er) (res := 0) (pc := 20) M N b (by omega) q3
        simp only [hc] at q3 p3
        simp (disch := omega) [g78, g78b, q0, q1, q3, q5, p1, tupV, nextS, toS, h2]
        refine ⟨by omega, by simpa [hc] using p3, fun c h8 h9 => ?_⟩
        rw [p4 c (by omega) h9, q4 c h8 h9]
  · obtain ⟨M2, N2, p1, p2, p3, p4⟩ := ends76 (m := m) (e := er) (res := -1) (pc := 20) M N b (by omega) q3
    simp only [hc] at q3 p3
    by_cases h2 : r5 = r0
    · subst h2
      simp (disch := omega) [g78, g78b, q0, q1, q3, q5, p1, tupV, nextS, toS, h1]
      refine ⟨by omega, by simpa [hc] using p3, fun c h8 h9 => ?_⟩
      rw [p4 c (by omega) h9, q4 c h8 h9]
    · simp (disch := omega) [g78, g78b, q0, q1, q3, q5, p1, tupV, nextS, toS, h1, h2]
      refine ⟨by omega, by simpa [hc] using p3, fun c h8 h9 => ?_⟩
      rw [p4 c (by omega) h9, q4 c h8 h9]
theorem walk_no60 (h0 : ¬ w.pc = 0) (h1 : ¬ w.pc = 1) (h2 : ¬ w.pc = 2) : HC 60 (hc w m e) [] (.bool false) (hc w m e) := by
  refine HC_of (fn := g60) rfl rfl (fun mem nx b hb hmg => ?_)
  unfold Keeps
  have hmg' := hmg
  simp only [hc] at hmg' ⊢
  simp [g60, g60b, hmg', h0, h1, h2]
set_option maxHeartbeats 2000000 in
theorem walk60 {a : Tch} (hm : m.length * 8 ≤ 140737488355328) (hmi : ∀ n ∈ m, i64 n) (hp : w.pc = 0 ∨ w.pc = 1 ∨ w.pc = 2) (ha : accS w = some a) :
    HC 60 (hc w m e) [] (.bool true) (hc (nextS w (touchS m a.op a.node a.word a.to).2.1) (touchS m a.op a.node a.word a.to).1 (te m a.op a.node a.word a.to)) := by
  refine HC_of (fn := g60) rfl rfl (fun mem nx b hb hmg => ?_)
  obtain ⟨kind, pc, r0, r1, r2, r3, r4, r5, r6, r7, r8, r9, done, out⟩ := w
  unfold Keeps te
  simp only at hp
  rcases hp with rfl | rfl | rfl
  · have : a = ⟨1, 0, 1, 0⟩ := by simpa [accS] using ha.symm
    subst this
    simp only [load_same]
    obtain ⟨M, N, q1, q2, q3, q4⟩ := load72 (e := e) hm hmi (node := 0) (word := 1) (by simp) mem nx b hb hmg
    generalize (touchS m 1 0 1 0) = r at q1 q3 ⊢
    obtain ⟨m', ⟨fv, fd⟩, er⟩ := r
    simp only [hc] at hmg q1 q3 ⊢
    simp (disch := omega) [g60, g60b, hmg, q1, q3, nextS]
    refine ⟨by omega, fun c h8 h9 => ?_⟩
    simp (disch := omega) [mg_ms_o, q4]
  · have : a = ⟨1, r2, 0, 0⟩ := by simpa [accS] using ha.symm
    subst this
    simp only [load_same]
    have q0 := cur73 (nx := nx) hmg
    obtain ⟨M, N, q1, q2, q3, q4⟩ := load72 (e := e) hm hmi (node := r2) (word := 0) (by simp) mem nx b hb hmg
    generalize (touchS m 1 r2 0 0) = r at q1 q3 ⊢
    obtain ⟨m', ⟨fv, fd⟩, er⟩ := r
    simp only at q0
    simp only [hc] at hmg q1 q3 ⊢
    by_cases h1 : fv < r0
    · simp (disch := omega) [g60, g60b, hmg, q0, q1, q3, nextS, h1]
      refine ⟨by omega, fun c h8 h9 => ?_⟩
      simp (disch := omega) [mg_ms_o, q4]
    · by_cases h2 : kind = 3
      · subst h2
        simp (disch := omega) [g60, g60b, hmg, q0, q1, q3, nextS, h1]
        refine ⟨by omega, fun c h8 h9 => ?_⟩
        simp (disch := omega) [mg_ms_o, q4]
      · simp (disch := omega) [g60, g60b, hmg, q0, q1, q3, nextS, h1, h2]
        refine ⟨by omega, fun c h8 h9 => ?_⟩
        simp (disch := omega) [mg_ms_o, q4]
  · have : a = ⟨1, r2, 1, 0⟩ := by simpa [accS] using ha.symm
    subst this
    simp only [load_same]
    obtain ⟨M, N, q1, q2, q3, q4⟩ := load72 (w := ⟨kind, 2, r0, r2, r2, r3, r4, r5, r6, r7, r8, r9, done, out⟩) (e := e) hm hmi (node := r2) (word := 1) (by simp) (ms mem b ⟨75, 16, [hc ⟨kind, 2, r0, r2, r2, r3, r4, r5, r6, r7, r8, r9, done, out⟩ m e]⟩) nx b hb mg_ms_self
    generalize (touchS m 1 r2 1 0) = r at q1 q3 ⊢
    obtain ⟨m', ⟨fv, fd⟩, er⟩ := r
    simp only [hc] at hmg q1 q3 q4 ⊢
    simp (disch := omega) [g60, g60b, hmg, q1, q3, nextS]
    refine ⟨by omega, fun c h8 h9 => ?_⟩
    simp (disch := omega) [mg_ms_o, q4]
theorem tell61 (hm : m.length * 8 ≤ 140737488355328) (hmi : ∀ n ∈ m, i64 n) (hp : w.pc = 3) :
    HC 61 (hc w m e) [] (.bool true) (hc (nextS w (touchS m 1 w.r2 3 0).2.1) m (te m 1 w.r2 3 0)) := by
  refine HC_of (fn := g61) rfl rfl (fun mem nx b hb hmg => ?_)
  obtain ⟨kind, pc, r0, r1, r2, r3, r4, r5, r6, r7, r8, r9, done, out⟩ := w
  unfold Keeps te
  simp only at hp
  subst hp
  have q0 := cur73 (nx := nx) hmg
  obtain ⟨M, N, q1, q2, q3, q4⟩ := load72 (e := e) hm hmi (node := r2) (word := 3) (by simp) mem nx b hb hmg
  simp only at q0
  simp only
  generalize (touchS m 1 r2 3 0) = r at q1 q3 ⊢
  obtain ⟨m', ⟨fv, fd⟩, er⟩ := r
  simp only [hc] at hmg q1 q3 ⊢
  by_cases h1 : fv = 0
  · subst h1
    by_cases h2 : r5 = r0
    · subst h2
      simp (disch := omega) [g61, g61b, hmg, q0, q1, q3, nextS]
      refine ⟨by omega, fun c h8 h9 => ?_⟩
      simp (disch := omega) [mg_ms_o, q4]
    · simp (disch := omega) [g61, g61b, hmg, q0, q1, q3, nextS, h2]
      refine ⟨by omega, fun c h8 h9 => ?_⟩
      simp (disch := omega) [mg_ms_o, q4]
  · simp (disch := omega) [g61, g61b, hmg, q0, q1, q3, nextS, h1]
    refine ⟨by omega, fun c h8 h9 => ?_⟩
    simp (disch := omega) [mg_ms_o, q4]
theorem tell_no61 (hp : ¬ w.pc = 3) : HC 61 (hc w m e) [] (.bool false) (hc w m e) := by
  refine HC_of (fn := g61) rfl rfl (fun mem nx b hb hmg => ?_)
  unfold Keeps
  have hmg' := hmg
  simp only [hc] at hmg' ⊢
  simp [g61, g61b, hmg', hp]
end
end Go.Proofs.Ytnomicnfgdjdeaa.Ab
