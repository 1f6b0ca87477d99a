/- What locks, insert, remove and a step of a hand come to. No condition. -/
import Derived.Test.YtnomicnfgdjdeaaLazyI
namespace Go.Proofs.Ytnomicnfgdjdeaa.Ab
open Go.RowKit
set_option linter.unusedSimpArgs false
section
variable {w : Wk} {m : List Int} {e : Int}
theorem locks_no62 (h : ¬ w.pc = 10 ∧ ¬ w.pc = 11 ∧ ¬ w.pc = 12 ∧ ¬ w.pc = 13 ∧ ¬ w.pc = 14 ∧ ¬ w.pc = 20 ∧ ¬ w.pc = 21) : HC 62 (hc w m e) [] (.bool false) (hc w m e) := by
  refine HC_of (fn := g62) rfl rfl (fun mem nx b hb hmg => ?_)
  obtain ⟨h1, h2, h3, h4, h5, h6, h7⟩ := h
  unfold Keeps
  have hmg' := hmg
  simp only [hc] at hmg' ⊢
  simp [g62, g62b, hmg', h1, h2, h3, h4, h5, h6, h7]
set_option maxHeartbeats 4000000 in
theorem locks62 {a : Tch} (hm : m.length * 8 ≤ 140737488355328) (hmi : ∀ n ∈ m, i64 n) (hw : w.ok) (hk : w.kind = 1 ∨ w.kind = 2) (hp : w.pc = 10 ∨ w.pc = 11 ∨ w.pc = 12 ∨ w.pc = 13 ∨ w.pc = 14 ∨ w.pc = 20 ∨ w.pc = 21) (ha : accS w = some a) :
    HC 62 (hc w m e) [] (.bool true) (hc (nextS w (touchS m a.op a.node a.word a.to).2.1) (touchS m a.op a.node a.word a.to).1 (te m a.op a.node a.word a.to)) := by
  refine HC_of (fn := g62) rfl rfl (fun mem nx b hb hmg => ?_)
  obtain ⟨_, _, _, _, _, _, hr4, _⟩ := hw
  obtain ⟨kind, pc, r0, r1, r2, r3, r4, r5, r6, r7, r8, r9, done, out⟩ := w
  unfold Keeps te
  simp only at hp hk hr4
  have hk3 : ¬ kind = 3 := by omega
  rcases hp with rfl | rfl | rfl | rfl | rfl | rfl | rfl
  · have : a = ⟨3, r1, 2, r4⟩ := by simpa [accS, hk3] using ha.symm
    subst this
    have q0 := pred75 (w := ⟨kind, 0, r0, r1, r2, r3, r4, r5, r6, r7, r8, r9, done, out⟩) (m := m) (e := e) (nx := nx) (mem := ms mem b ⟨75, 16, [hc ⟨kind, 0, r0, r1, r2, r3, r4, r5, r6, r7, r8, r9, done, out⟩ m e]⟩) mg_ms_self
    obtain ⟨M, N, q1, q2, q3, q4⟩ := lock74 (w := ⟨kind, 0, r0, r1, r2, r3, r4, r5, r6, r7, r8, r9, done, out⟩) (e := e) hm hmi (node := r1) hr4 (ms mem b ⟨75, 16, [hc ⟨kind, 0, r0, r1, r2, r3, r4, r5, r6, r7, r8, r9, done, out⟩ m e]⟩) nx b hb mg_ms_self
    simp only at q0 q1 q3 ⊢
    generalize (touchS m 3 r1 2 r4) = r at q1 q3 ⊢
    obtain ⟨m', ⟨fv, fd⟩, er⟩ := r
    simp only [hc] at hmg q0 q1 q3 q4 ⊢
    cases fd
    · simp (disch := omega) [g62, g62b, hmg, q0, q1, q3, nextS]
      refine ⟨by omega, fun c h8 h9 => ?_⟩
      simp (disch := omega) [mg_ms_o, q4]
    · simp (disch := omega) [g62, g62b, hmg, q0, q1, q3, nextS]
      refine ⟨by omega, fun c h8 h9 => ?_⟩
      simp (disch := omega) [mg_ms_o, q4]
  · have : a = ⟨3, r2, 2, r4⟩ := by simpa [accS, hk3] using ha.symm
    subst this
    have q0 := cur73 (nx := nx) hmg
    obtain ⟨M, N, q1, q2, q3, q4⟩ := lock74 (e := e) hm hmi (node := r2) hr4 mem nx b hb hmg
    simp only at q0 q1 q3 ⊢
    generalize (touchS m 3 r2 2 r4) = r at q1 q3 ⊢
    obtain ⟨m', ⟨fv, fd⟩, er⟩ := r
    simp only at q1 q3 ⊢
    cases fd
    · obtain ⟨M2, N2, p1, p2, p3, p4⟩ := ends76 (m := m') (e := er) (res := -1) (pc := 21) M N b (by omega) q3
      simp only [hc] at hmg q0 q1 q3 p3 ⊢
      simp (disch := omega) [g62, g62b, hmg, q0, q1, q3, nextS, p1, p3, toS]
      refine ⟨by omega, fun c h8 h9 => ?_⟩
      rw [p4 c (by omega) h9, q4 c h8 h9]
    · simp only [hc] at hmg q0 q1 q3 ⊢
      simp (disch := omega) [g62, g62b, hmg, q0, q1, q3, nextS]
      refine ⟨by omega, fun c h8 h9 => ?_⟩
      simp (disch := omega) [mg_ms_o, q4]
  · have : a = ⟨1, r1, 3, 0⟩ := by simpa [accS, hk3] using ha.symm
    subst this
    simp only [load_same]
    have q0 := pred75 (nx := nx) hmg
    obtain ⟨M, N, q1, q2, q3, q4⟩ := alive77 (e := e) hm hmi (node := r1) (by simp) mem nx b hb hmg
    have e : (if tv m r1 3 = 0 then { kind := kind, pc := 12 + 1, r0 := r0, r1 := r1, r2 := r2, r3 := r3, r4 := r4, r5 := r5, r6 := r6, r7 := r7, r8 := r8, r9 := r9, done := done, out := out : Wk} else toS ⟨kind, 12, r0, r1, r2, r3, r4, r5, r6, r7, r8, r9, done, out⟩ 20 (-1)) = nextS ⟨kind, 12, r0, r1, r2, r3, r4, r5, r6, r7, r8, r9, done, out⟩ (touchS m 1 r1 3 0).2.1 := by simp [nextS]
    simp only [e] at q3
    simp only at q0
    rw [← te, ← show hc (nextS ⟨kind, 12, r0, r1, r2, r3, r4, r5, r6, r7, r8, r9, done, out⟩ (touchS m 1 r1 3 0).2.1) m (te m 1 r1 3 0) = hc (nextS ⟨kind, 12, r0, r1, r2, r3, r4, r5, r6, r7, r8, r9, done, out⟩ (touchS m 1 r1 3 0).2.1) m (te m 1 r1 3 0) from rfl]
    generalize hc (nextS ⟨kind, 12, r0, r1, r2, r3, r4, r5, r6, r7, r8, r9, done, out⟩ (touchS m 1 r1 3 0).2.1) m (te m 1 r1 3 0) = cells at q3 ⊢
    simp only [hc] at hmg
    simp (disch := omega) [g62, g62b, hmg, q0, q1, q3]
    exact ⟨by omega, q4⟩
  · have : a = ⟨1, r2, 3, 0⟩ := by simpa [accS, hk3] using ha.symm
    subst this
    simp only [load_same]
    have q0 := cur73 (nx := nx) hmg
    obtain ⟨M, N, q1, q2, q3, q4⟩ := alive77 (e := e) hm hmi (node := r2) (by simp) mem nx b hb hmg
    have e : (if tv m r2 3 = 0 then { kind := kind, pc := 13 + 1, r0 := r0, r1 := r1, r2 := r2, r3 := r3, r4 := r4, r5 := r5, r6 := r6, r7 := r7, r8 := r8, r9 := r9, done := done, out := out : Wk} else toS ⟨kind, 13, r0, r1, r2, r3, r4, r5, r6, r7, r8, r9, done, out⟩ 20 (-1)) = nextS ⟨kind, 13, r0, r1, r2, r3, r4, r5, r6, r7, r8, r9, done, out⟩ (touchS m 1 r2 3 0).2.1 := by simp [nextS]
    simp only [e] at q3
    simp only at q0
    rw [← te]
    generalize hc (nextS ⟨kind, 13, r0, r1, r2, r3, r4, r5, r6, r7, r8, r9, done, out⟩ (touchS m 1 r2 3 0).2.1) m (te m 1 r2 3 0) = cells at q3 ⊢
    simp only [hc] at hmg
    simp (disch := omega) [g62, g62b, hmg, q0, q1, q3]
    exact ⟨by omega, q4⟩
  · have : a = ⟨1, r1, 1, 0⟩ := by simpa [accS, hk3] using ha.symm
    subst this
    simp only [load_same]
    obtain ⟨M, N, q1, q2, q3, q4⟩ := decide78 (e := e) hm hmi hk rfl mem nx b hb hmg
    simp only at q3
    rw [← te]
    generalize hc (nextS ⟨kind, 14, r0, r1, r2, r3, r4, r5, r6, r7, r8, r9, done, out⟩ (touchS m 1 r1 1 0).2.1) m (te m 1 r1 1 0) = cells at q3 ⊢
    simp only [hc] at hmg q1
    simp (disch := omega) [g62, g62b, hmg, q1, q3]
    exact ⟨by omega, q4⟩
  · have : a = ⟨2, r2, 2, 0⟩ := by simpa [accS, hk3] using ha.symm
    subst this
    have q0 := cur73 (nx := nx) hmg
    obtain ⟨M, N, q1, q2, q3, q4⟩ := touch79 (e := e) hm hmi (op := 2) (node := r2) (word := 2) (to := 0) (by unfold i64; simp) (by simp) (by unfold i64; simp) mem nx b hb hmg
    simp only at q0
    simp only
    generalize (touchS m 2 r2 2 0) = r at q1 q3 ⊢
    obtain ⟨m', ⟨fv, fd⟩, er⟩ := r
    simp only [hc, Fnd.c] at hmg q1 q3 ⊢
    simp (disch := omega) [g62, g62b, hmg, q0, q1, q3, nextS]
    refine ⟨by omega, fun c h8 h9 => ?_⟩
    simp (disch := omega) [mg_ms_o, q4]
  · have : a = ⟨2, r1, 2, 0⟩ := by simpa [accS, hk3] using ha.symm
    subst this
    have q0 := pred75 (nx := nx) hmg
    obtain ⟨M, N, q1, q2, q3, q4⟩ := touch79 (e := e) hm hmi (op := 2) (node := r1) (word := 2) (to := 0) (by unfold i64; simp) (by simp) (by unfold i64; simp) mem nx b hb hmg
    simp only at q0
    simp only
    generalize (touchS m 2 r1 2 0) = r at q1 q3 ⊢
    obtain ⟨m', ⟨fv, fd⟩, er⟩ := r
    simp only [hc, Fnd.c] at hmg q1 q3 ⊢
    by_cases h7 : r7 = -1
    · subst h7
      simp (disch := omega) [g62, g62b, hmg, q0, q1, q3, nextS]
      refine ⟨by omega, fun c h8 h9 => ?_⟩
      simp (disch := omega) [mg_ms_o, q4]
    · simp (disch := omega) [g62, g62b, hmg, q0, q1, q3, nextS, h7]
      refine ⟨by omega, fun c h8 h9 => ?_⟩
      simp (disch := omega) [mg_ms_o, q4]
theorem insert_no63 (h : ¬ w.pc = 15 ∧ ¬ w.pc = 16 ∧ ¬ w.pc = 18) : HC 63 (hc w m e) [] (.bool false) (hc w m e) := by
  refine HC_of (fn := g63) rfl rfl (fun mem nx b hb hmg => ?_)
  obtain ⟨h1, h2, h3⟩ := h
  unfold Keeps
  have hmg' := hmg
  simp only [hc] at hmg' ⊢
  simp [g63, g63b, hmg', h1, h2, h3]
theorem remove_no64 (h : ¬ w.pc = 17 ∧ ¬ w.pc = 19 ∧ ¬ w.pc = 22) : HC 64 (hc w m e) [] (.bool false) (hc w m e) := by
  refine HC_of (fn := g64) rfl rfl (fun mem nx b hb hmg => ?_)
  obtain ⟨h1, h2, h3⟩ := h
  unfold Keeps
  have hmg' := hmg
  simp only [hc] at hmg' ⊢
  simp [g64, g64b, hmg', h1, h2, h3]
set_option maxHeartbeats 4000000 in
theorem insert63 {a : Tch} (hm : m.length * 8 ≤ 140737488355328) (hmi : ∀ n ∈ m, i64 n) (hw : w.ok) (hk : w.kind = 1) (hp : w.pc = 15 ∨ w.pc = 16 ∨ w.pc = 18) (ha : accS w = some a) :
    HC 63 (hc w m e) [] (.bool true) (hc (nextS w (touchS m a.op a.node a.word a.to).2.1) (touchS m a.op a.node a.word a.to).1 (te m a.op a.node a.word a.to)) := by
  refine HC_of (fn := g63) rfl rfl (fun mem nx b hb hmg => ?_)
  obtain ⟨_, _, hr0, hr1, hr2, hr3, hr4, _⟩ := hw
  obtain ⟨kind, pc, r0, r1, r2, r3, r4, r5, r6, r7, r8, r9, done, out⟩ := w
  unfold Keeps te
  simp only at hp hk hr0 hr2 hr3
  subst hk
  rcases hp with rfl | rfl | rfl
  · have : a = ⟨2, r3, 0, r0⟩ := by simpa [accS] using ha.symm
    subst this
    have q00 := own80 (nx := nx) hmg
    simp only at q00
    obtain ⟨M, N, q1, q2, q3, q4⟩ := touch79 (e := e) hm hmi (op := 2) (node := r3) (word := 0) (to := r0) (by unfold i64; simp) (by simp) hr0 mem nx b hb hmg
    simp only
    generalize (touchS m 2 r3 0 r0) = r at q1 q3 ⊢
    obtain ⟨m', ⟨fv, fd⟩, er⟩ := r
    simp only [hc, Fnd.c] at hmg q1 q3 ⊢
    simp (disch := omega) [g63, g63b, hmg, q00, q1, q3, nextS]
    refine ⟨by omega, fun c h8 h9 => ?_⟩
    simp (disch := omega) [mg_ms_o, q4]
  · have : a = ⟨2, r3, 1, r2⟩ := by simpa [accS] using ha.symm
    subst this
    have q00 := own80 (nx := nx) hmg
    simp only at q00
    have q01 := cur73 (nx := nx) hmg
    simp only at q01
    obtain ⟨M, N, q1, q2, q3, q4⟩ := touch79 (e := e) hm hmi (op := 2) (node := r3) (word := 1) (to := r2) (by unfold i64; simp) (by simp) hr2 mem nx b hb hmg
    simp only
    generalize (touchS m 2 r3 1 r2) = r at q1 q3 ⊢
    obtain ⟨m', ⟨fv, fd⟩, er⟩ := r
    simp only [hc, Fnd.c] at hmg q1 q3 ⊢
    simp (disch := omega) [g63, g63b, hmg, q00, q01, q1, q3, nextS]
    refine ⟨by omega, fun c h8 h9 => ?_⟩
    simp (disch := omega) [mg_ms_o, q4]
  · have : a = ⟨2, r1, 1, r3⟩ := by simpa [accS] using ha.symm
    subst this
    have q00 := own80 (nx := nx) hmg
    simp only at q00
    have q01 := pred75 (nx := nx) hmg
    simp only at q01
    obtain ⟨M, N, q1, q2, q3, q4⟩ := touch79 (e := e) hm hmi (op := 2) (node := r1) (word := 1) (to := r3) (by unfold i64; simp) (by simp) hr3 mem nx b hb hmg
    simp only
    generalize (touchS m 2 r1 1 r3) = r at q1 q3 ⊢
    obtain ⟨m', ⟨fv, fd⟩, er⟩ := r
    simp only at q1 q3 ⊢
    obtain ⟨M2, N2, p1, p2, p3, p4⟩ := ends76 (m := m') (e := er) (res := 1) (pc := 20) M N b (by omega) q3
    simp only [hc, Fnd.c] at hmg q1 q3 p3 ⊢
    simp (disch := omega) [g63, g63b, hmg, q00, q01, q1, q3, nextS, p1, p3, toS]
    refine ⟨by omega, fun c h8 h9 => ?_⟩
    rw [p4 c (by omega) h9, q4 c h8 h9]
set_option maxHeartbeats 4000000 in
theorem remove64 {a : Tch} (hm : m.length * 8 ≤ 140737488355328) (hmi : ∀ n ∈ m, i64 n) (hw : w.ok) (hk : w.kind = 2) (hp : w.pc = 17 ∨ w.pc = 19 ∨ w.pc = 22) (ha : accS w = some a) :
    HC 64 (hc w m e) [] (.bool true) (hc (nextS w (touchS m a.op a.node a.word a.to).2.1) (touchS m a.op a.node a.word a.to).1 (te m a.op a.node a.word a.to)) := by
  refine HC_of (fn := g64) rfl rfl (fun mem nx b hb hmg => ?_)
  obtain ⟨_, _, hr0, hr1, hr2, hr3, hr4, hr5, hr6, _⟩ := hw
  obtain ⟨kind, pc, r0, r1, r2, r3, r4, r5, r6, r7, r8, r9, done, out⟩ := w
  unfold Keeps te
  simp only at hp hk hr6
  subst hk
  rcases hp with rfl | rfl | rfl
  · have : a = ⟨2, r2, 3, 1⟩ := by simpa [accS] using ha.symm
    subst this
    have q00 := cur73 (nx := nx) hmg
    simp only at q00
    obtain ⟨M, N, q1, q2, q3, q4⟩ := touch79 (e := e) hm hmi (op := 2) (node := r2) (word := 3) (to := 1) (by unfold i64; simp) (by simp) (by unfold i64; simp) mem nx b hb hmg
    simp only
    generalize (touchS m 2 r2 3 1) = r at q1 q3 ⊢
    obtain ⟨m', ⟨fv, fd⟩, er⟩ := r
    simp only [hc, Fnd.c] at hmg q1 q3 ⊢
    simp (disch := omega) [g64, g64b, hmg, q00, q1, q3, nextS]
    refine ⟨by omega, fun c h8 h9 => ?_⟩
    simp (disch := omega) [mg_ms_o, q4]
  · have : a = ⟨1, r2, 1, 0⟩ := by simpa [accS] using ha.symm
    subst this
    have q00 := cur73 (nx := nx) hmg
    simp only at q00
    simp only [load_same]
    obtain ⟨M, N, q1, q2, q3, q4⟩ := load72 (e := e) hm hmi (node := r2) (word := 1) (by simp) mem nx b hb hmg
    try simp only
    generalize (touchS m 1 r2 1 0) = r at q1 q3 ⊢
    obtain ⟨m', ⟨fv, fd⟩, er⟩ := r
    simp only [hc, Fnd.c] at hmg q1 q3 ⊢
    simp (disch := omega) [g64, g64b, hmg, q00, q1, q3, nextS]
    refine ⟨by omega, fun c h8 h9 => ?_⟩
    simp (disch := omega) [mg_ms_o, q4]
  · have : a = ⟨2, r1, 1, r6⟩ := by simpa [accS] using ha.symm
    subst this
    have q00 := pred75 (nx := nx) hmg
    simp only at q00
    obtain ⟨M, N, q1, q2, q3, q4⟩ := touch79 (e := e) hm hmi (op := 2) (node := r1) (word := 1) (to := r6) (by unfold i64; simp) (by simp) hr6 mem nx b hb hmg
    simp only
    generalize (touchS m 2 r1 1 r6) = r at q1 q3 ⊢
    obtain ⟨m', ⟨fv, fd⟩, er⟩ := r
    simp only at q1 q3 ⊢
    obtain ⟨M2, N2, p1, p2, p3, p4⟩ := ends76 (m := m') (e := er) (res := 1) (pc := 20) M N b (by omega) q3
    simp only [hc, Fnd.c] at hmg q1 q3 p3 ⊢
    simp (disch := omega) [g64, g64b, hmg, q00, q1, q3, nextS, p1, p3, toS]
    refine ⟨by omega, fun c h8 h9 => ?_⟩
    rw [p4 c (by omega) h9, q4 c h8 h9]
end
end Go.Proofs.Ytnomicnfgdjdeaa.Ab
