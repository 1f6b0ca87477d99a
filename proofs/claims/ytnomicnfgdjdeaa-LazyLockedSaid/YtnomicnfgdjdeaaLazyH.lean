/- What the program's functions on a hand come to. No condition. -/
import Derived.Test.YtnomicnfgdjdeaaLazyR
namespace Go.Proofs.Ytnomicnfgdjdeaa.Ab
open Go.RowKit
set_option linter.unusedSimpArgs false

/-- A hand's cells. -/
def hc (w : Wk) (m : List Int) (e : Int) : List AVal := [.int .i64 w.kind, .int .i64 w.pc, .int .i64 w.r0, .int .i64 w.r1, .int .i64 w.r2, .int .i64 w.r3, .int .i64 w.r4, .int .i64 w.r5, .int .i64 w.r6, .int .i64 w.r7, .int .i64 w.r8, .int .i64 w.r9, .bool w.done, .int .i64 w.out, .list 1 (ints m), .int .i64 e]
/-- A call of a function on a hand: what comes of it, and of the hand. -/
def HC (f : Nat) (cells : List AVal) (args : List AVal) (v : AVal) (cells' : List AVal) : Prop :=
  ∀ (mem : List (Nat × Blk)) (nx b : Nat), b < nx → mg mem b = some ⟨75, 16, [cells]⟩ →
    ∃ mem' nx', cr Γ f (.ptr b 0 0 :: args) mem nx = some (v, mem', nx') ∧ nx ≤ nx' ∧ mg mem' b = some ⟨75, 16, [cells']⟩ ∧ ∀ c, c < nx → c ≠ b → mg mem' c = mg mem c
def Keeps (b nx : Nat) (mem : List (Nat × Blk)) (cells' : List AVal) (res : List ARes) (v : AVal) (e : AExit) (sl : List (Nat × AVal)) (mem' : List (Nat × Blk)) (nx' : Nat) (pr : Bool) : Prop :=
  ((e = .normal ∨ e = .ret) ∧ (resVs ⟨sl, mem', nx', pr⟩ res).map tupV = some v) ∧ nx ≤ nx' ∧ mg mem' b = some ⟨75, 16, [cells']⟩ ∧ ∀ c, c < nx → c ≠ b → mg mem' c = mg mem c
theorem HC_of {f : Nat} {fn : AFn} {cells args cells' : List AVal} {v : AVal} (hf : lazyFn f = some fn) (hl : (AVal.nilp :: args).length = fn.np)
    (h : ∀ (mem : List (Nat × Blk)) (nx b : Nat), b < nx → mg mem b = some ⟨75, 16, [cells]⟩ → Ends (den Γ fn.body ⟨argSlots 0 (.ptr b 0 0 :: args), mem, nx, false⟩) (Keeps b nx mem cells' fn.res v)) : HC f cells args v cells' := by
  intro mem nx b hb hm
  obtain ⟨e, sl, mem', nx', pr, h1, ⟨h2, h3⟩, h4⟩ := h mem nx b hb hm
  refine ⟨mem', nx', ?_, h4⟩
  rw [cr_fn (fn := fn) hf (by simpa using hl), h1]
  rw [Option.map_eq_some_iff] at h3
  obtain ⟨vs, h5, h6⟩ := h3
  rcases h2 with rfl | rfl <;> simp [finR, h5, h6]
theorem mg_ms_self {b : Nat} {B : Blk} : ∀ {m : List (Nat × Blk)}, mg (ms m b B) b = some B
  | [] => by simp [ms, mg]
  | (k, C) :: m => by
    simp only [ms]
    split
    · rename_i e; simp [mg, e]
    · rename_i e; simp only [mg, if_neg e]; exact mg_ms_self
theorem mg_ms_o {i j : Nat} {B : Blk} {m : List (Nat × Blk)} (h : ¬ i = j) : mg (ms m j B) i = mg m i := mg_ms_ne h B m
attribute [simp] mg_ms_self

section
variable {w : Wk} {m : List Int} {e : Int}
set_option maxHeartbeats 2000000 in
theorem touch79 {op node word to : Int} (hm : m.length * 8 ≤ 140737488355328) (hmi : ∀ n ∈ m, i64 n) (hop : i64 op) (hw : 0 ≤ word ∧ word ≤ 3) (hto : i64 to) :
    HC 79 (hc w m e) [.int .i64 op, .int .i64 node, .int .i64 word, .int .i64 to] (.agg (touchS m op node word to).2.1.c) (hc w (touchS m op node word to).1 (touchS m op node word to).2.2) := by
  refine HC_of (fn := g79) rfl rfl (fun mem nx b hb hmg => ?_)
  have hd := do83 m ⟨op, placeS m node word, 0, to⟩ hm hmi ⟨hop, placeS_i64 m hm _ _ hw, by unfold i64; simp, hto⟩
  unfold touchS
  generalize doS m ⟨op, placeS m node word, 0, to⟩ = r at hd ⊢
  obtain ⟨m', ⟨fv, fd⟩, er⟩ := r
  have e4 : Int.tdiv (m.length : Int) 4 = (m.length : Int) / 4 := Int.tdiv_eq_ediv_of_nonneg (by omega)
  unfold own3 at hd
  unfold placeS at hd
  unfold Keeps
  simp only [Acc.c, Fnd.c] at hd ⊢
  by_cases h1 : node < 0
  · rw [if_neg (by omega)] at hd
    simp (disch := omega) [decT, decF, ifT, ifF, g79, g79b, hc, hmg, h1, hd, mg_ms_o]
    refine ⟨by omega, fun c h8 h9 => ?_⟩
    simp (disch := omega) [ifF, mg_ms_o]
  · by_cases h2 : node < (m.length : Int) / 4
    · rw [if_pos (by omega)] at hd
      simp (disch := omega) [decT, decF, ifT, ifF, g79, g79b, hc, hmg, h1, h2, e4, hd, mg_ms_o]
      refine ⟨by omega, fun c h8 h9 => ?_⟩
      simp (disch := omega) [ifF, mg_ms_o]
    · rw [if_neg (by omega)] at hd
      simp (disch := omega) [decT, decF, ifT, ifF, g79, g79b, hc, hmg, h1, h2, e4, hd, mg_ms_o]
      refine ⟨by omega, fun c h8 h9 => ?_⟩
      simp (disch := omega) [ifF, mg_ms_o]
theorem load_same (node word : Int) : (touchS m 1 node word 0).1 = m := by
  unfold touchS doS
  simp
  split
  · rfl
  · split <;> rfl
theorem load72 {node word : Int} (hm : m.length * 8 ≤ 140737488355328) (hmi : ∀ n ∈ m, i64 n) (hw : 0 ≤ word ∧ word ≤ 3) :
    HC 72 (hc w m e) [.int .i64 node, .int .i64 word] (.int .i64 (touchS m 1 node word 0).2.1.v) (hc w m (touchS m 1 node word 0).2.2) := by
  refine HC_of (fn := g72) rfl rfl (fun mem nx b hb hmg => ?_)
  obtain ⟨M, N, q1, q2, q3, q4⟩ := touch79 (w := w) (e := e) hm hmi (op := 1) (node := node) (to := 0) (by unfold i64; simp) hw (by unfold i64; simp) mem nx b hb hmg
  rw [load_same] at q3
  generalize touchS m 1 node word 0 = r at q1 q3 ⊢
  obtain ⟨m', ⟨fv, fd⟩, er⟩ := r
  unfold Keeps
  simp only [Fnd.c] at q1
  simp [g72, g72b, q1, q3, q2]
  exact q4
theorem lock74 {node : Int} (hm : m.length * 8 ≤ 140737488355328) (hmi : ∀ n ∈ m, i64 n) (hr : i64 w.r4) :
    HC 74 (hc w m e) [.int .i64 node] (.bool (touchS m 3 node 2 w.r4).2.1.d) (hc w (touchS m 3 node 2 w.r4).1 (touchS m 3 node 2 w.r4).2.2) := by
  refine HC_of (fn := g74) rfl rfl (fun mem nx b hb hmg => ?_)
  obtain ⟨M, N, q1, q2, q3, q4⟩ := touch79 (w := w) (e := e) hm hmi (op := 3) (node := node) (word := 2) (to := w.r4) (by unfold i64; simp) (by simp) hr mem nx b hb hmg
  generalize touchS m 3 node 2 w.r4 = r at q1 q3 ⊢
  obtain ⟨m', ⟨fv, fd⟩, er⟩ := r
  unfold Keeps
  simp only [Fnd.c] at q1
  simp only [hc] at hmg q3 ⊢
  simp (disch := omega) [g74, g74b, hmg, q1, q3, q2]
  exact q4
theorem ends76 {res pc : Int} : HC 76 (hc w m e) [.int .i64 res, .int .i64 pc] (.tup []) (hc { w with r7 := res, pc := pc } m e) := by
  refine HC_of (fn := g76) rfl rfl (fun mem nx b hb hmg => ?_)
  unfold Keeps
  simp only [hc] at hmg ⊢
  simp (disch := omega) [g76, g76b, hmg, tupV]
  intro c h8 h9
  simp (disch := omega) [mg_ms_o]
theorem cur73 {mem : List (Nat × Blk)} {nx b : Nat} (hmg : mg mem b = some ⟨75, 16, [hc w m e]⟩) : cr Γ 73 [.ptr b 0 0] mem nx = some (.int .i64 w.r2, mem, nx) := by
  rw [cr_fn (fn := g73) rfl rfl]
  simp only [hc] at hmg
  simp [g73, g73b, hmg]
theorem pred75 {mem : List (Nat × Blk)} {nx b : Nat} (hmg : mg mem b = some ⟨75, 16, [hc w m e]⟩) : cr Γ 75 [.ptr b 0 0] mem nx = some (.int .i64 w.r1, mem, nx) := by
  rw [cr_fn (fn := g75) rfl rfl]
  simp only [hc] at hmg
  simp [g75, g75b, hmg]
theorem own80 {mem : List (Nat × Blk)} {nx b : Nat} (hmg : mg mem b = some ⟨75, 16, [hc w m e]⟩) : cr Γ 80 [.ptr b 0 0] mem nx = some (.int .i64 w.r3, mem, nx) := by
  rw [cr_fn (fn := g80) rfl rfl]
  simp only [hc] at hmg
  simp [g80, g80b, hmg]
end
end Go.Proofs.Ytnomicnfgdjdeaa.Ab
