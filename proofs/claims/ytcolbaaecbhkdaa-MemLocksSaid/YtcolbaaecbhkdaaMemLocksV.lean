/- MemLocks by the interpreter. No condition. -/
import Derived.Test.YtcolbaaecbhkdaaMemP
namespace Go.Proofs.Ytcolbaaecbhkdaa.Ab
open Go.RowKit
set_option linter.unusedSimpArgs false
theorem Pair.c_len (a : Pair) : a.c.length = 2 := rfl
theorem Pair.c_nr (a : Pair) : a.c.all AVal.noRef = true := rfl
attribute [simp] Pair.c_len Pair.c_nr
theorem locks_loop (l : List Pair) (hll : l.length < 1000000000000000) (hl : ∀ a ∈ l, a.ok) : ∀ (k i : Nat), i + k = min l.length 40 → ∀ (sl : List (Nat × AVal)) (mem : List (Nat × Blk)) (nx : Nat) (q : Int) (m : List Int), m = [q + 1] → (-1 ≤ q ∧ q ≤ 3) →
    lk sl 0 = .list 2 (lst Pair.c l) → lk sl 3 = .bool true → lk sl 4 = .list 1 (ints m) → lk sl 5 = .int .i64 q → lk sl 6 = .int .i64 i →
    Ends (den Γ (.loop g8l0) ⟨sl, mem, nx, true⟩) fun e sl' _ _ pr => e = .exit 0 ∧ pr = true ∧ lk sl' 3 = .bool true := by
  intro k
  induction k with
  | zero =>
    intro i hi sl mem nx q m hm hq h0 h3 h4 h5 h6
    apply Ends_loop
    conv => lhs; lhs; rw [g8l0]
    by_cases hi4 : l.length ≤ 40
    · simp (disch := omega) [h0, h3, h4, h5, h6, show i = l.length by omega]
    · simp (disch := omega) [h0, h3, h4, h5, h6, decT, decF, show i = 40 by omega]
  | succ k ih =>
    intro i hi sl mem nx q m hm hq h0 h3 h4 h5 h6
    have hil : i < l.length := by omega
    obtain ⟨r1, r2⟩ := hl l[i] (List.getElem_mem _)
    have p1 := pick12 l[i].a 4 r1 (by omega)
    have p2 := pick12 l[i].b 2 r2 (by omega)
    have q1 := pickI_lt l[i].a 4 (by omega)
    have q2 := pickI_lt l[i].b 2 (by omega)
    generalize pickI l[i].a 4 = who at p1 q1
    generalize pickI l[i].b 2 = two at p2 q2
    have hm8 : m.length * 8 ≤ 140737488355328 := by rw [hm]; simp
    have hmi : ∀ n ∈ m, i64 n := by rw [hm]; intro n hn; simp at hn; subst hn; unfold i64; omega
    have hml : m.length = 1 := by rw [hm]; rfl
    have hm0 : m[0] = q + 1 := by subst hm; rfl
    apply Ends_loop
    conv => lhs; lhs; rw [g8l0]
    by_cases ht : two = 0
    · subst ht
      have hd := do13 m ⟨3, 0, 0, who + 1⟩ hm8 hmi (by simp only [Acc.ok, i64]; omega)
      have hw : okW (who + 1) := by unfold okW; omega
      by_cases hneg : q = -1
      · rw [do_cas_t (j := 0) (by omega) rfl rfl (by omega) hw (by rw [hm0, hneg]; rfl)] at hd
        obtain ⟨M, hMd⟩ : ∃ M, M = m.set 0 (who + 1) := ⟨_, rfl⟩
        simp only [own3, Acc.c, Fnd.c, ← hMd] at hd
        have hM : M = [who + 1] := by rw [hMd, hm]; rfl
        have hMl : M.length = 1 := by rw [hM]; rfl
        have hM0 : M[0] = who + 1 := by subst hM; rfl
        simp (disch := omega) [h0, h3, h4, h5, h6, hil, Pair.c, p1, p2, decT, decF, hd, hMl, hM0, hneg]
        refine ih (i + 1) (by omega) _ _ _ who M hM (by omega) ?_ ?_ ?_ ?_ ?_ <;> simp
      · rw [do_cas_f (j := 0) (by omega) rfl rfl (by omega) (by rw [hm0]; simp; omega)] at hd
        simp only [own3, Acc.c, Fnd.c] at hd
        simp (disch := omega) [h0, h3, h4, h5, h6, hil, Pair.c, p1, p2, decT, decF, hd, hml, hm0]
        refine ih (i + 1) (by omega) _ _ _ q m hm (by omega) ?_ ?_ ?_ ?_ ?_ <;> simp
    · by_cases hh : q = who
      · have hd := do13 m ⟨2, 0, 0, 0⟩ hm8 hmi (by simp only [Acc.ok, i64]; omega)
        rw [do_store (j := 0) (by omega) rfl rfl (by omega) (by unfold okW; simp)] at hd
        obtain ⟨M, hMd⟩ : ∃ M, M = m.set 0 0 := ⟨_, rfl⟩
        simp only [own3, Acc.c, Fnd.c, hm0, ← hMd] at hd
        have hM : M = [-1 + 1] := by rw [hMd, hm]; rfl
        have hMl : M.length = 1 := by rw [hM]; rfl
        have hM0 : M[0] = 0 := by subst hM; rfl
        simp (disch := omega) [h0, h3, h4, h5, h6, hil, Pair.c, p1, p2, decT, decF, hd, hMl, hM0, hh, ht]
        refine ih (i + 1) (by omega) _ _ _ (-1) M hM (by omega) ?_ ?_ ?_ ?_ ?_ <;> simp
      · simp (disch := omega) [h0, h3, h4, h5, h6, hil, Pair.c, p1, p2, decT, decF, ht, hh, hml, hm0]
        refine ih (i + 1) (by omega) _ _ _ q m hm (by omega) ?_ ?_ ?_ ?_ ?_ <;> simp
theorem locks8 (l : List Pair) (hll : l.length < 1000000000000000) (hl : ∀ a ∈ l, a.ok) : cd Γ 8 [.list 2 (lst Pair.c l)] = some (.bool true) := by
  rw [call (fn := g8) rfl rfl]
  apply Ends.fin
  simp [g8, g8b, awake11]
  refine Ends.blk (locks_loop l hll hl (min l.length 40) 0 (by omega) _ _ _ (-1) [0] rfl (by omega) rfl rfl rfl rfl rfl) ?_
  rintro e sl mem nx pr ⟨rfl, rfl, h3⟩
  simp [h3]
theorem locks_cd (vs : List AVal) (h : ArgsOk [kPs] vs) : cd Γ 8 vs = some (.bool true) := by
  obtain ⟨a, rfl, ha⟩ := args1 h
  obtain ⟨l, rfl, h1, hl⟩ := arg_pairs ha
  exact locks8 l (by omega) hl
end Go.Proofs.Ytcolbaaecbhkdaa.Ab
