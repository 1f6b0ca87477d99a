/- What Play, refPlay, SameFound and Accesses come to. No condition. -/
import Derived.Test.YtcolbaaecbhkdaaMemV
namespace Go.Proofs.Ytcolbaaecbhkdaa.Ab
open Go.RowKit
set_option linter.unusedSimpArgs false
theorem awake11 : cd Γ 11 [] = some (.bool true) := cd_iff.2 ⟨60, by kernel_rfl⟩
/-- Accesses, one after the other. -/
def runS : List Int → List Fnd → List Acc → Except Int (List Int × List Fnd)
  | m, fs, [] => .ok (m, fs)
  | m, fs, a :: l => if (doS m a).2.2 = 0 then runS (doS m a).1 (fs ++ [(doS m a).2.1]) l else .error (doS m a).2.2
theorem doS_len (m : List Int) (a : Acc) : (doS m a).1.length = m.length := by
  unfold doS
  generalize (if a.op = 4 then m.getD a.at_.toNat 0 + a.new else a.new) = t
  repeat (split; · simp)
  rfl
theorem doS_i64 (m : List Int) (a : Acc) (h : ∀ n ∈ m, i64 n) : ∀ n ∈ (doS m a).1, i64 n := by
  unfold doS
  generalize (if a.op = 4 then m.getD a.at_.toNat 0 + a.new else a.new) = t
  repeat (split; · first | exact h | (rename_i hw; intro n hn; rcases List.mem_or_eq_of_mem_set hn with h1 | h1; exact h n h1; subst h1; unfold okW at hw; unfold i64; omega))
  exact h
def playV (r : Except Int (List Int × List Fnd)) (m : List Int) : AVal :=
  match r with
  | .ok (w, fs) => .tup [.list 1 (ints w), .list 2 (lst Fnd.c fs), .int .i64 0]
  | .error e => .tup [.list 1 (ints m), .list 2 [], .int .i64 e]
def playQ (r : Except Int (List Int × List Fnd)) (m : List Int) (e : AExit) (sl : List (Nat × AVal)) (mem : List (Nat × Blk)) : Prop :=
  match r with
  | .ok (w, fs) => e = .exit 0 ∧ lk sl 7 = .list 1 (ints w) ∧ ∃ b, lk sl 8 = .vec b ∧ mg mem b = some ⟨30, 2, lst Fnd.c fs⟩
  | .error er => e = .ret ∧ lk sl 4 = .list 1 (ints m) ∧ lk sl 5 = .list 2 [] ∧ lk sl 6 = .int .i64 er
theorem play17_loop (m0 : List Int) (l : List Acc) (hm0 : m0.length * 8 ≤ 140737488355328) (hll : l.length < 1000000000000) (hl : ∀ a ∈ l, a.ok) : ∀ (k i : Nat), i + k = l.length → ∀ (m : List Int) (fs : List Fnd) (sl : List (Nat × AVal)) (mem : List (Nat × Blk)) (nx b : Nat),
    m.length * 8 ≤ 140737488355328 → (∀ n ∈ m, i64 n) → fs.length = i → lk sl 0 = .list 1 (ints m0) → lk sl 7 = .list 1 (ints m) → lk sl 8 = .vec b → mg mem b = some ⟨30, 2, lst Fnd.c fs⟩ → lk sl 16 = .list 4 (lst Acc.c l) → lk sl 17 = .int .i64 l.length → lk sl 18 = .int .i64 i →
    ∀ r, r = runS m fs (l.drop i) → Ends (den Γ (.loop g17l0) ⟨sl, mem, nx, true⟩) fun e sl' mem' _ _ => playQ r m0 e sl' mem' := by
  intro k
  induction k with
  | zero =>
    intro i hi m fs sl mem nx b hm hmi hfs h0 h7 h8 hb h16 h17 h18 r hr
    apply Ends_loop
    conv => lhs; lhs; rw [g17l0]
    rw [List.drop_of_length_le (by omega)] at hr
    subst hr
    simp [h0, h7, h8, h16, h17, h18, hb, show i = l.length by omega, playQ, runS]
  | succ k ih =>
    intro i hi m fs sl mem nx b hm hmi hfs h0 h7 h8 hb h16 h17 h18 r hr
    have hil : i < l.length := by omega
    rw [List.drop_eq_getElem_cons hil] at hr
    apply Ends_loop
    conv => lhs; lhs; rw [g17l0]
    have hd := do13 m l[i] hm hmi (hl _ (List.getElem_mem _))
    unfold own3 at hd
    by_cases he : (doS m l[i]).2.2 = 0
    · simp (disch := omega) [h0, h7, h8, h16, h17, h18, hb, hil, hd, he, ifT]
      refine ih (i + 1) (by omega) (doS m l[i]).1 (fs ++ [(doS m l[i]).2.1]) _ _ _ 3 ?_ ?_ ?_ ?_ ?_ ?_ ?_ ?_ ?_ ?_ r ?_
      · rw [doS_len]; exact hm
      · exact doS_i64 m _ hmi
      · simp [hfs]
      all_goals first | (simp; done) | skip
      simp [hr, runS, he]
    · have hc := clone20 m0 hm0
      simp (disch := omega) [h0, h7, h8, h16, h17, h18, hb, hil, hd, he, hc]
      simp [hr, runS, he, playQ]
theorem play17 (m : List Int) (l : List Acc) (hm : m.length * 8 ≤ 140737488355328) (hmi : ∀ n ∈ m, i64 n) (hll : l.length < 1000000000000) (hl : ∀ a ∈ l, a.ok) :
    frzO (cd Γ 17 [.list 1 (ints m), .list 4 (lst Acc.c l)]) = some (playV (runS m [] l) m) := by
  have : ∃ v, cd Γ 17 [.list 1 (ints m), .list 4 (lst Acc.c l)] = some v ∧ v.frz = playV (runS m [] l) m := by
    cases hr : runS m [] l with
    | ok p =>
      obtain ⟨w, fs⟩ := p
      refine ⟨.tup [.list 1 (ints w), .own 30 2 (lst Fnd.c fs), .int .i64 0], ?_, rfl⟩
      rw [call (fn := g17) rfl rfl]
      apply Ends.fin
      have hc := clone20 m hm
      simp [g17, g17b, hc]
      refine Ends.blk (play17_loop m l hm hll hl l.length 0 (by omega) m [] _ _ _ 0 hm hmi rfl rfl rfl rfl rfl rfl rfl rfl _ rfl) ?_
      simp only [List.drop_zero, hr, playQ]
      rintro e sl mem nx pr ⟨rfl, h7, b, h8, hb⟩
      simp [h7, h8, hb]
    | error er =>
      refine ⟨.tup [.list 1 (ints m), .list 2 [], .int .i64 er], ?_, rfl⟩
      rw [call (fn := g17) rfl rfl]
      apply Ends.fin
      have hc := clone20 m hm
      simp [g17, g17b, hc]
      refine Ends.blk (play17_loop m l hm hll hl l.length 0 (by omega) m [] _ _ _ 0 hm hmi rfl rfl rfl rfl rfl rfl rfl rfl _ rfl) ?_
      simp only [List.drop_zero, hr, playQ]
      rintro e sl mem nx pr ⟨rfl, h4, h5, h6⟩
      simp [h4, h5, h6]
  obtain ⟨v, h1, h2⟩ := this
  rw [h1, frzO_s, h2]
end Go.Proofs.Ytcolbaaecbhkdaa.Ab
