/- What the document's sets come to: Has, with, without, Right, Do, Keys. No condition. -/
import Derived.Test.YtnomicnfgdjdeaaLazyK
namespace Go.Proofs.Ytnomicnfgdjdeaa.Ab
open Go.RowKit
set_option linter.unusedSimpArgs false

theorem key49 (n : Int) : cd Γ 49 [.int .i64 n] = some (.bool (decide (-1099511627776 ≤ n ∧ n ≤ 1099511627776))) := by
  rw [call (fn := g49) rfl rfl]
  by_cases h : -1099511627776 ≤ n <;> simp [g49, g49b, h]
/-- A set of small keys. -/
def SetG (s : List Int) : Prop := s.Pairwise (· < ·) ∧ ∀ x ∈ s, 0 ≤ x ∧ x ≤ 20
theorem sorted_ge : ∀ (s : List Int) (c : Int), s.Pairwise (· < ·) → (∀ x ∈ s, c ≤ x) → ∀ i (h : i < s.length), c + i ≤ s[i]
  | [], _, _, _, i, h => by simp at h
  | x :: s, c, hp, hc, 0, h => by have := hc x (by simp); simpa using this
  | x :: s, c, hp, hc, i + 1, h => by
    rw [List.pairwise_cons] at hp
    have h1 : ∀ y ∈ s, c + 1 ≤ y := fun y hy => by have := hp.1 y hy; have := hc x (by simp); omega
    have := sorted_ge s (c + 1) hp.2 h1 i (by simpa using h)
    simp only [List.getElem_cons_succ]
    omega
theorem SetG.len {s : List Int} (h : SetG s) : s.length ≤ 21 := by
  rcases Nat.eq_zero_or_pos s.length with h0 | h0
  · omega
  · have := sorted_ge s 0 h.1 (fun x hx => (h.2 x hx).1) (s.length - 1) (by omega)
    have h2 := (h.2 _ (List.getElem_mem (show s.length - 1 < s.length by omega))).2
    omega
theorem right48_loop (s : List Int) (hs : SetG s) : ∀ (k i : Nat), i + k = s.length → ∀ (sl : List (Nat × AVal)) (mem : List (Nat × Blk)) (nx : Nat),
    lk sl 0 = .list 1 (ints s) → lk sl 3 = .int .i64 i → Ends (den Γ (.loop g48l0) ⟨sl, mem, nx, true⟩) fun e sl' _ _ _ => e = .exit 0 ∧ lk sl' 0 = .list 1 (ints s) := by
  have hlen := hs.len
  intro k
  induction k with
  | zero =>
    intro i hi sl mem nx h0 h3
    apply Ends_loop
    conv => lhs; lhs; rw [g48l0]
    simp [h0, h3, show i = s.length by omega]
  | succ k ih =>
    intro i hi sl mem nx h0 h3
    have hil : i < s.length := by omega
    have hx := hs.2 _ (List.getElem_mem hil)
    apply Ends_loop
    conv => lhs; lhs; rw [g48l0]
    rcases i with _ | i
    · simp (disch := omega) [decT, decF, ifT, ifF, h0, h3, hil, key49]
      refine ih 1 (by omega) _ _ _ ?_ ?_ <;> simp
    · have hlt : s[i] < s[i + 1] := List.pairwise_iff_getElem.1 hs.1 i (i + 1) (by omega) hil (by omega)
      have e1 : ((i + 1 : Nat) : Int) - 1 = (i : Int) := by omega
      have hi0 : i < s.length := by omega
      simp (disch := omega) [decT, decF, ifT, ifF, h0, h3, hil, hi0, key49]
      refine ih (i + 2) (by omega) _ _ _ ?_ ?_ <;> simp
      omega
theorem right48 (s : List Int) (hs : SetG s) : cd Γ 48 [.list 1 (ints s)] = some (.bool true) := by
  have hlen := hs.len
  rw [call (fn := g48) rfl rfl]
  apply Ends.fin
  simp [g48, g48b]
  refine Ends.blk (right48_loop s hs s.length 0 (by omega) _ _ _ ?_ ?_) ?_
  · simp
  · simp
  · rintro e sl mem nx pr ⟨rfl, h0⟩
    simp (disch := omega) [h0, decT]
theorem has50_loop (s : List Int) (k0 : Int) (hlen : s.length < 1000000) : ∀ (k i : Nat), i + k = s.length → ∀ (r : Bool), r = decide (k0 ∈ s.drop i) → ∀ (sl : List (Nat × AVal)) (mem : List (Nat × Blk)) (nx : Nat),
    lk sl 0 = .list 1 (ints s) → lk sl 1 = .int .i64 k0 → lk sl 5 = .int .i64 i → Ends (den Γ (.loop g50l0) ⟨sl, mem, nx, true⟩) fun e sl' _ _ _ => if r then e = .ret ∧ lk sl' 4 = .bool true else e = .exit 0 := by
  intro k
  induction k with
  | zero =>
    intro i hi r hr sl mem nx h0 h1 h5
    apply Ends_loop
    conv => lhs; lhs; rw [g50l0]
    rw [List.drop_of_length_le (by omega)] at hr
    simp at hr
    simp [h0, h1, h5, show i = s.length by omega, hr]
  | succ k ih =>
    intro i hi r hr sl mem nx h0 h1 h5
    have hil : i < s.length := by omega
    apply Ends_loop
    conv => lhs; lhs; rw [g50l0]
    rw [List.drop_eq_getElem_cons hil] at hr
    by_cases h : s[i] = k0
    · simp (disch := omega) [h0, h1, h5, hil, h, hr]
    · simp (disch := omega) [h0, h1, h5, hil, h]
      refine ih (i + 1) (by omega) r (by rw [hr]; simp [Ne.symm h, -List.getElem_cons_drop]) _ _ _ ?_ ?_ ?_ <;> simp
theorem has50 (s : List Int) (k0 : Int) (hlen : s.length < 1000000) : cd Γ 50 [.list 1 (ints s), .int .i64 k0] = some (.bool (decide (k0 ∈ s))) := by
  rw [call (fn := g50) rfl rfl]
  apply Ends.fin
  simp [g50, g50b]
  refine Ends.blk (has50_loop s k0 hlen s.length 0 (by omega) _ rfl _ _ _ ?_ ?_ ?_) ?_
  all_goals first | (simp; done) | skip
  intro e sl mem nx pr
  rw [List.drop_zero]
  by_cases h : k0 ∈ s
  · simp +contextual [h]
  · simp +contextual [h]
def withL (k : Int) : List Int → List Int × Bool → List Int × Bool
  | [], p => p
  | x :: r, (o, d) => if d = false ∧ k < x then withL k r (o ++ [k, x], true) else withL k r (o ++ [x], d)
def insS (s : List Int) (k : Int) : List Int := if (withL k s ([], false)).2 then (withL k s ([], false)).1 else (withL k s ([], false)).1 ++ [k]
theorem withL_len (k : Int) : ∀ (s : List Int) (p : List Int × Bool), (withL k s p).1.length ≤ p.1.length + s.length + (if p.2 then 0 else 1)
  | [], p => by simp [withL]
  | x :: r, (o, d) => by
    simp only [withL]
    split
    · rename_i h
      have := withL_len k r (o ++ [k, x], true)
      simp [h.1] at this ⊢
      omega
    · have := withL_len k r (o ++ [x], d)
      simp at this ⊢
      omega
theorem with51_loop (s : List Int) (k0 : Int) (hlen : s.length < 1000000) : ∀ (k i : Nat), i + k = s.length → ∀ (o : List Int) (d : Bool) (sl : List (Nat × AVal)) (mem : List (Nat × Blk)) (nx b : Nat),
    o.length ≤ 2 * i → lk sl 0 = .list 1 (ints s) → lk sl 1 = .int .i64 k0 → lk sl 5 = .vec b → mg mem b = some ⟨3, 1, ints o⟩ → lk sl 6 = .bool d → lk sl 7 = .int .i64 i → ∀ R, R = withL k0 (s.drop i) (o, d) → Ends (den Γ (.loop g51l0) ⟨sl, mem, nx, true⟩) fun e sl' mem' _ _ =>
      e = .exit 0 ∧ lk sl' 1 = .int .i64 k0 ∧ lk sl' 6 = .bool R.2 ∧ ∃ b, lk sl' 5 = .vec b ∧ mg mem' b = some ⟨3, 1, ints R.1⟩ := by
  intro k
  induction k with
  | zero =>
    intro i hi o d sl mem nx b ho h0 h1 h5 hb h6 h7 R hR
    apply Ends_loop
    conv => lhs; lhs; rw [g51l0]
    rw [List.drop_of_length_le (by omega)] at hR
    simp only [withL] at hR
    subst hR
    simp [h0, h1, h5, h6, h7, hb, show i = s.length by omega]
  | succ k ih =>
    intro i hi o d sl mem nx b ho h0 h1 h5 hb h6 h7 R hR
    have hil : i < s.length := by omega
    apply Ends_loop
    conv => lhs; lhs; rw [g51l0]
    rw [List.drop_eq_getElem_cons hil] at hR
    simp only [withL] at hR
    cases d
    · by_cases h : k0 < s[i]
      · rw [if_pos ⟨rfl, h⟩] at hR
        simp (disch := omega) [h0, h1, h5, h6, h7, hb, hil, h, ifT]
        refine ih (i + 1) (by omega) (o ++ [k0, s[i]]) true _ _ _ 2 ?_ ?_ ?_ ?_ ?_ ?_ ?_ R hR
        · simp; omega
        all_goals first | (simp; done) | skip
      · rw [if_neg (fun hh => h hh.2)] at hR
        simp (disch := omega) [h0, h1, h5, h6, h7, hb, hil, h, ifT]
        refine ih (i + 1) (by omega) (o ++ [s[i]]) false _ _ _ 1 ?_ ?_ ?_ ?_ ?_ ?_ ?_ R hR
        · simp; omega
        all_goals first | (simp; done) | skip
    · rw [if_neg (fun hh => by cases hh.1)] at hR
      simp (disch := omega) [h0, h1, h5, h6, h7, hb, hil, ifT]
      refine ih (i + 1) (by omega) (o ++ [s[i]]) true _ _ _ 1 ?_ ?_ ?_ ?_ ?_ ?_ ?_ R hR
      · simp; omega
      all_goals first | (simp; done) | skip
theorem with51 (s : List Int) (k0 : Int) (hlen : s.length < 1000000) : cd Γ 51 [.list 1 (ints s), .int .i64 k0] = some (.own 3 1 (ints (insS s k0))) := by
  rw [call (fn := g51) rfl rfl]
  apply Ends.fin
  simp [g51, g51b]
  refine Ends.blk (with51_loop s k0 hlen s.length 0 (by omega) [] false _ _ _ 0 ?_ ?_ ?_ ?_ ?_ ?_ ?_ _ rfl) ?_
  all_goals first | (simp; done) | skip
  rintro e sl mem nx pr ⟨rfl, h1, h6, b, h5, hb⟩
  have hl := withL_len k0 s ([], false)
  unfold insS
  simp only [List.drop_zero] at h6 hb
  generalize withL k0 s ([], false) = R at hl h6 hb ⊢
  obtain ⟨o, d⟩ := R
  simp at hl
  cases d <;> simp (disch := omega) [h1, h5, h6, hb, ifT]
def dropS (s : List Int) (k : Int) : List Int := s.filter (fun x => decide (x ≠ k))
theorem without52_loop (s : List Int) (k0 : Int) (hlen : s.length < 1000000) : ∀ (k i : Nat), i + k = s.length → ∀ (o : List Int) (sl : List (Nat × AVal)) (mem : List (Nat × Blk)) (nx b : Nat),
    o.length ≤ i → lk sl 0 = .list 1 (ints s) → lk sl 1 = .int .i64 k0 → lk sl 5 = .vec b → mg mem b = some ⟨3, 1, ints o⟩ → lk sl 6 = .int .i64 i → ∀ R, R = o ++ dropS (s.drop i) k0 → Ends (den Γ (.loop g52l0) ⟨sl, mem, nx, true⟩) fun e sl' mem' _ _ =>
      e = .exit 0 ∧ ∃ b, lk sl' 5 = .vec b ∧ mg mem' b = some ⟨3, 1, ints R⟩ := by
  intro k
  induction k with
  | zero =>
    intro i hi o sl mem nx b ho h0 h1 h5 hb h6 R hR
    apply Ends_loop
    conv => lhs; lhs; rw [g52l0]
    rw [List.drop_of_length_le (by omega)] at hR
    simp only [dropS, List.filter_nil, List.append_nil] at hR
    subst hR
    simp [h0, h1, h5, h6, hb, show i = s.length by omega]
  | succ k ih =>
    intro i hi o sl mem nx b ho h0 h1 h5 hb h6 R hR
    have hil : i < s.length := by omega
    apply Ends_loop
    conv => lhs; lhs; rw [g52l0]
    rw [List.drop_eq_getElem_cons hil] at hR
    by_cases h : s[i] = k0
    · simp (disch := omega) [h0, h1, h5, h6, hb, hil, h, ifT]
      refine ih (i + 1) (by omega) o _ _ _ 0 (by omega) ?_ ?_ ?_ ?_ ?_ R (by rw [hR]; simp [dropS, h, -List.getElem_cons_drop])
      all_goals first | (simp; done) | skip
    · simp (disch := omega) [h0, h1, h5, h6, hb, hil, h, ifT]
      refine ih (i + 1) (by omega) (o ++ [s[i]]) _ _ _ 1 (by simp; omega) ?_ ?_ ?_ ?_ ?_ R (by rw [hR]; simp [dropS, h, -List.getElem_cons_drop])
      all_goals first | (simp; done) | skip
theorem without52 (s : List Int) (k0 : Int) (hlen : s.length < 1000000) : cd Γ 52 [.list 1 (ints s), .int .i64 k0] = some (.own 3 1 (ints (dropS s k0))) := by
  rw [call (fn := g52) rfl rfl]
  apply Ends.fin
  simp [g52, g52b]
  refine Ends.blk (without52_loop s k0 hlen s.length 0 (by omega) [] _ _ _ 0 ?_ ?_ ?_ ?_ ?_ ?_ _ rfl) ?_
  all_goals first | (simp; done) | skip
  rintro e sl mem nx pr ⟨rfl, b, h5, hb⟩
  simp [h5, hb]
def doR (s : List Int) (kind k : Int) : List Int × Int :=
  if kind = 1 then (if k ∈ s then (s, 0) else (insS s k, 1))
  else if kind = 2 then (if k ∈ s then (dropS s k, 1) else (s, 0))
  else (s, if k ∈ s then 1 else 0)
set_option maxHeartbeats 1000000 in
theorem do26 (s : List Int) (kind k : Int) (hs : SetG s) (hk : 0 ≤ k ∧ k ≤ 20) (hkd : kind = 1 ∨ kind = 2 ∨ kind = 3) :
    cd Γ 26 [.list 1 (ints s), .int .i64 kind, .int .i64 k] = some (.tup [.list 1 (ints (doR s kind k).1), .int .i64 (doR s kind k).2, .int .i64 0]) := by
  have hlen := hs.len
  rw [call (fn := g26) rfl rfl]
  have q1 := right48 s hs
  have q2 := has50 s k (by omega)
  have q3 := with51 s k (by omega)
  have q4 := without52 s k (by omega)
  unfold doR
  by_cases h : k ∈ s
  · rcases hkd with rfl | rfl | rfl <;> simp (disch := omega) [g26, g26b, q1, q2, q3, q4, h, key49, decT, decF, ifT, ifF]
  · rcases hkd with rfl | rfl | rfl <;> simp (disch := omega) [g26, g26b, q1, q2, q3, q4, h, key49, decT, decF, ifT, ifF]
end Go.Proofs.Ytnomicnfgdjdeaa.Ab
