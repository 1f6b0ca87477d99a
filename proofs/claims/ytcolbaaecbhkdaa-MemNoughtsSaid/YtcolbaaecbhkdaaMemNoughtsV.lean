/- MemNoughts by the interpreter. No condition. -/
import Derived.Test.YtcolbaaecbhkdaaMemP
namespace Go.Proofs.Ytcolbaaecbhkdaa.Ab
open Go.RowKit
set_option linter.unusedSimpArgs false
theorem undone (m : List Int) (a : Acc) : (doS m a).2.1.d = false → (doS m a).1 = m := by
  unfold doS
  generalize (if a.op = 4 then m.getD a.at_.toNat 0 + a.new else a.new) = t
  repeat' split
  all_goals simp
def noughtQ (z : List Int) (sl : List (Nat × AVal)) (mem : List (Nat × Blk)) : Prop :=
  ∃ (b : Nat) (X : List Acc) (now : List Int), lk sl 3 = .bool true ∧ lk sl 5 = .list 1 (ints z) ∧ lk sl 6 = .list 1 (ints now) ∧ lk sl 7 = .vec b ∧ mg mem b = some ⟨25, 4, lst Acc.c X⟩ ∧
    okRun z X ∧ memN z X = now ∧ X.length ≤ 40 ∧ (∀ a ∈ X, Good 4 a) ∧ now.length = 4
theorem noughts_loop (l : List Acc) (hll : l.length ≤ 40) (hg : ∀ a ∈ l, Good 4 a) (z : List Int) : ∀ (k i : Nat), i + k = l.length → ∀ (sl : List (Nat × AVal)) (mem : List (Nat × Blk)) (nx b : Nat) (now : List Int) (X : List Acc),
    Small 4 (3 + 3 * i) now → okRun z X → memN z X = now → X.length ≤ i → (∀ a ∈ X, Good 4 a) →
    lk sl 3 = .bool true → lk sl 4 = .list 4 (lst Acc.c l) → lk sl 5 = .list 1 (ints z) → lk sl 6 = .list 1 (ints now) → lk sl 7 = .vec b → mg mem b = some ⟨25, 4, lst Acc.c X⟩ → lk sl 8 = .int .i64 i →
    Ends (den Γ (.loop g10l0) ⟨sl, mem, nx, true⟩) fun e sl' mem' _ pr => e = .exit 0 ∧ pr = true ∧ noughtQ z sl' mem' := by
  intro k
  induction k with
  | zero =>
    intro i hi sl mem nx b now X hs hok hmn hX hXg h3 h4 h5 h6 h7 hb h8
    apply Ends_loop
    conv => lhs; lhs; rw [g10l0]
    simp [h3, h4, h5, h6, h7, h8, hb, show i = l.length by omega]
    exact ⟨0, X, now, rfl, rfl, rfl, rfl, rfl, hok, hmn, by omega, hXg, hs.1⟩
  | succ k ih =>
    intro i hi sl mem nx b now X hs hok hmn hX hXg h3 h4 h5 h6 h7 hb h8
    have hil : i < l.length := by omega
    have hga := hg l[i] (List.getElem_mem _)
    obtain ⟨hd0, hsm⟩ := small_do hs (by omega) ⟨by omega, by omega⟩ hga
    have hnl := hs.1
    have hd := do13 now l[i] (by omega) (fun n hn => by have := hs.2 n hn; unfold i64; omega) (good_ok (by omega) hga)
    have hun := undone now l[i]
    have hrun : okRun z (X ++ [l[i]]) := by
      rw [okRun_app, hmn]
      exact ⟨hok, hd0, trivial⟩
    have hmem : memN z (X ++ [l[i]]) = (doS now l[i]).1 := by
      rw [memN_app, hmn]; rfl
    unfold own3 at hd
    rw [hd0] at hd
    have hsl := hsm.1
    have hsm' : Small 4 (3 + 3 * (i + 1 : Nat)) (doS now l[i]).1 := by
      have e : 3 + 3 * ((i + 1 : Nat) : Int) = 3 + 3 * i + 3 := by omega
      rw [e]; exact hsm
    have hi15 := ints15 (doS now l[i]).1 now (by omega)
    generalize (doS now l[i]).1 = M at *
    generalize (doS now l[i]).2.1 = f at *
    apply Ends_loop
    conv => lhs; lhs; rw [g10l0]
    by_cases hM : M = now
    · subst hM
      cases hfd : f.d with
      | true =>
        simp (disch := omega) [h3, h4, h5, h6, h7, h8, hb, hil, hd, hi15, hsl, Fnd.c, hfd]
        refine ih (i + 1) (by omega) _ _ _ 0 M X hsm' hok hmn (by omega) hXg ?_ ?_ ?_ ?_ ?_ ?_ ?_ <;> simp [Fnd.c]
      | false =>
        simp (disch := omega) [h3, h4, h5, h6, h7, h8, hb, hil, hd, hi15, hsl, Fnd.c, hfd]
        refine ih (i + 1) (by omega) _ _ _ 0 M X hsm' hok hmn (by omega) hXg ?_ ?_ ?_ ?_ ?_ ?_ ?_ <;> simp [Fnd.c]
    · have hfd : f.d = true := by
        cases hfd : f.d with
        | true => rfl
        | false => exact absurd (hun hfd) hM
      simp (disch := omega) [h3, h4, h5, h6, h7, h8, hb, hil, hd, hi15, hsl, hM, Fnd.c, hfd, ifT]
      refine ih (i + 1) (by omega) _ _ _ 2 M (X ++ [l[i]]) hsm' hrun hmem (by simp; omega) ?_ ?_ ?_ ?_ ?_ ?_ ?_ ?_
      · intro a ha
        rcases List.mem_append.1 ha with ha | ha
        · exact hXg a ha
        · simp at ha; subst ha; exact hga
      all_goals simp [Fnd.c]
theorem noughts10 (raw : List Raw) (hll : raw.length < 1000000000000000) (hr : ∀ a ∈ raw, a.ok) : cd Γ 10 [.list 4 (lst Raw.cs raw)] = some (.bool true) := by
  rw [call (fn := g10) rfl rfl]
  apply Ends.fin
  have ha := accs16 4 (by unfold i64; omega) raw hll hr
  have hgood : ∀ a ∈ (raw.take 40).map (accOf 4), Good 4 a := by
    intro a h
    obtain ⟨r, _, rfl⟩ := List.mem_map.1 h
    exact accOf_good 4 (by omega) r
  have hlen : ((raw.take 40).map (accOf 4)).length ≤ 40 := by simp; omega
  generalize (raw.take 40).map (accOf 4) = l at ha hgood hlen
  have hz : Small 4 (3 + 3 * (0 : Nat)) [0, 1, 2, 3] := ⟨rfl, by simp⟩
  simp (disch := omega) [g10, g10b, awake11, ha, List.replicate]
  refine Ends.blk (noughts_loop l hlen hgood [0, 1, 2, 3] l.length 0 (by omega) _ _ _ 0 [0, 1, 2, 3] [] hz trivial rfl (by simp) (by simp) rfl rfl rfl rfl rfl rfl rfl) ?_
  rintro e sl mem nx pr ⟨rfl, rfl, b, X, now, h3, h5, h6, h7, hb, hok, hmn, hXl, hXg, hnl⟩
  have hp := play17 [0, 1, 2, 3] X (by simp) (by simp [i64]) (by omega) (fun a h => good_ok (by omega) (hXg a h))
  rw [run_ok X _ _ hok, hmn] at hp
  simp only [playV, List.nil_append] at hp
  have hi15 := ints15 now now (by omega)
  simp (disch := omega) [h3, h5, h6, h7, hb, hp, hi15]
theorem noughts_cd (vs : List AVal) (h : ArgsOk [kRs] vs) : cd Γ 10 vs = some (.bool true) := by
  obtain ⟨a, rfl, ha⟩ := args1 h
  obtain ⟨l, rfl, h1, hl⟩ := arg_raws ha
  exact noughts10 l (by omega) hl
end Go.Proofs.Ytcolbaaecbhkdaa.Ab
