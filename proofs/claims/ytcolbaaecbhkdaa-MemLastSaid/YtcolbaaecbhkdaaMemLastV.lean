/- MemLast by the interpreter. No condition. -/
import Derived.Test.YtcolbaaecbhkdaaMemP
namespace Go.Proofs.Ytcolbaaecbhkdaa.Ab
open Go.RowKit
set_option linter.unusedSimpArgs false
theorem last_loop (l : List Acc) (hll : l.length ≤ 40) (hg : ∀ a ∈ l, Good 5 a) (F : List Fnd) (z w : List Int) (hF : F = fndN z l) (b3 : Bool) : ∀ (k i : Nat), i + k = l.length → ∀ (sl : List (Nat × AVal)) (mem : List (Nat × Blk)) (nx b : Nat) (now : List Int),
    now = memN z (l.take i) → Small 5 (3 * i) now → lk sl 3 = .bool b3 → lk sl 4 = .list 4 (lst Acc.c l) → lk sl 5 = .list 1 (ints w) → lk sl 6 = .list 2 (lst Fnd.c F) → lk sl 8 = .vec b → mg mem b = some ⟨3, 1, ints now⟩ → lk sl 9 = .int .i64 i →
    Ends (den Γ (.loop g4l0) ⟨sl, mem, nx, true⟩) fun e sl' mem' _ pr => e = .exit 0 ∧ pr = true ∧ lk sl' 3 = .bool b3 ∧ lk sl' 5 = .list 1 (ints w) ∧ ∃ b, lk sl' 8 = .vec b ∧ mg mem' b = some ⟨3, 1, ints (memN z l)⟩ := by
  intro k
  induction k with
  | zero =>
    intro i hi sl mem nx b now hnow hs h3 h4 h5 h6 h8 hb h9
    apply Ends_loop
    conv => lhs; lhs; rw [g4l0]
    rw [List.take_of_length_le (by omega)] at hnow
    simp [h3, h4, h5, h6, h8, h9, hb, show i = l.length by omega, hnow]
  | succ k ih =>
    intro i hi sl mem nx b now hnow hs h3 h4 h5 h6 h8 hb h9
    have hil : i < l.length := by omega
    have hga := hg l[i] (List.getElem_mem _)
    have hFl : F.length = l.length := by rw [hF, fndN_len]
    have hFi : F[i]'(by omega) = (doS now l[i]).2.1 := by
      have := fndN_get l z i hil
      rw [← hF, ← hnow] at this
      rw [List.getElem?_eq_getElem (by omega)] at this
      exact Option.some.inj this
    have hnext : (doS now l[i]).1 = memN z (l.take (i + 1)) := by rw [memN_take l z i hil, ← hnow]
    obtain ⟨hd0, hsm⟩ := small_do hs (by omega) ⟨by omega, by omega⟩ hga
    have hsm' : Small 5 (3 * (i + 1 : Nat)) (doS now l[i]).1 := by
      have e : 3 * ((i + 1 : Nat) : Int) = 3 * i + 3 := by omega
      rw [e]; exact hsm
    obtain ⟨g1, g2, g3, g4, g5⟩ := hga
    obtain ⟨j, hj⟩ : ∃ j : Nat, l[i].at_ = j := ⟨l[i].at_.toNat, by omega⟩
    have hnl := hs.1
    have hjm : j < now.length := by omega
    have hx := hs.2 now[j] (List.getElem_mem _)
    have hw : okW l[i].new := by unfold okW; omega
    have hw' : okW (now[j] + l[i].new) := by unfold okW; omega
    apply Ends_loop
    conv => lhs; lhs; rw [g4l0]
    rcases g1 with ho | ho | ho | ho
    · rw [do_load (by omega) ho hj hjm] at hFi hnext hsm'
      simp (disch := omega) [h3, h4, h5, h6, h8, h9, hb, hil, hFl, hFi, Acc.c, Fnd.c, ho, hj, hjm]
      exact ih (i + 1) (by omega) _ _ _ 0 _ hnext hsm' rfl rfl rfl rfl rfl rfl rfl
    · rw [do_store (by omega) ho hj hjm hw] at hFi hnext hsm'
      simp (disch := omega) [h3, h4, h5, h6, h8, h9, hb, hil, hFl, hFi, Acc.c, Fnd.c, ho, hj, hjm]
      exact ih (i + 1) (by omega) _ _ _ 0 _ hnext hsm' rfl rfl rfl rfl rfl rfl rfl
    · by_cases hc : now[j] = l[i].old
      · rw [do_cas_t (by omega) ho hj hjm hw hc] at hFi hnext hsm'
        simp (disch := omega) [h3, h4, h5, h6, h8, h9, hb, hil, hFl, hFi, Acc.c, Fnd.c, ho, hj, hjm, hc]
        exact ih (i + 1) (by omega) _ _ _ 0 _ hnext hsm' rfl rfl rfl rfl rfl rfl rfl
      · rw [do_cas_f (by omega) ho hj hjm hc] at hFi hnext hsm'
        simp (disch := omega) [h3, h4, h5, h6, h8, h9, hb, hil, hFl, hFi, Acc.c, Fnd.c, ho, hj, hjm, hc]
        exact ih (i + 1) (by omega) _ _ _ 0 _ hnext hsm' rfl rfl rfl rfl rfl rfl rfl
    · rw [do_add (by omega) ho hj hjm hw'] at hFi hnext hsm'
      simp (disch := omega) [h3, h4, h5, h6, h8, h9, hb, hil, hFl, hFi, Acc.c, Fnd.c, ho, hj, hjm]
      exact ih (i + 1) (by omega) _ _ _ 0 _ hnext hsm' rfl rfl rfl rfl rfl rfl rfl
theorem last4 (raw : List Raw) (hll : raw.length < 1000000000000000) (hr : ∀ a ∈ raw, a.ok) : cd Γ 4 [.list 4 (lst Raw.cs raw)] = some (.bool true) := by
  rw [call (fn := g4) rfl rfl]
  apply Ends.fin
  have ha := accs16 5 (by unfold i64; omega) raw hll hr
  have hgood : ∀ a ∈ (raw.take 40).map (accOf 5), Good 5 a := by
    intro a h
    obtain ⟨r, _, rfl⟩ := List.mem_map.1 h
    exact accOf_good 5 (by omega) r
  have hlen : ((raw.take 40).map (accOf 5)).length ≤ 40 := by simp; omega
  generalize (raw.take 40).map (accOf 5) = l at ha hgood hlen
  have hz : Small 5 0 [0, 0, 0, 0, 0] := ⟨rfl, by simp⟩
  obtain ⟨hok, hsm⟩ := small_run (by omega) l _ 0 hz (by omega) (by omega) hgood
  have hp := play17 [0, 0, 0, 0, 0] l (by simp) (by simp [i64]) (by omega) (fun a h => good_ok (by omega) (hgood a h))
  rw [run_ok l _ _ hok] at hp
  have hfl := fndN_len l [0, 0, 0, 0, 0]
  generalize hF : fndN [0, 0, 0, 0, 0] l = F at hp hfl
  simp only [playV, List.nil_append] at hp
  have hp' : frzO (cd Γ 17 [.list 1 [[.int .i64 0], [.int .i64 0], [.int .i64 0], [.int .i64 0], [.int .i64 0]], .list 4 (lst Acc.c l)]) = some (.tup [.list 1 (ints (memN [0, 0, 0, 0, 0] l)), .list 2 (lst Fnd.c F), .int .i64 0]) := hp
  have hi15 := ints15 (memN [0, 0, 0, 0, 0] l) (memN [0, 0, 0, 0, 0] l) (by have := hsm.1; omega)
  simp (disch := omega) [g4, g4b, awake11, ha, hp', hfl, List.replicate]
  refine Ends.blk (last_loop l hlen hgood F [0, 0, 0, 0, 0] (memN [0, 0, 0, 0, 0] l) hF.symm true l.length 0 (by omega) _ _ _ 0 [0, 0, 0, 0, 0] rfl hz rfl rfl rfl rfl rfl rfl rfl) ?_
  rintro e sl mem nx pr ⟨rfl, rfl, h3, h5, b, h8, hb⟩
  simp [h3, h5, h8, hb, hi15]
theorem last_cd (vs : List AVal) (h : ArgsOk [kRs] vs) : cd Γ 4 vs = some (.bool true) := by
  obtain ⟨a, rfl, ha⟩ := args1 h
  obtain ⟨l, rfl, h1, hl⟩ := arg_raws ha
  exact last4 l (by omega) hl
end Go.Proofs.Ytcolbaaecbhkdaa.Ab
