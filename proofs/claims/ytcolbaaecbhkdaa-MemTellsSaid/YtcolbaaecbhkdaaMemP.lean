/- Accesses one after the other: plain laws. No condition. -/
import Derived.Test.YtcolbaaecbhkdaaMemA
namespace Go.Proofs.Ytcolbaaecbhkdaa.Ab
open Go.RowKit
set_option linter.unusedSimpArgs false
section
variable {m : List Int} {a : Acc} {j : Nat}
theorem do_load (hm : m.length ≤ 50000) (ho : a.op = 1) (ha : a.at_ = j) (hj : j < m.length) : doS m a = (m, ⟨m[j], true⟩, 0) := by
  simp (disch := omega) [doS, ho, ha, hj, ifF]
theorem do_store (hm : m.length ≤ 50000) (ho : a.op = 2) (ha : a.at_ = j) (hj : j < m.length) (hn : okW a.new) : doS m a = (m.set j a.new, ⟨m[j], true⟩, 0) := by
  simp (disch := omega) [doS, ho, ha, hj, ifF, hn]
theorem do_cas_t (hm : m.length ≤ 50000) (ho : a.op = 3) (ha : a.at_ = j) (hj : j < m.length) (hn : okW a.new) (hx : m[j] = a.old) : doS m a = (m.set j a.new, ⟨m[j], true⟩, 0) := by
  simp (disch := omega) [doS, ho, ha, hj, ifF, hn, hx]
theorem do_cas_f (hm : m.length ≤ 50000) (ho : a.op = 3) (ha : a.at_ = j) (hj : j < m.length) (hx : m[j] ≠ a.old) : doS m a = (m, ⟨m[j], false⟩, 0) := by
  simp (disch := omega) [doS, ho, ha, hj, ifF, hx]
theorem do_add (hm : m.length ≤ 50000) (ho : a.op = 4) (ha : a.at_ = j) (hj : j < m.length) (hn : okW (m[j] + a.new)) : doS m a = (m.set j (m[j] + a.new), ⟨m[j], true⟩, 0) := by
  simp (disch := omega) [doS, ho, ha, hj, ifF, hn]
end
def memN (m : List Int) : List Acc → List Int
  | [] => m
  | a :: l => memN (doS m a).1 l
def fndN (m : List Int) : List Acc → List Fnd
  | [] => []
  | a :: l => (doS m a).2.1 :: fndN (doS m a).1 l
def okRun (m : List Int) : List Acc → Prop
  | [] => True
  | a :: l => (doS m a).2.2 = 0 ∧ okRun (doS m a).1 l
theorem run_ok : ∀ (l : List Acc) (m : List Int) (fs : List Fnd), okRun m l → runS m fs l = .ok (memN m l, fs ++ fndN m l)
  | [], m, fs, _ => by simp [runS, memN, fndN]
  | a :: l, m, fs, h => by
    simp only [runS, memN, fndN, h.1, if_true]
    rw [run_ok l _ _ h.2]
    simp
theorem fndN_len : ∀ (l : List Acc) (m : List Int), (fndN m l).length = l.length
  | [], _ => rfl
  | a :: l, m => by simp [fndN, fndN_len l]
theorem memN_app : ∀ (l k : List Acc) (m : List Int), memN m (l ++ k) = memN (memN m l) k
  | [], _, _ => rfl
  | a :: l, k, m => by simp only [List.cons_append, memN]; exact memN_app l k _
theorem fndN_app : ∀ (l k : List Acc) (m : List Int), fndN m (l ++ k) = fndN m l ++ fndN (memN m l) k
  | [], _, _ => rfl
  | a :: l, k, m => by simp only [List.cons_append, memN, fndN]; rw [fndN_app l k _]
theorem okRun_app : ∀ (l k : List Acc) (m : List Int), okRun m (l ++ k) ↔ okRun m l ∧ okRun (memN m l) k
  | [], _, _ => by simp [okRun, memN]
  | a :: l, k, m => by simp only [List.cons_append, memN, okRun]; rw [okRun_app l k _, and_assoc]
theorem memN_take (l : List Acc) (m : List Int) (i : Nat) (h : i < l.length) : memN m (l.take (i + 1)) = (doS (memN m (l.take i)) l[i]).1 := by
  rw [List.take_add_one, memN_app]
  simp [h, memN]
theorem fndN_get : ∀ (l : List Acc) (m : List Int) (i : Nat) (h : i < l.length), (fndN m l)[i]? = some (doS (memN m (l.take i)) l[i]).2.1
  | [], _, _, h => by simp at h
  | a :: l, m, 0, _ => by simp [fndN, memN]
  | a :: l, m, i + 1, h => by
    simp only [fndN, List.getElem?_cons_succ, List.take_succ_cons, memN, List.getElem_cons_succ]
    exact fndN_get l _ i (by simpa using h)
theorem okRun_get : ∀ (l : List Acc) (m : List Int), okRun m l → ∀ (i : Nat) (h : i < l.length), (doS (memN m (l.take i)) l[i]).2.2 = 0
  | [], _, _, _, h => by simp at h
  | a :: l, m, h, 0, _ => by simpa [memN] using h.1
  | a :: l, m, h, i + 1, hi => by
    simp only [List.take_succ_cons, memN, List.getElem_cons_succ]
    exact okRun_get l _ h.2 i (by simpa using hi)
/-- Small words, and accesses that keep them small. -/
def Small (n : Nat) (B : Int) (m : List Int) : Prop := m.length = n ∧ ∀ x ∈ m, 0 ≤ x ∧ x ≤ B
def Good (n : Nat) (a : Acc) : Prop := (a.op = 1 ∨ a.op = 2 ∨ a.op = 3 ∨ a.op = 4) ∧ 0 ≤ a.at_ ∧ a.at_ < n ∧ (0 ≤ a.old ∧ a.old ≤ 3) ∧ 0 ≤ a.new ∧ a.new ≤ 3
theorem small_set {n : Nat} {B B' : Int} {m : List Int} (h : Small n B m) (hB : B ≤ B') (j : Nat) (x : Int) (hx : 0 ≤ x ∧ x ≤ B') : Small n B' (m.set j x) := by
  refine ⟨by simp [h.1], fun y hy => ?_⟩
  rcases List.mem_or_eq_of_mem_set hy with h1 | rfl
  · have := h.2 y h1; omega
  · exact hx
theorem small_do {n : Nat} {B : Int} {m : List Int} {a : Acc} (h : Small n B m) (hn : n ≤ 50000) (hB : 0 ≤ B ∧ B ≤ 1000000) (ha : Good n a) : (doS m a).2.2 = 0 ∧ Small n (B + 3) (doS m a).1 := by
  obtain ⟨h1, h2, h3, h4, h5⟩ := ha
  obtain ⟨j, hj⟩ : ∃ j : Nat, a.at_ = j := ⟨a.at_.toNat, by omega⟩
  have hl := h.1
  have hjm : j < m.length := by omega
  have hx := h.2 m[j] (List.getElem_mem _)
  have hw : okW a.new := by unfold okW; omega
  have hw' : okW (m[j] + a.new) := by unfold okW; omega
  have hs : Small n (B + 3) m := ⟨h.1, fun y hy => by have := h.2 y hy; omega⟩
  rcases h1 with ho | ho | ho | ho
  · rw [do_load (by omega) ho hj hjm]; exact ⟨rfl, hs⟩
  · rw [do_store (by omega) ho hj hjm hw]; exact ⟨rfl, small_set h (by omega) _ _ (by omega)⟩
  · by_cases hc : m[j] = a.old
    · rw [do_cas_t (by omega) ho hj hjm hw hc]; exact ⟨rfl, small_set h (by omega) _ _ (by omega)⟩
    · rw [do_cas_f (by omega) ho hj hjm hc]; exact ⟨rfl, hs⟩
  · rw [do_add (by omega) ho hj hjm hw']; exact ⟨rfl, small_set h (by omega) _ _ (by omega)⟩
theorem small_run {n : Nat} (hn : n ≤ 50000) : ∀ (l : List Acc) (m : List Int) (B : Int), Small n B m → 0 ≤ B → B + 3 * l.length ≤ 1000000 → (∀ a ∈ l, Good n a) → okRun m l ∧ Small n (B + 3 * l.length) (memN m l)
  | [], m, B, h, _, _, _ => ⟨trivial, by simpa [memN] using h⟩
  | a :: l, m, B, h, h0, hB, hg => by
    simp only [List.length_cons] at hB
    obtain ⟨h1, h2⟩ := small_do h hn ⟨h0, by omega⟩ (hg a List.mem_cons_self)
    obtain ⟨h3, h4⟩ := small_run hn l _ (B + 3) h2 (by omega) (by omega) (fun b hb => hg b (List.mem_cons_of_mem _ hb))
    refine ⟨⟨h1, h3⟩, ?_⟩
    have e : B + 3 * ((a :: l).length : Int) = B + 3 + 3 * (l.length : Int) := by simp only [List.length_cons]; omega
    rw [e]
    exact h4
theorem accOf_good (w : Nat) (hw : 0 < w) (r : Raw) : Good w (accOf w r) := by
  have h1 := pickI_lt r.a 4 (by omega)
  have h2 := pickI_lt r.b w (by omega)
  have h3 := pickI_lt r.c 4 (by omega)
  have h4 := pickI_lt r.d 4 (by omega)
  simp only [Good, accOf]
  omega
theorem good_ok {n : Nat} {a : Acc} (hn : n ≤ 50000) (h : Good n a) : a.ok := by
  obtain ⟨h1, h2, h3, h4, h5⟩ := h
  simp only [Acc.ok, i64]
  omega
end Go.Proofs.Ytcolbaaecbhkdaa.Ab
