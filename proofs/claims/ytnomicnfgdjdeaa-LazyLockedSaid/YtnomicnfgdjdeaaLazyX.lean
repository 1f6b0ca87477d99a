/- What Make makes is a chain on which nobody works. In plain Lean. No condition. -/
import Derived.Test.YtnomicnfgdjdeaaLazyF
namespace Go.Proofs.Ytnomicnfgdjdeaa.Ab
open Go.RowKit

def qR : Nat → List Int → List Node
  | _, [] => []
  | i, k :: r => (i + 2, k) :: qR (i + 1) r
theorem qR_kys : ∀ (s : List Int) (i : Nat), kys (qR i s) = s
  | [], _ => rfl
  | k :: r, i => by simp only [qR, kys_cons, qR_kys r (i + 1)]
theorem qR_len : ∀ (s : List Int) (i : Nat), (qR i s).length = s.length
  | [], _ => rfl
  | k :: r, i => by simp [qR, qR_len r]
theorem qR_mem : ∀ (s : List Int) (i : Nat), ∀ x ∈ qR i s, i + 2 ≤ x.1 ∧ x.1 < i + 2 + s.length ∧ x.2 ∈ s
  | [], _, x, h => by simp [qR] at h
  | k :: r, i, x, h => by
    simp only [qR, List.mem_cons] at h
    rcases h with rfl | h
    · simp
    · have := qR_mem r (i + 1) x h
      simp only [List.length_cons, List.mem_cons]
      exact ⟨by omega, by omega, .inr this.2.2⟩
theorem qR_nodup : ∀ (s : List Int) (i : Nat), ((qR i s).map (fun x : Node => x.1)).Nodup
  | [], _ => by simp [qR]
  | k :: r, i => by
    simp only [qR, List.map_cons, List.nodup_cons]
    refine ⟨fun hm => ?_, qR_nodup r (i + 1)⟩
    obtain ⟨x, hx, e⟩ := List.mem_map.1 hm
    have := qR_mem r (i + 1) x hx
    omega
theorem qR_sorted : ∀ (s : List Int) (i : Nat), s.Pairwise (· < ·) → (qR i s).Pairwise (fun (x y : Node) => x.2 < y.2)
  | [], _, _ => by simp [qR]
  | k :: r, i, h => by
    rw [List.pairwise_cons] at h
    simp only [qR, List.pairwise_cons]
    exact ⟨fun x hx => h.1 _ (qR_mem r (i + 1) x hx).2.2, qR_sorted r (i + 1) h.2⟩
theorem getD_app_l (l1 l2 : List Int) (i : Nat) (h : i < l1.length) : (l1 ++ l2).getD i 0 = l1.getD i 0 := by
  rw [List.getD_eq_getElem?_getD, List.getD_eq_getElem?_getD, List.getElem?_append_left h]
theorem getD_app_r (l1 l2 : List Int) (i : Nat) (h : l1.length ≤ i) : (l1 ++ l2).getD i 0 = l2.getD (i - l1.length) 0 := by
  rw [List.getD_eq_getElem?_getD, List.getD_eq_getElem?_getD, List.getElem?_append_right h]
theorem nodesR_get : ∀ (s : List Int) (i0 i : Nat) (h : i < s.length), (nodesR i0 s).getD (4 * i) 0 = s[i] ∧ (nodesR i0 s).getD (4 * i + 1) 0 = (if i + 1 = s.length then 1 else 3 + ((i0 + i : Nat) : Int)) ∧ (nodesR i0 s).getD (4 * i + 2) 0 = 0 ∧ (nodesR i0 s).getD (4 * i + 3) 0 = 0
  | [], _, i, h => by simp at h
  | k :: r, i0, 0, _ => by
    simp only [nodesR]
    cases r with
    | nil => simp
    | cons y r => simp
  | k :: r, i0, i + 1, h => by
    have ih := nodesR_get r (i0 + 1) i (by simpa using h)
    simp only [nodesR]
    have e : ∀ j, 4 ≤ j → (([k, if r = [] then 1 else 3 + (i0 : Int), 0, 0] : List Int) ++ nodesR (i0 + 1) r).getD j 0 = (nodesR (i0 + 1) r).getD (j - 4) 0 := fun j hj => getD_app_r _ _ _ (by simpa using hj)
    rw [e _ (by omega), e _ (by omega), e _ (by omega), e _ (by omega)]
    rw [show 4 * (i + 1) - 4 = 4 * i by omega, show 4 * (i + 1) + 1 - 4 = 4 * i + 1 by omega, show 4 * (i + 1) + 2 - 4 = 4 * i + 2 by omega, show 4 * (i + 1) + 3 - 4 = 4 * i + 3 by omega]
    refine ⟨by simpa using ih.1, ?_, ih.2.2.1, ih.2.2.2⟩
    rw [ih.2.1]
    simp only [List.length_cons]
    by_cases hc : i + 1 = r.length
    · rw [if_pos hc, if_pos (by omega)]
    · rw [if_neg hc, if_neg (by omega)]
      omega
section
variable (s : List Int) (more : Nat)
theorem W_head (j : Nat) (hj : j < 4) : W (makeS s more) 0 j = (headS s).getD j 0 := by
  unfold W makeS
  rw [getD_app_l _ _ _ (by simp [headS]; omega), getD_app_l _ _ _ (by simp [headS]; omega)]
  simp
theorem W_tail (j : Nat) (hj : j < 4) : W (makeS s more) 1 j = (headS s).getD (4 + j) 0 := by
  unfold W makeS
  rw [getD_app_l _ _ _ (by simp [headS]; omega), getD_app_l _ _ _ (by simp [headS]; omega)]
theorem W_node (i j : Nat) (h : i < s.length) (hj : j < 4) : W (makeS s more) (i + 2) j = (nodesR 0 s).getD (4 * i + j) 0 := by
  unfold W makeS
  have h8 : (headS s).length = 8 := by simp [headS]
  rw [getD_app_l _ _ _ (by rw [List.length_append, nodesR_len, h8]; omega), getD_app_r _ _ _ (by rw [h8]; omega), h8]
  congr 1
  omega
theorem W_spare (n j : Nat) (h : s.length + 2 ≤ n) : W (makeS s more) n j = 0 := by
  unfold W makeS
  have h8 : (headS s).length = 8 := by simp [headS]
  rw [getD_app_r _ _ _ (by rw [List.length_append, nodesR_len, h8]; omega)]
  rw [List.getD_eq_getElem?_getD, List.getElem?_replicate]
  split <;> rfl
end
theorem makeS_lk (s : List Int) (more : Nat) : ∀ (i : Nat), i ≤ s.length → Lk (makeS s more) (qR i (s.drop i) ++ [(1, Big)]) := by
  have hlen := makeS_len s more
  have key : ∀ (k i : Nat), i + k = s.length → Lk (makeS s more) (qR i (s.drop i) ++ [(1, Big)]) := by
    intro k
    induction k with
    | zero =>
      intro i hi
      rw [List.drop_of_length_le (by omega)]
      simp only [qR, List.nil_append, Lk, Nd]
      refine ⟨by omega, ?_, ?_⟩
      · rw [W_tail s more 0 (by omega)]; rfl
      · rw [W_tail s more 3 (by omega)]; rfl
    | succ k ih =>
      intro i hi
      have hil : i < s.length := by omega
      rw [List.drop_eq_getElem_cons hil]
      simp only [qR, List.cons_append]
      obtain ⟨g0, g1, _, g3⟩ := nodesR_get s 0 i hil
      have nd : Nd (makeS s more) (i + 2, s[i]) := by
        refine ⟨by simp only; omega, ?_, ?_⟩
        · simp only; rw [W_node s more i 0 hil (by omega)]; exact g0
        · simp only; rw [W_node s more i 3 hil (by omega)]; exact g3
      have ihh := ih (i + 1) (by omega)
      by_cases hc : i + 1 = s.length
      · rw [List.drop_of_length_le (by omega)] at ihh ⊢
        simp only [qR, List.nil_append] at ihh ⊢
        refine ⟨nd, ?_, ihh⟩
        simp only
        rw [W_node s more i 1 hil (by omega), g1, if_pos hc]; rfl
      · rw [List.drop_eq_getElem_cons (show i + 1 < s.length by omega)] at ihh ⊢
        simp only [qR, List.cons_append] at ihh ⊢
        refine ⟨nd, ?_, ihh⟩
        simp only
        rw [W_node s more i 1 hil (by omega), g1, if_neg hc]
        omega
  intro i hi
  exact key (s.length - i) i (by omega)
theorem makeS_ch {s : List Int} (hs : SetG s) {more : Nat} (hm : more ≤ 40) : Ch (makeS s more) (qR 0 s) := by
  have hlen := makeS_len s more
  have hsl := hs.len
  have hL := makeS_lk s more 0 (Nat.zero_le _)
  rw [List.drop_zero] at hL
  refine ⟨by omega, by omega, ?_, ?_, ?_, ?_, fun n => ?_, ?_⟩
  · unfold pathOf
    have nd : Nd (makeS s more) (0, -Big) := by
      refine ⟨by simp only; omega, ?_, ?_⟩
      · simp only; rw [W_head s more 0 (by omega)]; rfl
      · simp only; rw [W_head s more 3 (by omega)]; rfl
    have w1 : W (makeS s more) 0 1 = if s = [] then 1 else 2 := by rw [W_head s more 1 (by omega)]; rfl
    cases s with
    | nil => exact ⟨nd, by simp only [w1, if_true]; rfl, hL⟩
    | cons k r => exact ⟨nd, by simp only [w1]; rfl, hL⟩
  · rw [W_tail s more 1 (by omega)]; rfl
  · simp only [pathOf, List.map_cons, List.map_append, List.map_nil, List.nodup_cons, List.nodup_append, List.mem_append, List.mem_map, List.mem_cons, List.not_mem_nil, or_false, not_or, not_exists, not_and]
    refine ⟨⟨fun x hx e => ?_, by omega⟩, qR_nodup s 0, by simp, fun a ha b hb => ?_⟩
    · have := qR_mem s 0 x hx; omega
    · obtain ⟨x, hx, rfl⟩ := ha
      subst hb
      have := qR_mem s 0 x hx
      omega
  · simp only [pathOf, List.pairwise_cons, List.pairwise_append, List.mem_append, List.mem_cons, List.not_mem_nil, or_false]
    refine ⟨fun x hx => ?_, qR_sorted s 0 hs.1, by simp, fun a ha b hb => ?_⟩
    · rcases hx with hx | rfl
      · have := hs.2 _ (qR_mem s 0 x hx).2.2
        show -(1099511627777 : Int) < x.2
        omega
      · show -(1099511627777 : Int) < 1099511627777
        omega
    · subst hb
      have := hs.2 _ (qR_mem s 0 a ha).2.2
      show a.2 < (1099511627777 : Int)
      omega
  · by_cases h0 : n = 0
    · subst h0; rw [W_head s more 2 (by omega)]; rfl
    · by_cases h1 : n = 1
      · subst h1; rw [W_tail s more 2 (by omega)]; rfl
      · by_cases h2 : n < s.length + 2
        · have := W_node s more (n - 2) 2 (by omega) (by omega)
          rw [show n - 2 + 2 = n by omega] at this
          rw [this]
          exact (nodesR_get s 0 (n - 2) (by omega)).2.2.1
        · exact W_spare s more n 2 (by omega)
  · rw [qR_len]; omega
/-- The nodes that are none's are not of the path. -/
theorem makeS_spare {s : List Int} {n : Nat} (h : s.length + 2 ≤ n) : ∀ x ∈ pathOf (qR 0 s), x.1 ≠ n := by
  intro x hx
  simp only [pathOf, List.mem_cons, List.mem_append, List.not_mem_nil, or_false] at hx
  rcases hx with rfl | hx | rfl
  · simp only; omega
  · have := qR_mem s 0 x hx; omega
  · simp only; omega
end Go.Proofs.Ytnomicnfgdjdeaa.Ab
