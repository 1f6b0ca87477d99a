/- MemWins by the interpreter. No condition. -/
import Derived.Test.YtcolbaaecbhkdaaMemA
namespace Go.Proofs.Ytcolbaaecbhkdaa.Ab
open Go.RowKit
set_option linter.unusedSimpArgs false
def casOf (x n : Int) : Acc := ⟨3, 1, x, x + 1 + pickI n 50⟩
theorem wins_loop0 (x : Int) (hx : 0 ≤ x ∧ x < 1000) (l : List Int) (hl : ∀ a ∈ l, i64 a) (R : List Acc) (hR : R = (l.take 20).map (casOf x)) (b5 : Bool) : ∀ (k i : Nat), i + k = min l.length 20 → ∀ (sl : List (Nat × AVal)) (mem : List (Nat × Blk)) (nx b : Nat) (X : List Acc),
    X = (l.take i).map (casOf x) → lk sl 1 = .list 1 (ints l) → lk sl 5 = .bool b5 → lk sl 6 = .int .i64 x → lk sl 7 = .vec b → mg mem b = some ⟨25, 4, lst Acc.c X⟩ → lk sl 8 = .int .i64 i →
    Ends (den Γ (.loop g5l0) ⟨sl, mem, nx, true⟩) fun e sl' mem' _ pr => e = .exit 0 ∧ pr = true ∧ (∃ b, lk sl' 7 = .vec b ∧ mg mem' b = some ⟨25, 4, lst Acc.c R⟩) ∧ lk sl' 5 = .bool b5 ∧ lk sl' 6 = .int .i64 x := by
  intro k
  induction k with
  | zero =>
    intro i hi sl mem nx b X hX h1 h5 h6 h7 hb h8
    apply Ends_loop
    conv => lhs; lhs; rw [g5l0]
    have hXR : X = R := by
      rw [hX, hR]
      by_cases hi4 : l.length ≤ 20
      · rw [List.take_of_length_le (by omega), List.take_of_length_le (by omega)]
      · rw [show i = 20 by omega]
    by_cases hi4 : l.length ≤ 20
    · simp (disch := omega) [h1, h5, h6, h7, h8, hb, show i = l.length by omega, hXR]
    · simp (disch := omega) [h1, h5, h6, h7, h8, hb, decT, decF, show i = 20 by omega, hXR]
  | succ k ih =>
    intro i hi sl mem nx b X hX h1 h5 h6 h7 hb h8
    have hil : i < l.length := by omega
    apply Ends_loop
    conv => lhs; lhs; rw [g5l0]
    have p1 := pick12 l[i] 50 (hl l[i] (List.getElem_mem _)) (by omega)
    have q1 := pickI_lt l[i] 50 (by omega)
    have hXl : X.length = i := by rw [hX]; simp; omega
    have hone : ∀ L : List Acc, lst Acc.c L ++ [[AVal.int .i64 3, .int .i64 1, .int .i64 x, .int .i64 (x + 1 + pickI l[i] 50)]] = lst Acc.c (L ++ [casOf x l[i]]) := fun L => lst_one (x := casOf x l[i])
    simp (disch := omega) [h1, h5, h6, h7, h8, hb, hil, decT, decF, ifT, p1, hone]
    refine ih (i + 1) (by omega) _ _ _ 1 (X ++ [casOf x l[i]]) ?_ ?_ ?_ ?_ ?_ ?_ ?_ <;> simp
    rw [hX, List.take_add_one]
    simp [hil]
theorem wins_loop1 (F : List Fnd) (hF : ∀ i f, F[i]? = some f → f.d = decide (i = 0)) (hFl : F.length < 1000) (L : List Acc) (w : List Int) (x : Int) (b5 : Bool) : ∀ (k i : Nat), i + k = F.length → ∀ (sl : List (Nat × AVal)) (mem : List (Nat × Blk)) (nx : Nat),
    lk sl 5 = .bool b5 → lk sl 6 = .int .i64 x → lk sl 7 = .list 4 (lst Acc.c L) → lk sl 9 = .list 1 (ints w) → lk sl 10 = .list 2 (lst Fnd.c F) → lk sl 12 = .int .i64 i →
    Ends (den Γ (.loop g5l1) ⟨sl, mem, nx, true⟩) fun e sl' _ _ pr => e = .exit 2 ∧ pr = true ∧ lk sl' 5 = .bool b5 ∧ lk sl' 6 = .int .i64 x ∧ lk sl' 7 = .list 4 (lst Acc.c L) ∧ lk sl' 9 = .list 1 (ints w) := by
  intro k
  induction k with
  | zero =>
    intro i hi sl mem nx h5 h6 h7 h9 h10 h12
    apply Ends_loop
    conv => lhs; lhs; rw [g5l1]
    simp (disch := omega) [h5, h6, h7, h9, h10, h12, show i = F.length by omega]
  | succ k ih =>
    intro i hi sl mem nx h5 h6 h7 h9 h10 h12
    have hil : i < F.length := by omega
    have hd := hF i F[i] (List.getElem?_eq_getElem hil)
    apply Ends_loop
    conv => lhs; lhs; rw [g5l1]
    by_cases h0 : i = 0
    · subst h0
      simp at hd
      simp (disch := omega) [h5, h6, h7, h9, h10, h12, hil, Fnd.c, hd]
      refine ih 1 (by omega) _ _ _ ?_ ?_ ?_ ?_ ?_ ?_ <;> simp
    · simp [h0] at hd
      have h0' : ¬ ((i : Int) = 0) := by omega
      simp (disch := omega) [h5, h6, h7, h9, h10, h12, hil, Fnd.c, hd, h0, h0', decF]
      refine ih (i + 1) (by omega) _ _ _ ?_ ?_ ?_ ?_ ?_ ?_ <;> simp
theorem wins_rest (y x : Int) (hxy : y ≠ x) : ∀ (l : List Int) (fs : List Fnd), runS [3, y, 4] fs (l.map (casOf x)) = .ok ([3, y, 4], fs ++ l.map fun _ => ⟨y, false⟩)
  | [], fs => by simp [runS]
  | n :: l, fs => by
    have hd : doS [3, y, 4] (casOf x n) = ([3, y, 4], ⟨y, false⟩, 0) := by simp [doS, casOf, hxy]
    simp only [List.map_cons, runS, hd, if_true]
    rw [wins_rest y x hxy l]
    simp
theorem wins5 (old : Int) (news : List Int) (ho : i64 old) (hn : ∀ n ∈ news, i64 n) : cd Γ 5 [.int .i64 old, .list 1 (ints news)] = some (.bool true) := by
  rw [call (fn := g5) rfl rfl]
  apply Ends.fin
  have p1 := pick12 old 1000 ho (by omega)
  have q1 := pickI_lt old 1000 (by omega)
  generalize pickI old 1000 = x at p1 q1
  generalize hR : (news.take 20).map (casOf x) = R
  simp (disch := omega) [g5, g5b, awake11, p1]
  refine Ends.blk (wins_loop0 x q1 news hn R hR.symm true (min news.length 20) 0 (by omega) _ _ _ 0 [] rfl rfl rfl rfl rfl rfl rfl) ?_
  rintro e sl mem nx pr ⟨rfl, rfl, ⟨b, h7, hb⟩, h5, h6⟩
  have hRl : R.length ≤ 20 := by rw [← hR]; simp; omega
  have hRok : ∀ a ∈ R, a.ok := by
    intro a ha
    rw [← hR] at ha
    obtain ⟨n, _, rfl⟩ := List.mem_map.1 ha
    have := pickI_lt n 50 (by omega)
    simp only [Acc.ok, casOf, i64]
    omega
  have hp := play17 [3, x, 4] R (by simp) (by intro n hn; simp at hn; unfold i64; omega) (by omega) hRok
  simp only [lst, List.map_cons, List.map_nil] at hp
  cases hn0 : news.take 20 with
  | nil =>
    rw [hn0] at hR
    simp at hR
    subst hR
    simp only [runS, playV, lst, List.map_nil] at hp
    simp (disch := omega) [h5, h6, h7, hb, hp, lst]
    refine Ends.blk (wins_loop1 [] (by simp) (by simp) [] [3, x, 4] x true 0 0 rfl _ _ _ ?_ ?_ ?_ ?_ ?_ ?_) ?_
    all_goals first | rfl | (simp [h5, h6]; done) | skip
    rintro e sl mem nx pr ⟨rfl, rfl, h5, h6, h7, h9⟩
    simp (maxSteps := 1000000) [h5, h6, h7, h9]
  | cons n ns =>
    rw [hn0] at hR
    simp only [List.map_cons] at hR
    have qn := pickI_lt n 50 (by omega)
    have hd : doS [3, x, 4] (casOf x n) = ([3, x + 1 + pickI n 50, 4], ⟨x, true⟩, 0) := by
      have : okW (x + 1 + pickI n 50) := by unfold okW; omega
      simp [doS, casOf, this]
    have hrun : runS [3, x, 4] [] R = .ok ([3, x + 1 + pickI n 50, 4], [⟨x, true⟩] ++ ns.map fun _ => ⟨x + 1 + pickI n 50, false⟩) := by
      rw [← hR]
      simp only [runS, hd, if_true]
      rw [wins_rest _ x (by omega)]
      simp
    rw [hrun] at hp
    have hfl : ([(⟨x, true⟩ : Fnd)] ++ ns.map fun _ => (⟨x + 1 + pickI n 50, false⟩ : Fnd)).length = R.length := by rw [← hR]; simp
    generalize hF : ([⟨x, true⟩] ++ ns.map fun _ => (⟨x + 1 + pickI n 50, false⟩ : Fnd)) = F at hp hfl
    simp only [playV] at hp
    have hR0 : R.length = ns.length + 1 := by rw [← hR]; simp
    have hp' : frzO (cd Γ 17 [AVal.list 1 [[AVal.int .i64 3], [.int .i64 x], [.int .i64 4]], .list 4 (lst Acc.c R)]) = some (.tup [.list 1 (ints [3, x + 1 + pickI n 50, 4]), .list 2 (lst Fnd.c F), .int .i64 0]) := hp
    clear hp
    simp (disch := omega) [h5, h6, h7, hb, hp', hfl]
    refine Ends.blk (wins_loop1 F ?_ (by omega) R [3, x + 1 + pickI n 50, 4] x true F.length 0 (by omega) _ _ _ ?_ ?_ ?_ ?_ ?_ ?_) ?_
    · intro i f hf
      rw [← hF] at hf
      cases i with
      | zero => simp at hf; subst hf; rfl
      | succ i => simp at hf; obtain ⟨_, _, rfl⟩ := hf; simp
    all_goals first | rfl | (simp [h5, h6]; done) | skip
    rintro e sl mem nx pr ⟨rfl, rfl, h5, h6, h7, h9⟩
    have hR1 : ∃ R', R = casOf x n :: R' := ⟨_, hR.symm⟩
    obtain ⟨R', rfl⟩ := hR1
    simp (maxSteps := 1000000) (disch := omega) [h5, h6, h7, h9, Acc.c, casOf, decT, decF]
theorem wins_cd (vs : List AVal) (h : ArgsOk [kI, kIs] vs) : cd Γ 5 vs = some (.bool true) := by
  obtain ⟨a, b, rfl, ha, hb⟩ := args2 h
  obtain ⟨n, rfl, hn⟩ := arg_int ha
  obtain ⟨l, rfl, _, hl⟩ := arg_ints hb
  exact wins5 n l hn hl
end Go.Proofs.Ytcolbaaecbhkdaa.Ab
