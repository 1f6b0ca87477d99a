/- What refPlay, SameFound and Accesses come to. No condition. -/
import Derived.Test.YtcolbaaecbhkdaaMemX
import Derived.Test.YtcolbaaecbhkdaaMemW
namespace Go.Proofs.Ytcolbaaecbhkdaa.Ab
open Go.RowKit
set_option linter.unusedSimpArgs false
theorem play18_loop (m0 : List Int) (l : List Acc) (hm0 : m0.length * 8 ≤ 140737488355328) (hll : l.length < 1000000000000) (hl : ∀ a ∈ l, a.ok) : ∀ (k i : Nat), i + k = l.length → ∀ (m : List Int) (fs : List Fnd) (sl : List (Nat × AVal)) (mem : List (Nat × Blk)) (nx b : Nat),
    m.length * 8 ≤ 140737488355328 → (∀ n ∈ m, i64 n) → fs.length = i → lk sl 0 = .list 1 (ints m0) → lk sl 7 = .list 1 (ints m) → lk sl 8 = .vec b → mg mem b = some ⟨30, 2, lst Fnd.c fs⟩ → lk sl 1 = .list 4 (lst Acc.c l) → lk sl 9 = .int .i64 i →
    ∀ r, r = runS m fs (l.drop i) → Ends (den Γ (.loop g18l0) ⟨sl, mem, nx, true⟩) fun e sl' mem' _ _ => playQ r m0 e sl' mem' := by
  intro k
  induction k with
  | zero =>
    intro i hi m fs sl mem nx b hm hmi hfs h0 h7 h8 hb h1 h9 r hr
    apply Ends_loop
    conv => lhs; lhs; rw [g18l0]
    rw [List.drop_of_length_le (by omega)] at hr
    subst hr
    simp [h0, h7, h8, h1, h9, hb, show i = l.length by omega, playQ, runS]
  | succ k ih =>
    intro i hi m fs sl mem nx b hm hmi hfs h0 h7 h8 hb h1 h9 r hr
    have hil : i < l.length := by omega
    rw [List.drop_eq_getElem_cons hil] at hr
    apply Ends_loop
    conv => lhs; lhs; rw [g18l0]
    have hd := do14 m l[i] hm hmi (hl _ (List.getElem_mem _))
    unfold own3 at hd
    by_cases he : (doS m l[i]).2.2 = 0
    · simp (disch := omega) [h0, h7, h8, h1, h9, hb, hil, hd, he, ifT]
      refine ih (i + 1) (by omega) (doS m l[i]).1 (fs ++ [(doS m l[i]).2.1]) _ _ _ 2 ?_ ?_ ?_ ?_ ?_ ?_ ?_ ?_ ?_ r ?_
      · rw [doS_len]; exact hm
      · exact doS_i64 m _ hmi
      · simp [hfs]
      all_goals first | (simp; done) | skip
      simp [hr, runS, he]
    · simp (disch := omega) [h0, h7, h8, h1, h9, hb, hil, hd, he, ifT]
      simp [hr, runS, he, playQ]
theorem play18 (m : List Int) (l : List Acc) (hm : m.length * 8 ≤ 140737488355328) (hmi : ∀ n ∈ m, i64 n) (hll : l.length < 1000000000000) (hl : ∀ a ∈ l, a.ok) :
    frzO (cd Γ 18 [.list 1 (ints m), .list 4 (lst Acc.c l)]) = some (playV (runS m [] l) m) := by
  have : ∃ v, cd Γ 18 [.list 1 (ints m), .list 4 (lst Acc.c l)] = some v ∧ v.frz = playV (runS m [] l) m := by
    cases hr : runS m [] l with
    | ok p =>
      obtain ⟨w, fs⟩ := p
      refine ⟨.tup [.list 1 (ints w), .own 30 2 (lst Fnd.c fs), .int .i64 0], ?_, rfl⟩
      rw [call (fn := g18) rfl rfl]
      apply Ends.fin
      simp (disch := omega) [g18, g18b, ifT]
      refine Ends.blk (play18_loop m l hm hll hl l.length 0 (by omega) m [] _ _ _ 0 hm hmi rfl rfl rfl rfl rfl rfl rfl _ rfl) ?_
      simp only [List.drop_zero, hr, playQ]
      rintro e sl mem nx pr ⟨rfl, h7, b, h8, hb⟩
      simp [h7, h8, hb]
    | error er =>
      refine ⟨.tup [.list 1 (ints m), .list 2 [], .int .i64 er], ?_, rfl⟩
      rw [call (fn := g18) rfl rfl]
      apply Ends.fin
      simp (disch := omega) [g18, g18b, ifT]
      refine Ends.blk (play18_loop m l hm hll hl l.length 0 (by omega) m [] _ _ _ 0 hm hmi rfl rfl rfl rfl rfl rfl rfl _ rfl) ?_
      simp only [List.drop_zero, hr, playQ]
      rintro e sl mem nx pr ⟨rfl, h4, h5, h6⟩
      simp [h4, h5, h6]
  obtain ⟨v, h1, h2⟩ := this
  rw [h1, frzO_s, h2]
theorem found19_loop (a b : List Fnd) (hl : a.length = b.length) (hb : a.length < 9223372036854775807) : ∀ (k i : Nat), i + k = a.length → ∀ (r : Bool), r = decide (a.drop i = b.drop i) → ∀ (sl : List (Nat × AVal)) (mem : List (Nat × Blk)) (nx : Nat),
    lk sl 0 = .list 2 (lst Fnd.c a) → lk sl 1 = .list 2 (lst Fnd.c b) → lk sl 5 = .int .i64 i →
    Ends (den Γ (.loop g19l0) ⟨sl, mem, nx, true⟩) fun e sl' _ _ _ => if r then e = .exit 0 else e = .ret ∧ lk sl' 4 = .bool false := by
  intro k
  induction k with
  | zero =>
    intro i hi r hr sl mem nx h0 h1 h2
    apply Ends_loop
    conv => lhs; lhs; rw [g19l0]
    have : r = true := by rw [hr]; simp [List.drop_of_length_le (show a.length ≤ i by omega), List.drop_of_length_le (show b.length ≤ i by omega)]
    simp [h0, h1, h2, hl, show i = b.length by omega, this]
  | succ k ih =>
    intro i hi r hr sl mem nx h0 h1 h2
    have hia : i < a.length := by omega
    have hib : i < b.length := by omega
    apply Ends_loop
    conv => lhs; lhs; rw [g19l0]
    rw [List.drop_eq_getElem_cons hia, List.drop_eq_getElem_cons hib] at hr
    have hx : (a[i] = b[i]) ↔ a[i].v = b[i].v ∧ a[i].d = b[i].d := by
      generalize a[i] = x; generalize b[i] = y; cases x; cases y; simp
    by_cases hxy : a[i] = b[i]
    · simp (disch := omega) [Fnd.c, h0, h1, h2, hia, hib, hxy]
      refine ih (i + 1) (by omega) r (by simp [hr, hxy, -List.getElem_cons_drop]) _ _ _ ?_ ?_ ?_ <;> simp
    · have : r = false := by simp [hr, hxy, -List.getElem_cons_drop]
      rw [hx] at hxy
      by_cases hv : a[i].v = b[i].v
      · have hd : ¬ a[i].d = b[i].d := fun h => hxy ⟨hv, h⟩
        simp (disch := omega) [Fnd.c, h0, h1, h2, hia, hib, hv, hd, this]
      · simp (disch := omega) [Fnd.c, h0, h1, h2, hia, hib, hv, this]
theorem found19 (a b : List Fnd) (hb : a.length < 9223372036854775807) : cd Γ 19 [.list 2 (lst Fnd.c a), .list 2 (lst Fnd.c b)] = some (.bool (decide (a = b))) := by
  rw [call (fn := g19) rfl rfl]
  apply Ends.fin
  by_cases hl : a.length = b.length
  · simp [g19, g19b, hl]
    refine Ends.blk (found19_loop a b hl hb a.length 0 (by omega) _ rfl _ _ _ ?_ ?_ ?_) ?_ <;> simp
    intro e sl
    by_cases hab : a = b
    · simp +contextual [hab]
    · simp +contextual [hab]
  · have : ¬ a = b := fun h => hl (by rw [h])
    simp [g19, g19b, this, hl]
/-! ### Accesses -/
structure Raw where
  a : Int
  b : Int
  c : Int
  d : Int
def Raw.cs (r : Raw) : List AVal := [.int .i64 r.a, .int .i64 r.b, .int .i64 r.c, .int .i64 r.d]
def Raw.ok (r : Raw) : Prop := i64 r.a ∧ i64 r.b ∧ i64 r.c ∧ i64 r.d
theorem Raw.c_len (a : Raw) : a.cs.length = 4 := rfl
theorem Raw.c_nr (a : Raw) : a.cs.all AVal.noRef = true := rfl
attribute [simp] Raw.c_len Raw.c_nr
def accOf (w : Int) (r : Raw) : Acc := ⟨1 + pickI r.a 4, pickI r.b w, pickI r.c 4, pickI r.d 4⟩
theorem pickI_lt (a n : Int) (h : 0 < n) : 0 ≤ pickI a n ∧ pickI a n < n := by
  unfold pickI
  exact ⟨Int.emod_nonneg _ (by omega), Int.emod_lt_of_pos _ h⟩
theorem accs16_loop (w : Int) (hw : 0 < w ∧ i64 w) (l : List Raw) (hll : l.length < 1000000000000000) (hl : ∀ a ∈ l, a.ok) (R : List Acc) (hR : R = (l.take 40).map (accOf w)) : ∀ (k i : Nat), i + k = min l.length 40 → ∀ (sl : List (Nat × AVal)) (mem : List (Nat × Blk)) (nx b : Nat) (X : List Acc),
    X = (l.take i).map (accOf w) → lk sl 0 = .list 4 (lst Raw.cs l) → lk sl 1 = .int .i64 w → lk sl 5 = .vec b → mg mem b = some ⟨25, 4, lst Acc.c X⟩ → lk sl 6 = .int .i64 i →
    Ends (den Γ (.loop g16l0) ⟨sl, mem, nx, true⟩) fun e sl' mem' _ _ => e = .exit 0 ∧ ∃ b, lk sl' 5 = .vec b ∧ mg mem' b = some ⟨25, 4, lst Acc.c R⟩ := by
  intro k
  induction k with
  | zero =>
    intro i hi sl mem nx b X hX h0 h1 h5 hb h6
    apply Ends_loop
    conv => lhs; lhs; rw [g16l0]
    have hXR : X = R := by
      rw [hX, hR]
      by_cases hi4 : l.length ≤ 40
      · rw [List.take_of_length_le (by omega), List.take_of_length_le (by omega)]
      · rw [show i = 40 by omega]
    by_cases hi4 : l.length ≤ 40
    · simp (disch := omega) [h0, h1, h5, h6, hb, show i = l.length by omega, hXR]
    · simp (disch := omega) [h0, h1, h5, h6, hb, decT, decF, show i = 40 by omega, hXR]
  | succ k ih =>
    intro i hi sl mem nx b X hX h0 h1 h5 hb h6
    have hil : i < l.length := by omega
    apply Ends_loop
    conv => lhs; lhs; rw [g16l0]
    obtain ⟨r1, r2, r3, r4⟩ := hl l[i] (List.getElem_mem _)
    have p1 := pick12 l[i].a 4 r1 (by omega)
    have p2 := pick12 l[i].b w r2 (by omega)
    have p3 := pick12 l[i].c 4 r3 (by omega)
    have p4 := pick12 l[i].d 4 r4 (by omega)
    have q1 := pickI_lt l[i].a 4 (by omega)
    have hXl : X.length = i := by rw [hX]; simp; omega
    have hone : ∀ L : List Acc, lst Acc.c L ++ [[AVal.int .i64 (1 + pickI l[i].a 4), .int .i64 (pickI l[i].b w), .int .i64 (pickI l[i].c 4), .int .i64 (pickI l[i].d 4)]] = lst Acc.c (L ++ [accOf w l[i]]) := fun L => lst_one (x := accOf w l[i])
    simp (disch := omega) [h0, h1, h5, h6, hb, hil, decT, decF, ifT, Raw.cs, p1, p2, p3, p4, hone]
    refine ih (i + 1) (by omega) _ _ _ 1 (X ++ [accOf w l[i]]) ?_ ?_ ?_ ?_ ?_ ?_ <;> simp
    rw [hX, List.take_add_one]
    simp [hil]
theorem accs16 (w : Int) (hw : 0 < w ∧ i64 w) (l : List Raw) (hll : l.length < 1000000000000000) (hl : ∀ a ∈ l, a.ok) : cd Γ 16 [.list 4 (lst Raw.cs l), .int .i64 w] = some (.own 25 4 (lst Acc.c ((l.take 40).map (accOf w)))) := by
  rw [call (fn := g16) rfl rfl]
  apply Ends.fin
  generalize hR : (l.take 40).map (accOf w) = R
  simp [g16, g16b]
  refine Ends.blk (accs16_loop w hw l hll hl R hR.symm (min l.length 40) 0 (by omega) _ _ _ 0 [] rfl rfl rfl rfl rfl rfl) ?_
  rintro e sl mem nx pr ⟨rfl, b, h5, hb⟩
  simp [h5, hb]
end Go.Proofs.Ytcolbaaecbhkdaa.Ab
