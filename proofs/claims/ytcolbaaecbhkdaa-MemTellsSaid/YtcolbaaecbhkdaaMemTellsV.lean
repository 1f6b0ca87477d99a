/- MemTells by the interpreter. No condition. -/
import Derived.Test.YtcolbaaecbhkdaaMemP
namespace Go.Proofs.Ytcolbaaecbhkdaa.Ab
open Go.RowKit
set_option linter.unusedSimpArgs false
theorem runS_len : ∀ (l : List Acc) (m : List Int) (fs : List Fnd) (w : List Int) (gs : List Fnd), runS m fs l = .ok (w, gs) → w.length = m.length ∧ gs.length = fs.length + l.length
  | [], m, fs, w, gs, h => by simp only [runS, Except.ok.injEq, Prod.mk.injEq] at h; obtain ⟨rfl, rfl⟩ := h; simp
  | a :: l, m, fs, w, gs, h => by
    simp only [runS] at h
    split at h
    · obtain ⟨h1, h2⟩ := runS_len l _ _ w gs h
      rw [doS_len] at h1
      simp at h2 ⊢
      omega
    · cases h
theorem tells_loop0 (m : List Int) (hm : m.length ≤ 50) (hmi : ∀ n ∈ m, i64 n) (L : List Acc) (hLl : L.length ≤ 3) (hL : ∀ a ∈ L, a.ok) (v1 : List Raw) (v3' : List Acc) : ∀ (k i : Nat), i + k = L.length → ∀ (sl : List (Nat × AVal)) (mem : List (Nat × Blk)) (nx : Nat),
    lk sl 1 = .list 4 (lst Raw.cs v1) → lk sl 3 = .list 4 (lst Acc.c v3') → lk sl 9 = .bool true → lk sl 10 = .list 1 (ints m) → lk sl 59 = .list 4 (lst Acc.c L) → lk sl 60 = .int .i64 L.length → lk sl 61 = .int .i64 i →
    Ends (den Γ (.loop g3l0) ⟨sl, mem, nx, true⟩) fun e sl' _ _ pr => e = .exit 0 ∧ pr = true ∧ lk sl' 1 = .list 4 (lst Raw.cs v1) ∧ lk sl' 3 = .list 4 (lst Acc.c v3') ∧ lk sl' 9 = .bool true ∧ lk sl' 10 = .list 1 (ints m) := by
  intro k
  induction k with
  | zero =>
    intro i hi sl mem nx h1 h3 h9 h10 h59 h60 h61
    apply Ends_loop
    conv => lhs; lhs; rw [g3l0]
    simp [h1, h3, h9, h10, h59, h60, h61, show i = L.length by omega]
  | succ k ih =>
    intro i hi sl mem nx h1 h3 h9 h10 h59 h60 h61
    have hil : i < L.length := by omega
    have d1 := do13 m L[i] (by omega) hmi (hL _ (List.getElem_mem _))
    have d2 := do14 m L[i] (by omega) hmi (hL _ (List.getElem_mem _))
    have hi15 := ints15 (doS m L[i]).1 (doS m L[i]).1 (by rw [doS_len]; omega)
    unfold own3 at d1 d2
    generalize (doS m L[i]).1 = M at *
    generalize (doS m L[i]).2.1 = f at *
    generalize (doS m L[i]).2.2 = e at *
    obtain ⟨fv, fd⟩ := f
    simp only [Fnd.c] at d1 d2
    apply Ends_loop
    conv => lhs; lhs; rw [g3l0]
    simp (disch := omega) [h1, h3, h9, h10, h59, h60, h61, hil, d1, d2, hi15]
    refine ih (i + 1) (by omega) _ _ _ ?_ ?_ ?_ ?_ ?_ ?_ ?_ <;> simp
theorem tells_loop1 (m : List Int) (hm : m.length ≤ 50) (hmi : ∀ n ∈ m, i64 n) (L : List (List Acc)) (hLl : L.length ≤ 3) (hL : ∀ l ∈ L, l.length ≤ 40 ∧ ∀ a ∈ l, a.ok) : ∀ (k i : Nat), i + k = L.length → ∀ (sl : List (Nat × AVal)) (mem : List (Nat × Blk)) (nx : Nat),
    lk sl 9 = .bool true → lk sl 10 = .list 1 (ints m) → lk sl 104 = .list 1 (lst (fun l => [.list 4 (lst Acc.c l)]) L) → lk sl 105 = .int .i64 L.length → lk sl 106 = .int .i64 i →
    Ends (den Γ (.loop g3l1) ⟨sl, mem, nx, true⟩) fun e sl' _ _ pr => e = .exit 2 ∧ pr = true ∧ lk sl' 9 = .bool true := by
  intro k
  induction k with
  | zero =>
    intro i hi sl mem nx h9 h10 h104 h105 h106
    apply Ends_loop
    conv => lhs; lhs; rw [g3l1]
    simp [h9, h10, h104, h105, h106, show i = L.length by omega]
  | succ k ih =>
    intro i hi sl mem nx h9 h10 h104 h105 h106
    have hil : i < L.length := by omega
    obtain ⟨hl1, hl2⟩ := hL L[i] (List.getElem_mem _)
    have p1 := play17 m L[i] (by omega) hmi (by omega) hl2
    have p2 := play18 m L[i] (by omega) hmi (by omega) hl2
    apply Ends_loop
    conv => lhs; lhs; rw [g3l1]
    cases hr : runS m [] L[i] with
    | ok q =>
      obtain ⟨w, fs⟩ := q
      obtain ⟨w1, w2⟩ := runS_len _ _ _ _ _ hr
      rw [hr] at p1 p2
      simp only [playV] at p1 p2
      have hi15 := ints15 w w (by omega)
      have hf19 := found19 fs fs (by simp at w2; omega)
      simp (disch := omega) [h9, h10, h104, h105, h106, hil, p1, p2, hi15, hf19]
      refine ih (i + 1) (by omega) _ _ _ ?_ ?_ ?_ ?_ ?_ <;> simp
    | error er =>
      rw [hr] at p1 p2
      simp only [playV] at p1 p2
      have hi15 := ints15 m m (by omega)
      have hf19 := found19 [] [] (by simp)
      simp only [lst_nil] at hf19
      simp (disch := omega) [h9, h10, h104, h105, h106, hil, p1, p2, hi15, hf19]
      refine ih (i + 1) (by omega) _ _ _ ?_ ?_ ?_ ?_ ?_ <;> simp
theorem tells3 (any : List Int) (hani : ∀ n ∈ any, i64 n) (raw : List Raw) (hll : raw.length < 1000000000000000) (hr : ∀ a ∈ raw, a.ok) (a : Acc) (ha : a.ok) (more : List Acc) (hmo : ∀ a ∈ more, a.ok) :
    cd Γ 3 [.list 1 (ints any), .list 4 (lst Raw.cs raw), .agg a.c, .list 4 (lst Acc.c more)] = some (.bool true) := by
  rw [call (fn := g3) rfl rfl]
  apply Ends.fin
  obtain ⟨op, at_, old, new⟩ := a
  obtain ⟨a1, a2, a3, a4⟩ := ha
  simp only at a1 a2 a3 a4
  have hml : (any.take 50).length ≤ 50 := by simp; omega
  have hmi : ∀ n ∈ any.take 50, i64 n := fun n hn => hani n (List.mem_of_mem_take hn)
  have pk := pick12 at_ ((any.take 50).length + 1) a2 (by omega)
  have qk := pickI_lt at_ ((any.take 50).length + 1) (by omega)
  have hw : 0 < (max ((any.take 50).length : Int) 1) ∧ i64 (max ((any.take 50).length : Int) 1) := by unfold i64; omega
  have hacc := accs16 (max ((any.take 50).length : Int) 1) hw raw hll hr
  have hA : ((raw.take 40).map (accOf (max ((any.take 50).length : Int) 1))).length ≤ 40 ∧ ∀ a ∈ (raw.take 40).map (accOf (max ((any.take 50).length : Int) 1)), a.ok := by
    refine ⟨by simp; omega, fun a h => ?_⟩
    obtain ⟨r, _, rfl⟩ := List.mem_map.1 h
    have g1 := pickI_lt r.a 4 (by omega)
    have g2 := pickI_lt r.b (max ((any.take 50).length : Int) 1) hw.1
    have g3 := pickI_lt r.c 4 (by omega)
    have g4 := pickI_lt r.d 4 (by omega)
    simp only [Acc.ok, accOf, i64]
    omega
  generalize (raw.take 40).map (accOf (max ((any.take 50).length : Int) 1)) = A at hacc hA
  generalize pickI at_ ((any.take 50).length + 1) = kk at pk qk
  obtain ⟨p, rfl⟩ : ∃ p : Nat, kk = p := ⟨kk.toNat, by omega⟩
  have rest : ∀ (m : List Int) (L : List Acc), m = any.take 50 → L.length = 3 → (∀ a ∈ L, a.ok) → ∀ (sl : List (Nat × AVal)) (mem : List (Nat × Blk)) (nx : Nat),
      lk sl 1 = .list 4 (lst Raw.cs raw) → lk sl 3 = .list 4 (lst Acc.c more) → lk sl 9 = .bool true → lk sl 10 = .list 1 (ints m) → lk sl 59 = .list 4 (lst Acc.c L) → lk sl 60 = .int .i64 3 → lk sl 61 = .int .i64 0 →
      ∀ (K : St → Option (AExit × St)) (Q : AExit → List (Nat × AVal) → List (Nat × Blk) → Nat → Bool → Prop), (∀ sl' mem' nx', lk sl' 1 = .list 4 (lst Raw.cs raw) → lk sl' 3 = .list 4 (lst Acc.c more) → lk sl' 9 = .bool true → lk sl' 10 = .list 1 (ints m) → Ends (K ⟨sl', mem', nx', true⟩) Q) →
      Ends (bindN (unBlk 0 (den Γ (.loop g3l0) ⟨sl, mem, nx, true⟩)) K) Q := by
    intro m L hm hL hLo sl mem nx h1 h3 h9 h10 h59 h60 h61 K Q hK
    refine Ends.blk (tells_loop0 m (by rw [hm]; exact hml) (by rw [hm]; exact hmi) L (by omega) hLo raw more L.length 0 (by omega) sl mem nx h1 h3 h9 h10 h59 (by rw [h60, hL]; rfl) h61) ?_
    rintro e sl' mem' nx' pr ⟨rfl, rfl, g1, g3, g9, g10⟩
    exact hK _ _ _ g1 g3 g9 g10
  have tail : ∀ (m : List Int), m = any.take 50 → ∀ (sl : List (Nat × AVal)) (mem : List (Nat × Blk)) (nx : Nat),
      lk sl 9 = .bool true → lk sl 10 = .list 1 (ints m) → lk sl 104 = .list 1 (lst (fun l => [.list 4 (lst Acc.c l)]) [more.take (min (more.length : Int) 20).toNat, A]) → lk sl 105 = .int .i64 2 → lk sl 106 = .int .i64 0 →
      ∀ (K : St → Option (AExit × St)) (Q : AExit → List (Nat × AVal) → List (Nat × Blk) → Nat → Bool → Prop), (∀ sl' mem' nx', lk sl' 9 = .bool true → Ends (K ⟨sl', mem', nx', true⟩) Q) →
      Ends (bindN (unBlk 2 (den Γ (.loop g3l1) ⟨sl, mem, nx, true⟩)) K) Q := by
    intro m hm sl mem nx h9 h10 h104 h105 h106 K Q hK
    refine Ends.blk (tells_loop1 m (by rw [hm]; exact hml) (by rw [hm]; exact hmi) [more.take (min (more.length : Int) 20).toNat, A] (by simp) ?_ 2 0 rfl sl mem nx h9 h10 h104 (by rw [h105]; rfl) h106) ?_
    · intro l hl
      simp only [List.mem_cons, List.not_mem_nil, or_false] at hl
      rcases hl with rfl | rfl
      · exact ⟨by simp; omega, fun a h => hmo a (List.mem_of_mem_take h)⟩
      · exact hA
    · rintro e sl' mem' nx' pr ⟨rfl, rfl, g9⟩
      exact hK _ _ _ g9
  have hlm : (any.take 50).length = min 50 any.length := by simp
  have hxo : (⟨op, p, old, new⟩ : Acc).ok := ⟨a1, by simp only [i64]; omega, a3, a4⟩
  have hao : (⟨op, at_, old, new⟩ : Acc).ok := ⟨a1, a2, a3, a4⟩
  obtain ⟨m, hm⟩ : ∃ m, m = any.take 50 := ⟨_, rfl⟩
  rw [← hm] at hml hmi pk qk hw hacc hlm
  have start : Ends (den Γ g3b ⟨argSlots 0 [.list 1 (ints any), .list 4 (lst Raw.cs raw), .agg (⟨op, at_, old, new⟩ : Acc).c, .list 4 (lst Acc.c more)], [], 0, true⟩) (fun e sl mem nx pr => finP [.t 8] (some (e, ⟨sl, mem, nx, pr⟩)) = some (.bool true)) := by
    by_cases h50 : 50 < any.length
    · by_cases hp : p < m.length
      · skip
        have hyo : (⟨op, p, m[p], new⟩ : Acc).ok := ⟨a1, by simp only [i64]; omega, hmi _ (List.getElem_mem _), a4⟩
        simp (maxSteps := 400000) (disch := omega) [g3b, awake11, Acc.c, decT, decF, ifT, ← hm, pk, hp]
        refine rest m [⟨op, at_, old, new⟩, ⟨op, p, old, new⟩, ⟨op, p, m[p], new⟩] hm rfl ?_ _ _ _ ?_ ?_ ?_ ?_ ?_ ?_ ?_ _ _ ?_
        · intro a ha; simp only [List.mem_cons, List.not_mem_nil, or_false] at ha; rcases ha with rfl | rfl | rfl <;> assumption
        all_goals first | rfl | skip
        intro sl' mem' nx' g1 g3 g9 g10
        simp (maxSteps := 400000) (disch := omega) [g1, g3, g9, g10, decT, decF, ifT, hacc]
        refine tail m hm _ _ _ ?_ ?_ ?_ ?_ ?_ _ _ ?_
        all_goals first | rfl | (simp [g9, g10]; done) | skip
        intro sl' mem' nx' g9
        simp [g9]
      · skip
        simp (maxSteps := 400000) (disch := omega) [g3b, awake11, Acc.c, decT, decF, ifT, ← hm, pk, hp]
        refine rest m [⟨op, at_, old, new⟩, ⟨op, p, old, new⟩, ⟨op, p, old, new⟩] hm rfl ?_ _ _ _ ?_ ?_ ?_ ?_ ?_ ?_ ?_ _ _ ?_
        · intro a ha; simp only [List.mem_cons, List.not_mem_nil, or_false] at ha; rcases ha with rfl | rfl | rfl <;> assumption
        all_goals first | rfl | skip
        intro sl' mem' nx' g1 g3 g9 g10
        simp (maxSteps := 400000) (disch := omega) [g1, g3, g9, g10, decT, decF, ifT, hacc]
        refine tail m hm _ _ _ ?_ ?_ ?_ ?_ ?_ _ _ ?_
        all_goals first | rfl | (simp [g9, g10]; done) | skip
        intro sl' mem' nx' g9
        simp [g9]
    · have hma : any = m := by rw [hm]; exact (List.take_of_length_le (by omega)).symm
      rw [hma] at h50 ⊢
      by_cases hp : p < m.length
      · skip
        have hyo : (⟨op, p, m[p], new⟩ : Acc).ok := ⟨a1, by simp only [i64]; omega, hmi _ (List.getElem_mem _), a4⟩
        simp (maxSteps := 400000) (disch := omega) [h50, g3b, awake11, Acc.c, decT, decF, ifT, pk, hp]
        refine rest m [⟨op, at_, old, new⟩, ⟨op, p, old, new⟩, ⟨op, p, m[p], new⟩] hm rfl ?_ _ _ _ ?_ ?_ ?_ ?_ ?_ ?_ ?_ _ _ ?_
        · intro a ha; simp only [List.mem_cons, List.not_mem_nil, or_false] at ha; rcases ha with rfl | rfl | rfl <;> assumption
        all_goals first | rfl | skip
        intro sl' mem' nx' g1 g3 g9 g10
        simp (maxSteps := 400000) (disch := omega) [g1, g3, g9, g10, decT, decF, ifT, hacc]
        refine tail m hm _ _ _ ?_ ?_ ?_ ?_ ?_ _ _ ?_
        all_goals first | rfl | (simp [g9, g10]; done) | skip
        intro sl' mem' nx' g9
        simp [g9]
      · skip
        simp (maxSteps := 400000) (disch := omega) [h50, g3b, awake11, Acc.c, decT, decF, ifT, pk, hp]
        refine rest m [⟨op, at_, old, new⟩, ⟨op, p, old, new⟩, ⟨op, p, old, new⟩] hm rfl ?_ _ _ _ ?_ ?_ ?_ ?_ ?_ ?_ ?_ _ _ ?_
        · intro a ha; simp only [List.mem_cons, List.not_mem_nil, or_false] at ha; rcases ha with rfl | rfl | rfl <;> assumption
        all_goals first | rfl | skip
        intro sl' mem' nx' g1 g3 g9 g10
        simp (maxSteps := 400000) (disch := omega) [g1, g3, g9, g10, decT, decF, ifT, hacc]
        refine tail m hm _ _ _ ?_ ?_ ?_ ?_ ?_ _ _ ?_
        all_goals first | rfl | (simp [g9, g10]; done) | skip
        intro sl' mem' nx' g9
        simp [g9]
  exact start
theorem tells_cd (vs : List AVal) (h : ArgsOk [kIs, kRs, kR, kRs] vs) : cd Γ 3 vs = some (.bool true) := by
  obtain ⟨a, b, c, d, rfl, ha, hb, hc, hd⟩ := args4 h
  obtain ⟨l, rfl, h1, hl⟩ := arg_ints ha
  obtain ⟨raw, rfl, h2, hr⟩ := arg_raws hb
  obtain ⟨x, rfl, hx⟩ := arg_acc hc
  obtain ⟨more, rfl, h3, hm⟩ := arg_accs hd
  exact tells3 l hl raw (by omega) hr x hx more hm
end Go.Proofs.Ytcolbaaecbhkdaa.Ab
