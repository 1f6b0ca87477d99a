/- MemAdds by the interpreter. No condition. -/
import Derived.Test.YtcolbaaecbhkdaaMemP
namespace Go.Proofs.Ytcolbaaecbhkdaa.Ab
open Go.RowKit
set_option linter.unusedSimpArgs false
def addOf (n : Int) : Acc := ⟨4, 1, 0, n⟩
theorem adds_run : ∀ (ns : List Int) (c B : Int), (∀ n ∈ ns, -500 ≤ n ∧ n ≤ 499) → -B ≤ c → c ≤ B → B + 500 * ns.length ≤ 1000000 → okRun [5, c, 6] (ns.map addOf) ∧ memN [5, c, 6] (ns.map addOf) = [5, c + ns.sum, 6]
  | [], c, B, _, _, _, _ => by simp [okRun, memN]
  | n :: ns, c, B, hn, h1, h2, h3 => by
    have hn0 := hn n List.mem_cons_self
    simp only [List.length_cons] at h3
    have hd : doS [5, c, 6] (addOf n) = ([5, c + n, 6], ⟨c, true⟩, 0) := by
      rw [do_add (j := 1) (by simp) rfl rfl (by simp) (by simp only [okW, addOf, List.getElem_cons_succ, List.getElem_cons_zero]; omega)]
      rfl
    obtain ⟨i1, i2⟩ := adds_run ns (c + n) (B + 500) (fun m hm => hn m (List.mem_cons_of_mem _ hm)) (by omega) (by omega) (by omega)
    simp only [List.map_cons, okRun, memN, hd, i2, List.sum_cons]
    exact ⟨⟨trivial, i1⟩, by rw [Int.add_assoc]⟩
theorem sum_bound : ∀ (ns : List Int), (∀ n ∈ ns, -500 ≤ n ∧ n ≤ 499) → -500 * (ns.length : Int) ≤ ns.sum ∧ ns.sum ≤ 500 * ns.length
  | [], _ => by simp
  | n :: ns, h => by
    have h0 := h n List.mem_cons_self
    have := sum_bound ns (fun m hm => h m (List.mem_cons_of_mem _ hm))
    simp only [List.sum_cons, List.length_cons]
    omega
theorem adds_loop0 (l : List Int) (hl : ∀ a ∈ l, i64 a) (a1 : AVal) (ha1 : a1.argOk = true) (ns : List Int) (hns : ns = (l.take 30).map fun n => pickI n 1000 - 500) (hnb : ∀ n ∈ ns, -500 ≤ n ∧ n ≤ 499) : ∀ (k i : Nat), i + k = min l.length 30 → ∀ (sl : List (Nat × AVal)) (mem : List (Nat × Blk)) (nx b : Nat) (X : List Acc),
    X = (ns.take i).map addOf → lk sl 0 = .list 1 (ints l) → lk sl 1 = a1 → lk sl 5 = .bool true → lk sl 6 = .vec b → mg mem b = some ⟨25, 4, lst Acc.c X⟩ → lk sl 7 = .int .i64 (ns.take i).sum → lk sl 8 = .int .i64 i →
    Ends (den Γ (.loop g7l0) ⟨sl, mem, nx, true⟩) fun e sl' mem' _ pr => e = .exit 0 ∧ pr = true ∧ (∃ b, lk sl' 6 = .vec b ∧ mg mem' b = some ⟨25, 4, lst Acc.c (ns.map addOf)⟩) ∧ lk sl' 1 = a1 ∧ lk sl' 5 = .bool true ∧ lk sl' 7 = .int .i64 ns.sum := by
  have hnl : ns.length = min l.length 30 := by rw [hns]; simp; omega
  intro k
  induction k with
  | zero =>
    intro i hi sl mem nx b X hX h0 h1 h5 h6 hb h7 h8
    have hr : renV [b] a1 = a1 := by unfold renV; split <;> first | rfl | simp_all [AVal.argOk, AVal.noRef]
    apply Ends_loop
    conv => lhs; lhs; rw [g7l0]
    rw [List.take_of_length_le (by omega)] at hX h7
    subst hX
    generalize ns.map addOf = Y at *
    by_cases hi4 : l.length ≤ 30
    · simp (disch := omega) [h0, h1, h5, h6, h7, h8, hb, show i = l.length by omega, hr]
    · simp (disch := omega) [h0, h1, h5, h6, h7, h8, hb, decT, decF, show i = 30 by omega, hr]
  | succ k ih =>
    intro i hi sl mem nx b X hX h0 h1 h5 h6 hb h7 h8
    have hr : renV [b] a1 = a1 := by unfold renV; split <;> first | rfl | simp_all [AVal.argOk, AVal.noRef]
    have hil : i < l.length := by omega
    have p1 := pick12 l[i] 1000 (hl l[i] (List.getElem_mem _)) (by omega)
    have q1 := pickI_lt l[i] 1000 (by omega)
    have hnsi : ns[i]? = some (pickI l[i] 1000 - 500) := by rw [hns]; simp [hil, show i < 30 by omega]
    have hnext : ns.take (i + 1) = ns.take i ++ [pickI l[i] 1000 - 500] := by rw [List.take_add_one, hnsi]; rfl
    have hsb := sum_bound (ns.take i) (fun n hn => hnb n (List.mem_of_mem_take hn))
    have hXl : X.length = i := by rw [hX]; simp; omega
    have htl : (ns.take i).length = i := by simp; omega
    rw [htl] at hsb
    have hsum : (ns.take (i + 1)).sum = (ns.take i).sum + (pickI l[i] 1000 - 500) := by rw [hnext]; simp
    have hmap : (ns.take (i + 1)).map addOf = X ++ [addOf (pickI l[i] 1000 - 500)] := by rw [hnext, hX]; simp
    generalize pickI l[i] 1000 = q at *
    generalize (ns.take i).sum = s at *
    have hone : ∀ L : List Acc, lst Acc.c L ++ [[AVal.int .i64 4, .int .i64 1, .int .i64 0, .int .i64 (q - 500)]] = lst Acc.c (L ++ [addOf (q - 500)]) := fun L => lst_one (x := addOf (q - 500))
    apply Ends_loop
    conv => lhs; lhs; rw [g7l0]
    simp (disch := omega) [h0, h1, h5, h6, h7, h8, hb, hil, decT, decF, ifT, p1, hone, hr]
    refine ih (i + 1) (by omega) _ _ _ 1 (X ++ [addOf (q - 500)]) hmap.symm ?_ ?_ ?_ ?_ ?_ ?_ ?_ <;> simp [hsum]
theorem adds_loop1 (ns : List Int) (hnl : ns.length ≤ 30) (hnb : ∀ n ∈ ns, -500 ≤ n ∧ n ≤ 499) (F : List Fnd) (hFl : F.length = ns.length) (hF : ∀ i, i < ns.length → F[i]? = some ⟨(ns.take i).sum, true⟩) (a b : List Int) (w : Int) : ∀ (k i : Nat), i + k = ns.length → ∀ (sl : List (Nat × AVal)) (mem : List (Nat × Blk)) (nx : Nat),
    lk sl 5 = .bool true → lk sl 6 = .list 4 (lst Acc.c (ns.map addOf)) → lk sl 7 = .int .i64 w → lk sl 11 = .list 1 (ints a) → lk sl 12 = .list 2 (lst Fnd.c F) → lk sl 14 = .list 1 (ints b) → lk sl 17 = .int .i64 (ns.take i).sum → lk sl 18 = .int .i64 i →
    Ends (den Γ (.loop g7l1) ⟨sl, mem, nx, true⟩) fun e sl' _ _ pr => e = .exit 2 ∧ pr = true ∧ lk sl' 5 = .bool true ∧ lk sl' 7 = .int .i64 w ∧ lk sl' 11 = .list 1 (ints a) ∧ lk sl' 14 = .list 1 (ints b) := by
  intro k
  induction k with
  | zero =>
    intro i hi sl mem nx h5 h6 h7 h11 h12 h14 h17 h18
    apply Ends_loop
    conv => lhs; lhs; rw [g7l1]
    generalize hL : ns.map addOf = L at *
    have hLl : L.length = ns.length := by rw [← hL]; simp
    simp (disch := omega) [h5, h6, h7, h11, h12, h14, h17, h18, show i = L.length by omega]
  | succ k ih =>
    intro i hi sl mem nx h5 h6 h7 h11 h12 h14 h17 h18
    have hil : i < ns.length := by omega
    have hFi : F[i]'(by omega) = ⟨(ns.take i).sum, true⟩ := by
      have := hF i hil
      rw [List.getElem?_eq_getElem (by omega)] at this
      exact Option.some.inj this
    have hsb := sum_bound (ns.take i) (fun n hn => hnb n (List.mem_of_mem_take hn))
    have htl : (ns.take i).length = i := by simp; omega
    rw [htl] at hsb
    have hn0 := hnb ns[i] (List.getElem_mem _)
    have hsum : (ns.take (i + 1)).sum = (ns.take i).sum + ns[i] := by
      rw [List.take_add_one, List.getElem?_eq_getElem hil, Option.toList_some, List.sum_append]
      simp
    have ih' := ih (i + 1) (by omega)
    rw [hsum] at ih'
    apply Ends_loop
    conv => lhs; lhs; rw [g7l1]
    generalize hL : ns.map addOf = L at *
    have hLl : L.length = ns.length := by rw [← hL]; simp
    have hLi : L[i]'(by omega) = ⟨4, 1, 0, ns[i]⟩ := by subst hL; simp [addOf]
    generalize ns[i] = n at *
    generalize (ns.take i).sum = s at *
    simp (disch := omega) [h5, h6, h7, h11, h12, h14, h17, h18, hLl, hil, hFl, hFi, hLi, Acc.c, Fnd.c]
    refine ih' _ _ _ ?_ ?_ ?_ ?_ ?_ ?_ ?_ ?_ <;> simp
theorem adds7 (raw : List Int) (at_ : Int) (hr : ∀ a ∈ raw, i64 a) (hat : i64 at_) : cd Γ 7 [.list 1 (ints raw), .int .i64 at_] = some (.bool true) := by
  rw [call (fn := g7) rfl rfl]
  apply Ends.fin
  have hnb : ∀ n ∈ ((raw.take 30).map fun n => pickI n 1000 - 500), -500 ≤ n ∧ n ≤ 499 := by
    intro n hn
    obtain ⟨m, _, rfl⟩ := List.mem_map.1 hn
    have := pickI_lt m 1000 (by omega)
    omega
  have hnl : ((raw.take 30).map fun n => pickI n 1000 - 500).length ≤ 30 := by simp; omega
  simp [g7, g7b, awake11]
  refine Ends.blk (adds_loop0 raw hr (.int .i64 at_) rfl _ rfl hnb (min raw.length 30) 0 (by omega) _ _ _ 0 [] rfl rfl rfl rfl rfl rfl rfl rfl) ?_
  generalize ((raw.take 30).map fun n => pickI n 1000 - 500) = ns at hnb hnl
  rintro e sl mem nx pr ⟨rfl, rfl, ⟨b, h6, hb⟩, h1, h5, h7⟩
  obtain ⟨hok, hmem⟩ := adds_run ns 0 0 hnb (by omega) (by omega) (by omega)
  have pk := pick12 at_ (ns.length + 1) hat (by omega)
  have qk := pickI_lt at_ (ns.length + 1) (by omega)
  generalize pickI at_ (ns.length + 1) = kk at pk qk
  obtain ⟨j, rfl⟩ : ∃ j : Nat, kk = j := ⟨kk.toNat, by omega⟩
  have hacc : ∀ a ∈ ns.map addOf, a.ok := by
    intro a ha
    obtain ⟨n, hn, rfl⟩ := List.mem_map.1 ha
    have := hnb n hn
    simp only [Acc.ok, addOf, i64]
    omega
  have hLl : (ns.map addOf).length = ns.length := by simp
  have hp := play17 [5, 0, 6] (ns.map addOf) (by simp) (by simp [i64]) (by omega) hacc
  rw [run_ok _ _ _ hok, hmem] at hp
  have hfl := fndN_len (ns.map addOf) [5, 0, 6]
  have hF : ∀ i, i < ns.length → (fndN [5, 0, 6] (ns.map addOf))[i]? = some ⟨(ns.take i).sum, true⟩ := by
    intro i hi
    rw [fndN_get _ _ i (by omega)]
    obtain ⟨_, hm⟩ := adds_run (ns.take i) 0 0 (fun n hn => hnb n (List.mem_of_mem_take hn)) (by omega) (by omega) (by simp; omega)
    have hsb := sum_bound (ns.take i) (fun n hn => hnb n (List.mem_of_mem_take hn))
    have htl : (ns.take i).length ≤ i := by simp; omega
    have hn0 := hnb ns[i] (List.getElem_mem _)
    rw [List.map_take] at hm
    rw [hm]
    rw [do_add (j := 1) (by simp) (by simp [addOf]) (by simp [addOf]) (by simp) (by simp [okW, addOf]; omega)]
    simp
  generalize fndN [5, 0, 6] (ns.map addOf) = F at hp hfl hF
  -- the other way round
  have hrot : ((ns.map addOf).drop j ++ (ns.map addOf).take j) = (ns.drop j ++ ns.take j).map addOf := by simp [List.map_drop, List.map_take]
  have hnb' : ∀ n ∈ ns.drop j ++ ns.take j, -500 ≤ n ∧ n ≤ 499 := by
    intro n hn
    rcases List.mem_append.1 hn with h | h
    · exact hnb n (List.mem_of_mem_drop h)
    · exact hnb n (List.mem_of_mem_take h)
  obtain ⟨hok', hmem'⟩ := adds_run (ns.drop j ++ ns.take j) 0 0 hnb' (by omega) (by omega) (by simp; omega)
  have hsum' : (ns.drop j ++ ns.take j).sum = ns.sum := by
    rw [List.sum_append, Int.add_comm, ← List.sum_append, List.take_append_drop]
  have hacc' : ∀ a ∈ (ns.drop j ++ ns.take j).map addOf, a.ok := by
    intro a ha
    obtain ⟨n, hn, rfl⟩ := List.mem_map.1 ha
    have := hnb' n hn
    simp only [Acc.ok, addOf, i64]
    omega
  have hp2 := play17 [5, 0, 6] ((ns.drop j ++ ns.take j).map addOf) (by simp) (by simp [i64]) (by simp; omega) hacc'
  rw [run_ok _ _ _ hok', hmem', hsum', ← hrot] at hp2
  simp only [Int.zero_add, playV, List.nil_append, hLl] at hp hp2 hfl
  have hi1 := ints15 [5, ns.sum, 6] [5, ns.sum, 6] (by simp)
  obtain ⟨A, hA⟩ : ∃ A, A = [5, ns.sum, 6] := ⟨_, rfl⟩
  rw [← hA] at hp hp2
  have hiA := ints15 A A (by rw [hA]; simp)
  have hiB : cd Γ 15 [.list 1 (ints A), .list 1 [[.int .i64 5], [.int .i64 ns.sum], [.int .i64 6]]] = some (.bool true) := by
    have := ints15 A [5, ns.sum, 6] (by rw [hA]; simp)
    rw [hA] at this ⊢
    simpa [lst] using this
  have hz : ints [5, 0, 6] = [[AVal.int .i64 5], [.int .i64 0], [.int .i64 6]] := rfl
  have e1 := adds_loop1 ns hnl hnb F hfl hF A A ns.sum ns.length 0 (by omega)
  generalize hL : ns.map addOf = L at *
  have hLn : L.length = ns.length := by rw [← hL]; simp
  rw [hz] at hp hp2
  simp (disch := omega) [h6, hb, h1, h5, h7, hLn, pk, hp, hp2, hfl, decT, decF, ifT]
  refine Ends.blk (e1 _ _ _ ?_ ?_ ?_ ?_ ?_ ?_ ?_ ?_) ?_
  all_goals first | rfl | (simp [h5, h7]; done) | skip
  rintro e sl mem nx pr ⟨rfl, rfl, h5, h7, h11, h14⟩
  simp [h5, h7, h11, h14, hiA, hiB]
theorem adds_cd (vs : List AVal) (h : ArgsOk [kIs, kI] vs) : cd Γ 7 vs = some (.bool true) := by
  obtain ⟨a, b, rfl, ha, hb⟩ := args2 h
  obtain ⟨l, rfl, h1, hl⟩ := arg_ints ha
  obtain ⟨n, rfl, hn⟩ := arg_int hb
  exact adds7 l n hl hn
end Go.Proofs.Ytcolbaaecbhkdaa.Ab
