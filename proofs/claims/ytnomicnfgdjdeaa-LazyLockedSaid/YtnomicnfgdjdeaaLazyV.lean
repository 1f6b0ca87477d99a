/- The environment of the seat: the functions as the interpreter's code, and what slices.Clone answers. No condition. -/
import Derived.Test.YtnomicnfgdjdeaaLazyG
import Derived.Test.YtnomicnfgdjdeaaAb15
import Derived.Test.YtnomicnfgdjdeaaProg
namespace Go.Proofs.Ytnomicnfgdjdeaa.Ab
open Go.RowKit

def lazyExt (f : Nat) (args : List AVal) : Option AVal :=
  match f, args with
  | 41, [.list 1 es] => if es.length * 8 ≤ 140737488355328 then some (.own 3 1 es) else none
  | _, _ => none
def Γ : Env := ⟨lazyFn, lazyExt⟩
theorem call {f : Nat} {args : List AVal} {fn : AFn} (h : lazyFn f = some fn) (hl : args.length = fn.np) : cd Γ f args = finP fn.res (den Γ fn.body ⟨argSlots 0 args, [], 0, true⟩) := cd_fn h hl

set_option linter.unusedSimpArgs false
theorem within67 (n : Int) : cd Γ 67 [.int .i64 n] = some (.bool (decide (-1152921504606846975 ≤ n ∧ n ≤ 1152921504606846975))) := by
  rw [call (fn := g67) rfl rfl]
  by_cases h : -1152921504606846975 ≤ n <;> simp [g67, g67b, h]
theorem within85 (n : Int) : cd Γ 85 [.int .i64 n] = some (.bool (decide (-1152921504606846975 ≤ n ∧ n ≤ 1152921504606846975))) := by
  rw [call (fn := g85) rfl rfl]
  by_cases h : -1152921504606846975 ≤ n <;> simp [g85, g85b, h]
def pickI (c n : Int) : Int := (if c < 0 then -(c + 1) else c) % n
theorem pick17 (a n : Int) (ha : -9223372036854775808 ≤ a ∧ a ≤ 9223372036854775807) (hn : 0 < n) : cd Γ 17 [.int .i64 a, .int .i64 n] = some (.int .i64 (pickI a n)) := by
  rw [call (fn := g17) rfl rfl]
  have h0 : ¬ n = 0 := by omega
  by_cases h : a < 0
  · simp (disch := omega) [g17, g17b, h, h0, pickI]
    rw [← Int.neg_tmod]
    exact Int.tmod_eq_emod_of_nonneg (by omega)
  · simp (disch := omega) [g17, g17b, h, h0, pickI]
    exact Int.tmod_eq_emod_of_nonneg (by omega)
theorem pick39 (a n : Int) (ha : -9223372036854775808 ≤ a ∧ a ≤ 9223372036854775807) (hn : 0 < n) : cd Γ 39 [.int .i64 a, .int .i64 n] = some (.int .i64 (pickI a n)) := by
  rw [call (fn := g39) rfl rfl]
  have h0 : ¬ n = 0 := by omega
  by_cases h : a < 0
  · simp (disch := omega) [g39, g39b, h, h0, pickI]
    rw [← Int.neg_tmod]
    exact Int.tmod_eq_emod_of_nonneg (by omega)
  · simp (disch := omega) [g39, g39b, h, h0, pickI]
    exact Int.tmod_eq_emod_of_nonneg (by omega)
theorem pick47 (a n : Int) (ha : -9223372036854775808 ≤ a ∧ a ≤ 9223372036854775807) (hn : 0 < n) : cd Γ 47 [.int .i64 a, .int .i64 n] = some (.int .i64 (pickI a n)) := by
  rw [call (fn := g47) rfl rfl]
  have h0 : ¬ n = 0 := by omega
  by_cases h : a < 0
  · simp (disch := omega) [g47, g47b, h, h0, pickI]
    rw [← Int.neg_tmod]
    exact Int.tmod_eq_emod_of_nonneg (by omega)
  · simp (disch := omega) [g47, g47b, h, h0, pickI]
    exact Int.tmod_eq_emod_of_nonneg (by omega)
abbrev ints (l : List Int) : List (List AVal) := lst cI l
theorem ints21_loop (a b : List Int) (hl : a.length = b.length) (hb : a.length < 9223372036854775807) : ∀ (k i : Nat), i + k = a.length → ∀ (r : Bool), r = decide (a.drop i = b.drop i) → ∀ (sl : List (Nat × AVal)) (mem : List (Nat × Blk)) (nx : Nat),
    lk sl 0 = .list 1 (ints a) → lk sl 1 = .list 1 (ints b) → lk sl 5 = .int .i64 i →
    Ends (den Γ (.loop g21l0) ⟨sl, mem, nx, true⟩) fun e sl' _ _ _ => if r then e = .exit 0 else e = .ret ∧ lk sl' 4 = .bool false := by
  intro k
  induction k with
  | zero =>
    intro i hi r hr sl mem nx h0 h1 h2
    apply Ends_loop
    conv => lhs; lhs; rw [g21l0]
    have : r = true := by rw [hr]; simp [List.drop_of_length_le (show a.length ≤ i by omega), List.drop_of_length_le (show b.length ≤ i by omega)]
    simp [h0, h1, h2, hl, show i = b.length by omega, this]
  | succ k ih =>
    intro i hi r hr sl mem nx h0 h1 h2
    have hia : i < a.length := by omega
    have hib : i < b.length := by omega
    apply Ends_loop
    conv => lhs; lhs; rw [g21l0]
    rw [List.drop_eq_getElem_cons hia, List.drop_eq_getElem_cons hib] at hr
    by_cases hxy : a[i] = b[i]
    · simp (disch := omega) [h0, h1, h2, hia, hib, hxy]
      refine ih (i + 1) (by omega) r (by simp [hr, hxy, -List.getElem_cons_drop]) _ _ _ ?_ ?_ ?_ <;> simp
    · have : r = false := by simp [hr, hxy, -List.getElem_cons_drop]
      simp (disch := omega) [h0, h1, h2, hia, hib, hxy, this]
theorem ints21 (a b : List Int) (hb : a.length < 9223372036854775807) : cd Γ 21 [.list 1 (ints a), .list 1 (ints b)] = some (.bool (decide (a = b))) := by
  rw [call (fn := g21) rfl rfl]
  apply Ends.fin
  by_cases hl : a.length = b.length
  · simp [g21, g21b, hl]
    refine Ends.blk (ints21_loop a b hl hb a.length 0 (by omega) _ rfl _ _ _ ?_ ?_ ?_) ?_ <;> simp
    intro e sl
    by_cases hab : a = b
    · simp +contextual [hab]
    · simp +contextual [hab]
  · have : ¬ a = b := fun h => hl (by rw [h])
    simp [g21, g21b, this, hl]
theorem wrap64_cases (a : Int) (h : -18446744073709551616 ≤ a ∧ a ≤ 18446744073709551614) :
    (IntKind.i64.wrap a = a ∧ -9223372036854775808 ≤ a ∧ a ≤ 9223372036854775807) ∨ (IntKind.i64.wrap a = a - 18446744073709551616 ∧ 9223372036854775807 < a) ∨ (IntKind.i64.wrap a = a + 18446744073709551616 ∧ a < -9223372036854775808) := by
  have e : IntKind.i64.wrap a = (a + 9223372036854775808) % 18446744073709551616 - 9223372036854775808 := by
    unfold IntKind.wrap
    simp [IntKind.signed, IntKind.bits]
    split <;> omega
  omega
theorem sum84 (x n : Int) (hx : -9223372036854775808 ≤ x ∧ x ≤ 9223372036854775807) (hn : -9223372036854775808 ≤ n ∧ n ≤ 9223372036854775807) :
    cd Γ 84 [.int .i64 x, .int .i64 n] = some (if -1152921504606846975 ≤ x + n ∧ x + n ≤ 1152921504606846975 then .tup [.int .i64 (x + n), .bool true] else .tup [.int .i64 0, .bool false]) := by
  rw [call (fn := g84) rfl rfl]
  generalize hy : IntKind.i64.wrap (x + n) = y
  have hc := wrap64_cases (x + n) (by omega)
  rw [hy] at hc
  by_cases h1 : x < y <;> by_cases h2 : 0 < n <;> by_cases h3 : -1152921504606846975 ≤ y ∧ y ≤ 1152921504606846975 <;> simp [g84, g84b, hy, h1, h2, h3, within85] <;> (try split) <;> (try simp) <;> omega

/-! ### Do -/
structure Acc where
  op : Int
  at_ : Int
  old : Int
  new : Int
structure Fnd where
  v : Int
  d : Bool
  deriving DecidableEq
def i64 (a : Int) : Prop := -9223372036854775808 ≤ a ∧ a ≤ 9223372036854775807
def Acc.ok (a : Acc) : Prop := i64 a.op ∧ i64 a.at_ ∧ i64 a.old ∧ i64 a.new
def Acc.c (a : Acc) : List AVal := [.int .i64 a.op, .int .i64 a.at_, .int .i64 a.old, .int .i64 a.new]
def Fnd.c (f : Fnd) : List AVal := [.int .i64 f.v, .bool f.d]
def okW (n : Int) : Prop := -1152921504606846975 ≤ n ∧ n ≤ 1152921504606846975
instance (n : Int) : Decidable (okW n) := by unfold okW; infer_instance
def doS (m : List Int) (a : Acc) : List Int × Fnd × Int :=
  if 50000 < m.length then (m, ⟨0, false⟩, 2)
  else if a.op < 1 ∨ 4 < a.op then (m, ⟨0, false⟩, 1)
  else if a.at_ < 0 ∨ (m.length : Int) ≤ a.at_ then (m, ⟨0, false⟩, 20)
  else if a.op = 1 then (m, ⟨m.getD a.at_.toNat 0, true⟩, 0)
  else if a.op = 3 ∧ m.getD a.at_.toNat 0 ≠ a.old then (m, ⟨m.getD a.at_.toNat 0, false⟩, 0)
  else if okW (if a.op = 4 then m.getD a.at_.toNat 0 + a.new else a.new) then
    (m.set a.at_.toNat (if a.op = 4 then m.getD a.at_.toNat 0 + a.new else a.new), ⟨m.getD a.at_.toNat 0, true⟩, 0)
  else (m, ⟨0, false⟩, 20)
def own3 (r : List Int × Fnd × Int) : AVal := .tup [.own 3 1 (ints r.1), .agg r.2.1.c, .int .i64 r.2.2]
theorem Acc.c_len (a : Acc) : a.c.length = 4 := rfl
theorem Acc.c_nr (a : Acc) : a.c.all AVal.noRef = true := rfl
theorem Fnd.c_len (a : Fnd) : a.c.length = 2 := rfl
theorem Fnd.c_nr (a : Fnd) : a.c.all AVal.noRef = true := rfl
theorem Acc.c_take (a : Acc) : a.c.take 4 = a.c := rfl
theorem Acc.c_drop (a : Acc) : a.c.drop 4 = [] := rfl
theorem Fnd.c_take (a : Fnd) : a.c.take 2 = a.c := rfl
theorem Fnd.c_drop (a : Fnd) : a.c.drop 2 = [] := rfl
attribute [simp] Acc.c_len Acc.c_nr Fnd.c_len Fnd.c_nr Acc.c_take Acc.c_drop Fnd.c_take Fnd.c_drop
theorem clone41 (m : List Int) (h : m.length * 8 ≤ 140737488355328) : cd Γ 41 [.list 1 (ints m)] = some (.own 3 1 (ints m)) := by
  rw [cd_ext rfl]
  simp [Γ, lazyExt, h]
theorem do83 (m : List Int) (a : Acc) (hm : m.length * 8 ≤ 140737488355328) (hi : ∀ n ∈ m, i64 n) (ha : a.ok) : cd Γ 83 [.list 1 (ints m), .agg a.c] = some (own3 (doS m a)) := by
  obtain ⟨op, i, old, new⟩ := a
  obtain ⟨h1, h2, h3, h4⟩ := ha
  rw [call (fn := g83) rfl rfl]
  simp only [i64] at h1 h2 h3 h4 hi
  have hc := clone41 m hm
  by_cases c1 : 50000 < m.length
  · simp (disch := omega) [decT, decF, ifT, ifF, g83, g83b, hc, Acc.c, Fnd.c, own3, doS, c1]
  by_cases c2 : op < 1 
  · simp (disch := omega) [decT, decF, ifT, ifF, g83, g83b, hc, Acc.c, Fnd.c, own3, doS, c1, c2]
  by_cases c3 : 4 < op 
  · simp (disch := omega) [decT, decF, ifT, ifF, g83, g83b, hc, Acc.c, Fnd.c, own3, doS, c1, c2, c3]
  by_cases c4 : i < 0 
  · simp (disch := omega) [decT, decF, ifT, ifF, g83, g83b, hc, Acc.c, Fnd.c, own3, doS, c1, c2, c3, c4]
  by_cases c5 : (m.length : Int) ≤ i
  · simp (disch := omega) [decT, decF, ifT, ifF, g83, g83b, hc, Acc.c, Fnd.c, own3, doS, c1, c2, c3, c4, c5]
  obtain ⟨j, rfl⟩ : ∃ j : Nat, i = j := ⟨i.toNat, by omega⟩
  have hj : j < m.length := by omega
  have hx := hi m[j] (List.getElem_mem _)
  by_cases c6 : op = 1
  · simp (disch := omega) [decT, decF, ifT, ifF, g83, g83b, hc, Acc.c, Fnd.c, own3, doS, c1, c2, c3, c4, c5, hj, c6]
  by_cases c7 : op = 4
  · by_cases c8 : okW (m[j] + new) <;> have c8' := c8 <;> unfold okW at c8' <;>
    simp (disch := omega) [decT, decF, ifT, ifF, g83, g83b, hc, Acc.c, Fnd.c, own3, doS, c1, c2, c3, c4, c5, hj, c6, c7, sum84 m[j] new hx h4, c8', c8]
  by_cases c9 : op = 3
  · by_cases c10 : m[j] = old
    · by_cases c8 : okW new <;> have c8' := c8 <;> unfold okW at c8' <;>
      simp (disch := omega) [decT, decF, ifT, ifF, g83, g83b, hc, Acc.c, Fnd.c, own3, doS, c1, c2, c3, c4, c5, hj, c6, c7, c9, c10, within85, c8', c8]
    · simp (disch := omega) [decT, decF, ifT, ifF, g83, g83b, hc, Acc.c, Fnd.c, own3, doS, c1, c2, c3, c4, c5, hj, c6, c7, c9, c10]
  by_cases c8 : okW new <;> have c8' := c8 <;> unfold okW at c8' <;>
  simp (disch := omega) [decT, decF, ifT, ifF, g83, g83b, hc, Acc.c, Fnd.c, own3, doS, c1, c2, c3, c4, c5, hj, c6, c7, c9, within85, c8', c8, List.map_set, show op = 2 by omega]
end Go.Proofs.Ytnomicnfgdjdeaa.Ab
