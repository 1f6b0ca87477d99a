/- The arguments of the seat's laws. No condition. -/
import Derived.Test.YtcolbaaecbhkdaaMemY
import Derived.Test.YtcolbaaecbhkdaaMemE
namespace Go.Proofs.Ytcolbaaecbhkdaa.Ab
open Go.RowKit
abbrev kI : Bool × List Cel := (false, [.int .i64])
abbrev kIs : Bool × List Cel := (false, [.slice 8 [.int .i64]])
abbrev k4 : List Cel := [.int .i64, .int .i64, .int .i64, .int .i64]
abbrev kRs : Bool × List Cel := (false, [.slice 32 k4])
abbrev kR : Bool × List Cel := (true, k4)
abbrev kPs : Bool × List Cel := (false, [.slice 16 [.int .i64, .int .i64]])
theorem i64_of {n : Int} (h : (Lit.int .i64 n).wf = true) : i64 n := by
  simp [Lit.wf, IntKind.min, IntKind.max, IntKind.signed, IntKind.bits] at h
  exact h
theorem lst_of {α : Type} (f : α → List AVal) (p : α → Prop) : ∀ (es : List (List AVal)), (∀ e ∈ es, ∃ x, e = f x ∧ p x) → ∃ l, es = lst f l ∧ l.length = es.length ∧ ∀ x ∈ l, p x
  | [], _ => ⟨[], rfl, rfl, by simp⟩
  | e :: es, h => by
    obtain ⟨x, rfl, hx⟩ := h e List.mem_cons_self
    obtain ⟨l, rfl, hl, hp⟩ := lst_of f p es (fun e he => h e (List.mem_cons_of_mem _ he))
    refine ⟨x :: l, rfl, by simp, fun y hy => ?_⟩
    rcases List.mem_cons.1 hy with rfl | hy
    · exact hx
    · exact hp y hy
theorem cel_int {a : AVal} (h : CelOk (.int .i64) a) : ∃ n, a = .int .i64 n ∧ i64 n := by
  rw [CelOk] at h
  obtain ⟨n, rfl, hn⟩ := h
  exact ⟨n, rfl, i64_of hn⟩
theorem row1 {e : List AVal} (h : RowOk [.int .i64] e) : ∃ n, e = cI n ∧ i64 n := by
  match e, h with
  | [a], h =>
    rw [RowOk] at h
    obtain ⟨n, rfl, hn⟩ := cel_int h.1
    exact ⟨n, rfl, hn⟩
  | [], h => simp [RowOk] at h
  | _ :: _ :: _, h => simp [RowOk] at h
theorem row4 {e : List AVal} (h : RowOk k4 e) : ∃ a b c d, e = [.int .i64 a, .int .i64 b, .int .i64 c, .int .i64 d] ∧ i64 a ∧ i64 b ∧ i64 c ∧ i64 d := by
  match e, h with
  | [a, b, c, d], h =>
    simp only [RowOk] at h
    obtain ⟨h1, h2, h3, h4, _⟩ := h
    obtain ⟨a, rfl, q1⟩ := cel_int h1
    obtain ⟨b, rfl, q2⟩ := cel_int h2
    obtain ⟨c, rfl, q3⟩ := cel_int h3
    obtain ⟨d, rfl, q4⟩ := cel_int h4
    exact ⟨a, b, c, d, rfl, q1, q2, q3, q4⟩
  | [], h => simp [RowOk] at h
  | [_], h => simp [RowOk] at h
  | [_, _], h => simp [RowOk] at h
  | [_, _, _], h => simp [RowOk] at h
  | _ :: _ :: _ :: _ :: _ :: _, h => simp [RowOk] at h
structure Pair where
  a : Int
  b : Int
def Pair.c (p : Pair) : List AVal := [.int .i64 p.a, .int .i64 p.b]
def Pair.ok (p : Pair) : Prop := i64 p.a ∧ i64 p.b
theorem row2 {e : List AVal} (h : RowOk [.int .i64, .int .i64] e) : ∃ p : Pair, e = p.c ∧ p.ok := by
  match e, h with
  | [a, b], h =>
    simp only [RowOk] at h
    obtain ⟨h1, h2, _⟩ := h
    obtain ⟨a, rfl, q1⟩ := cel_int h1
    obtain ⟨b, rfl, q2⟩ := cel_int h2
    exact ⟨⟨a, b⟩, rfl, q1, q2⟩
  | [], h => simp [RowOk] at h
  | [_], h => simp [RowOk] at h
  | _ :: _ :: _ :: _, h => simp [RowOk] at h
theorem arg_int {a : AVal} (h : ValOk kI a) : ∃ n, a = .int .i64 n ∧ i64 n := by
  simp only [ValOk, Bool.false_eq_true, if_false, RowOk] at h
  exact cel_int h.1
theorem arg_slice {a : AVal} {bytes : Nat} {cs : List Cel} (h : ValOk (false, [.slice bytes cs]) a) : ∃ es, a = .list cs.length es ∧ es.length * bytes ≤ 140737488355328 ∧ ∀ e ∈ es, RowOk cs e := by
  simp only [ValOk, Bool.false_eq_true, if_false, RowOk, CelOk] at h
  exact h.1
theorem arg_ints {a : AVal} (h : ValOk kIs a) : ∃ l : List Int, a = .list 1 (ints l) ∧ l.length * 8 ≤ 140737488355328 ∧ ∀ n ∈ l, i64 n := by
  obtain ⟨es, rfl, h1, h2⟩ := arg_slice h
  obtain ⟨l, rfl, hl, hp⟩ := lst_of cI i64 es (fun e he => row1 (h2 e he))
  exact ⟨l, rfl, by rw [hl]; exact h1, hp⟩
theorem arg_raws {a : AVal} (h : ValOk kRs a) : ∃ l : List Raw, a = .list 4 (lst Raw.cs l) ∧ l.length * 32 ≤ 140737488355328 ∧ ∀ n ∈ l, n.ok := by
  obtain ⟨es, rfl, h1, h2⟩ := arg_slice h
  obtain ⟨l, rfl, hl, hp⟩ := lst_of Raw.cs Raw.ok es (fun e he => by obtain ⟨a, b, c, d, rfl, q⟩ := row4 (h2 e he); exact ⟨⟨a, b, c, d⟩, rfl, q⟩)
  exact ⟨l, rfl, by rw [hl]; exact h1, hp⟩
theorem arg_accs {a : AVal} (h : ValOk kRs a) : ∃ l : List Acc, a = .list 4 (lst Acc.c l) ∧ l.length * 32 ≤ 140737488355328 ∧ ∀ n ∈ l, n.ok := by
  obtain ⟨es, rfl, h1, h2⟩ := arg_slice h
  obtain ⟨l, rfl, hl, hp⟩ := lst_of Acc.c Acc.ok es (fun e he => by obtain ⟨a, b, c, d, rfl, q⟩ := row4 (h2 e he); exact ⟨⟨a, b, c, d⟩, rfl, q⟩)
  exact ⟨l, rfl, by rw [hl]; exact h1, hp⟩
theorem arg_pairs {a : AVal} (h : ValOk kPs a) : ∃ l : List Pair, a = .list 2 (lst Pair.c l) ∧ l.length * 16 ≤ 140737488355328 ∧ ∀ n ∈ l, n.ok := by
  obtain ⟨es, rfl, h1, h2⟩ := arg_slice h
  obtain ⟨l, rfl, hl, hp⟩ := lst_of Pair.c Pair.ok es (fun e he => row2 (h2 e he))
  exact ⟨l, rfl, by rw [hl]; exact h1, hp⟩
theorem arg_raw {a : AVal} (h : ValOk kR a) : ∃ r : Raw, a = .agg r.cs ∧ r.ok := by
  simp only [ValOk, if_true] at h
  obtain ⟨vs, rfl, h⟩ := h
  obtain ⟨a, b, c, d, rfl, q⟩ := row4 h
  exact ⟨⟨a, b, c, d⟩, rfl, q⟩
theorem arg_acc {a : AVal} (h : ValOk kR a) : ∃ r : Acc, a = .agg r.c ∧ r.ok := by
  simp only [ValOk, if_true] at h
  obtain ⟨vs, rfl, h⟩ := h
  obtain ⟨a, b, c, d, rfl, q⟩ := row4 h
  exact ⟨⟨a, b, c, d⟩, rfl, q⟩
theorem args1 {k : Bool × List Cel} {vs : List AVal} (h : ArgsOk [k] vs) : ∃ a, vs = [a] ∧ ValOk k a := by
  match vs, h with
  | [a], h => exact ⟨a, rfl, h.1⟩
theorem args2 {k k' : Bool × List Cel} {vs : List AVal} (h : ArgsOk [k, k'] vs) : ∃ a b, vs = [a, b] ∧ ValOk k a ∧ ValOk k' b := by
  match vs, h with
  | [a, b], h => exact ⟨a, b, rfl, h.1, h.2.1⟩
theorem args4 {k k' k'' k3 : Bool × List Cel} {vs : List AVal} (h : ArgsOk [k, k', k'', k3] vs) : ∃ a b c d, vs = [a, b, c, d] ∧ ValOk k a ∧ ValOk k' b ∧ ValOk k'' c ∧ ValOk k3 d := by
  match vs, h with
  | [a, b, c, d], h => exact ⟨a, b, c, d, rfl, h.1, h.2.1, h.2.2.1, h.2.2.2.1⟩
end Go.Proofs.Ytcolbaaecbhkdaa.Ab
