/- The arguments of the seat's laws. No condition. -/
import Derived.Test.YtnomicnfgdjdeaaLazyP
import Derived.Test.YtnomicnfgdjdeaaLazyA
import Derived.Test.YtnomicnfgdjdeaaAb17
namespace Go.Proofs.Ytnomicnfgdjdeaa.Ab
open Go.RowKit
abbrev kI : Bool × List Cel := (false, [.int .i64])
abbrev kIs : Bool × List Cel := (false, [.slice 8 [.int .i64]])
abbrev kPs : Bool × List Cel := (false, [.slice 16 [.int .i64, .int .i64]])
abbrev kN (n : Nat) : Bool × List Cel := (true, List.replicate n (.int .i64))
abbrev kW : Bool × List Cel := (true, List.replicate 12 (.int .i64) ++ [.bool, .int .i64])
theorem i64_of {n : Int} (h : (Lit.int .i64 n).wf = true) : i64 n := by
  simp [Lit.wf, IntKind.min, IntKind.max, IntKind.signed, IntKind.bits] at h
  exact h
theorem lst_of {α : Type} (f : α → List AVal) (p : α → Prop) : ∀ (es : List (List AVal)), (∀ e ∈ es, ∃ x, e = f x ∧ p x) → ∃ l, es = lst f l ∧ l.length = es.length ∧ ∀ x ∈ l, p x
  | [], _ => ⟨[], rfl, rfl, by simp⟩
  | e :: es, h => by
    obtain ⟨x, rfl, hx⟩ := h e List.mem_cons_self
    obtain ⟨l, rfl, hl, hp⟩ := lst_of f p es (fun e he => h e (List.mem_cons_of_mem _ he))
    refine ⟨x :: l, rfl, by simp, fun y hy => ?_⟩
    rcases List.mem_cons.1 hy with rfl | hy
    · exact hx
    · exact hp y hy
theorem cel_int {a : AVal} (h : CelOk (.int .i64) a) : ∃ n, a = .int .i64 n ∧ i64 n := by
  rw [CelOk] at h
  obtain ⟨n, rfl, hn⟩ := h
  exact ⟨n, rfl, i64_of hn⟩
/-- A row that begins with so many numbers. -/
theorem rowN {cs : List Cel} : ∀ (n : Nat) {e : List AVal}, RowOk (List.replicate n (.int .i64) ++ cs) e → ∃ (l : List Int) (r : List AVal), e = l.map (AVal.int .i64) ++ r ∧ l.length = n ∧ (∀ x ∈ l, i64 x) ∧ RowOk cs r
  | 0, e, h => ⟨[], e, rfl, rfl, by simp, by simpa using h⟩
  | n + 1, [], h => by simp [List.replicate_succ, RowOk] at h
  | n + 1, a :: e, h => by
    rw [List.replicate_succ, List.cons_append, RowOk] at h
    obtain ⟨x, rfl, hx⟩ := cel_int h.1
    obtain ⟨l, r, rfl, h1, h2, h3⟩ := rowN n h.2
    exact ⟨x :: l, r, by simp, by simp [h1], fun y hy => by rcases List.mem_cons.1 hy with rfl | hy; exact hx; exact h2 y hy, h3⟩
theorem rowN0 {n : Nat} {e : List AVal} (h : RowOk (List.replicate n (.int .i64)) e) : ∃ l : List Int, e = l.map (AVal.int .i64) ∧ l.length = n ∧ ∀ x ∈ l, i64 x := by
  obtain ⟨l, r, h1, h2, h3, h4⟩ := rowN (cs := []) n (by simpa using h)
  have : r = [] := List.eq_nil_of_length_eq_zero (by simpa using h4.len)
  subst this
  exact ⟨l, by simpa using h1, h2, h3⟩
theorem rowW {e : List AVal} (h : RowOk (List.replicate 12 (.int .i64) ++ [.bool, .int .i64]) e) : ∃ w : Wk, e = w.c ∧ w.ok := by
  obtain ⟨l, r, rfl, h2, h3, h4⟩ := rowN 12 h
  match l, h2 with
  | [a, b, c, d, e, f, g, i, j, k, m, n], _ =>
    match r, h4 with
    | [x, y], h4 =>
      simp only [RowOk, CelOk] at h4
      obtain ⟨⟨q, rfl⟩, hy, _⟩ := h4
      obtain ⟨z, rfl, hz⟩ := hy
      exact ⟨⟨a, b, c, d, e, f, g, i, j, k, m, n, q, z⟩, rfl, h3 _ (by simp), h3 _ (by simp), h3 _ (by simp), h3 _ (by simp), h3 _ (by simp), h3 _ (by simp), h3 _ (by simp), h3 _ (by simp), h3 _ (by simp), h3 _ (by simp), h3 _ (by simp), h3 _ (by simp), i64_of hz⟩
    | [], h4 => simp [RowOk] at h4
    | [_], h4 => simp [RowOk] at h4
    | _ :: _ :: _ :: _, h4 => simp [RowOk] at h4
theorem rowP {e : List AVal} (h : RowOk [.int .i64, .int .i64] e) : ∃ p : Pr, e = p.c ∧ p.ok := by
  obtain ⟨l, rfl, h1, h2⟩ := rowN0 (n := 2) h
  match l, h1 with
  | [a, b], _ => exact ⟨⟨a, b⟩, rfl, h2 _ (by simp), h2 _ (by simp)⟩
theorem row1 {e : List AVal} (h : RowOk [.int .i64] e) : ∃ n, e = cI n ∧ i64 n := by
  obtain ⟨l, rfl, h1, h2⟩ := rowN0 (n := 1) h
  match l, h1 with
  | [a], _ => exact ⟨a, rfl, h2 _ (by simp)⟩
theorem arg_int {a : AVal} (h : ValOk kI a) : ∃ n, a = .int .i64 n ∧ i64 n := by
  simp only [ValOk, Bool.false_eq_true, if_false, RowOk] at h
  exact cel_int h.1
theorem arg_slice {a : AVal} {bytes : Nat} {cs : List Cel} (h : ValOk (false, [.slice bytes cs]) a) : ∃ es, a = .list cs.length es ∧ es.length * bytes ≤ 140737488355328 ∧ ∀ e ∈ es, RowOk cs e := by
  simp only [ValOk, Bool.false_eq_true, if_false, RowOk, CelOk] at h
  exact h.1
theorem arg_ints {a : AVal} (h : ValOk kIs a) : ∃ l : List Int, a = .list 1 (ints l) ∧ l.length * 8 ≤ 140737488355328 ∧ ∀ n ∈ l, i64 n := by
  obtain ⟨es, rfl, h1, h2⟩ := arg_slice h
  obtain ⟨l, rfl, hl, hp⟩ := lst_of cI i64 es (fun e he => row1 (h2 e he))
  exact ⟨l, rfl, by rw [hl]; exact h1, hp⟩
theorem arg_prs {a : AVal} (h : ValOk kPs a) : ∃ l : List Pr, a = .list 2 (lst Pr.c l) ∧ l.length * 16 ≤ 140737488355328 ∧ ∀ n ∈ l, n.ok := by
  obtain ⟨es, rfl, h1, h2⟩ := arg_slice h
  obtain ⟨l, rfl, hl, hp⟩ := lst_of Pr.c Pr.ok es (fun e he => rowP (h2 e he))
  exact ⟨l, rfl, by rw [hl]; exact h1, hp⟩
theorem arg_w {a : AVal} (h : ValOk kW a) : ∃ w : Wk, a = .agg w.c ∧ w.ok := by
  simp only [ValOk, if_true] at h
  obtain ⟨vs, rfl, h⟩ := h
  obtain ⟨w, rfl, hw⟩ := rowW h
  exact ⟨w, rfl, hw⟩
theorem arg_n {n : Nat} {a : AVal} (h : ValOk (kN n) a) : ∃ l : List Int, a = .agg (l.map (AVal.int .i64)) ∧ l.length = n ∧ ∀ x ∈ l, i64 x := by
  simp only [ValOk, if_true] at h
  obtain ⟨vs, rfl, h⟩ := h
  obtain ⟨l, rfl, h1, h2⟩ := rowN0 h
  exact ⟨l, rfl, h1, h2⟩
theorem arg_p {a : AVal} (h : ValOk (kN 2) a) : ∃ p : Pr, a = .agg p.c ∧ p.ok := by
  obtain ⟨l, rfl, h1, h2⟩ := arg_n h
  match l, h1 with
  | [x, y], _ => exact ⟨⟨x, y⟩, rfl, h2 _ (by simp), h2 _ (by simp)⟩
theorem args2 {k k' : Bool × List Cel} {vs : List AVal} (h : ArgsOk [k, k'] vs) : ∃ a b, vs = [a, b] ∧ ValOk k a ∧ ValOk k' b := by
  match vs, h with
  | [a, b], h => exact ⟨a, b, rfl, h.1, h.2.1⟩
theorem args3 {k k' k2 : Bool × List Cel} {vs : List AVal} (h : ArgsOk [k, k', k2] vs) : ∃ a b c, vs = [a, b, c] ∧ ValOk k a ∧ ValOk k' b ∧ ValOk k2 c := by
  match vs, h with
  | [a, b, c], h => exact ⟨a, b, c, rfl, h.1, h.2.1, h.2.2.1⟩
theorem args4 {k k' k'' k3 : Bool × List Cel} {vs : List AVal} (h : ArgsOk [k, k', k'', k3] vs) : ∃ a b c d, vs = [a, b, c, d] ∧ ValOk k a ∧ ValOk k' b ∧ ValOk k'' c ∧ ValOk k3 d := by
  match vs, h with
  | [a, b, c, d], h => exact ⟨a, b, c, d, rfl, h.1, h.2.1, h.2.2.1, h.2.2.2.1⟩
theorem args5 {k0 k1 k2 k3 k4 : Bool × List Cel} {vs : List AVal} (h : ArgsOk [k0, k1, k2, k3, k4] vs) : ∃ a b c d e, vs = [a, b, c, d, e] ∧ ValOk k0 a ∧ ValOk k1 b ∧ ValOk k2 c ∧ ValOk k3 d ∧ ValOk k4 e := by
  match vs, h with
  | [a, b, c, d, e], h => exact ⟨a, b, c, d, e, rfl, h.1, h.2.1, h.2.2.1, h.2.2.2.1, h.2.2.2.2.1⟩
theorem args8 {k0 k1 k2 k3 k4 k5 k6 k7 : Bool × List Cel} {vs : List AVal} (h : ArgsOk [k0, k1, k2, k3, k4, k5, k6, k7] vs) : ∃ a b c d e f g i, vs = [a, b, c, d, e, f, g, i] ∧ ValOk k0 a ∧ ValOk k1 b ∧ ValOk k2 c ∧ ValOk k3 d ∧ ValOk k4 e ∧ ValOk k5 f ∧ ValOk k6 g ∧ ValOk k7 i := by
  match vs, h with
  | [a, b, c, d, e, f, g, i], h => exact ⟨a, b, c, d, e, f, g, i, rfl, h.1, h.2.1, h.2.2.1, h.2.2.2.1, h.2.2.2.2.1, h.2.2.2.2.2.1, h.2.2.2.2.2.2.1, h.2.2.2.2.2.2.2.1⟩
/-- Workers that are the same. -/
theorem eqW (w : Wk) : eqK [false, false, false, false, false, false, false, false, false, false, false, false, true, false] w.c w.c = some true := by simp [Wk.c]
theorem eqWd (w v : Wk) : eqK [false, false, false, false, false, false, false, false, false, false, false, false, true, false] w.c v.c = some (decide (w = v)) := by
  by_cases h : w = v
  · subst h; rw [eqW]; simp
  · obtain ⟨a0, a1, a2, a3, a4, a5, a6, a7, a8, a9, a10, a11, a12, a13⟩ := w
    obtain ⟨b0, b1, b2, b3, b4, b5, b6, b7, b8, b9, b10, b11, b12, b13⟩ := v
    simp only [Wk.mk.injEq] at h ⊢
    simp [Wk.c, Bool.decide_and]
end Go.Proofs.Ytnomicnfgdjdeaa.Ab
