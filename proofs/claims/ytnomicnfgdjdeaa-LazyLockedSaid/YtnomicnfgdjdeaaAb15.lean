/- How loops are used: what holds behind a piece of code. Part of a layer that interprets Go code over values. No condition. -/
import Derived.Test.YtnomicnfgdjdeaaAb14
namespace Go.Proofs.Ytnomicnfgdjdeaa.Ab
open Go.RowKit

/-- It ends, and so: -/
def Ends (x : Option (AExit × St)) (Q : AExit → List (Nat × AVal) → List (Nat × Blk) → Nat → Bool → Prop) : Prop :=
  ∃ e sl mem nx pr, x = some (e, ⟨sl, mem, nx, pr⟩) ∧ Q e sl mem nx pr
variable {x : Option (AExit × St)} {Q Q' : AExit → List (Nat × AVal) → List (Nat × Blk) → Nat → Bool → Prop}
theorem Ends.some {e : AExit} {sl mem nx pr} (h : Q e sl mem nx pr) : Ends (some (e, ⟨sl, mem, nx, pr⟩)) Q := ⟨e, sl, mem, nx, pr, rfl, h⟩
theorem Ends_some {e : AExit} {sl mem nx pr} : Ends (some (e, ⟨sl, mem, nx, pr⟩)) Q = Q e sl mem nx pr :=
  propext ⟨fun ⟨_, _, _, _, _, h, hq⟩ => by cases h; exact hq, Ends.some⟩
theorem Ends.mono (h : Ends x Q) (hq : ∀ e sl mem nx pr, Q e sl mem nx pr → Q' e sl mem nx pr) : Ends x Q' := by
  obtain ⟨e, sl, mem, nx, pr, h1, h2⟩ := h; exact ⟨e, sl, mem, nx, pr, h1, hq _ _ _ _ _ h2⟩
/-- Code within what comes round it. -/
theorem Ends.ctx (C : Option (AExit × St) → Option (AExit × St)) (h : Ends x Q') (hk : ∀ e sl mem nx pr, Q' e sl mem nx pr → Ends (C (Option.some (e, ⟨sl, mem, nx, pr⟩))) Q) : Ends (C x) Q := by
  obtain ⟨e, sl, mem, nx, pr, rfl, h2⟩ := h; exact hk _ _ _ _ _ h2
theorem Ends.blk {id : Nat} {k : St → Option (AExit × St)} (h : Ends x Q') (hk : ∀ e sl mem nx pr, Q' e sl mem nx pr → Ends (bindN (unBlk id (Option.some (e, ⟨sl, mem, nx, pr⟩))) k) Q) : Ends (bindN (unBlk id x) k) Q := by
  obtain ⟨e, sl, mem, nx, pr, rfl, h2⟩ := h; exact hk _ _ _ _ _ h2
theorem Ends.fin {res : List ARes} {v : AVal} (h : Ends x fun e sl mem nx pr => finP res (Option.some (e, ⟨sl, mem, nx, pr⟩)) = Option.some v) : finP res x = Option.some v := by
  obtain ⟨e, sl, mem, nx, pr, rfl, h2⟩ := h; exact h2
theorem Ends.finR {res : List ARes} {v} (h : Ends x fun e sl mem nx pr => Ab.finR res (Option.some (e, ⟨sl, mem, nx, pr⟩)) = Option.some v) : Ab.finR res x = Option.some v := by
  obtain ⟨e, sl, mem, nx, pr, rfl, h2⟩ := h; exact h2
theorem Ends_if {c : Prop} [Decidable c] {x y : Option (AExit × St)} (h1 : c → Ends x Q) (h2 : ¬c → Ends y Q) : Ends (if c then x else y) Q := by
  split
  · rename_i h; exact h1 h
  · rename_i h; exact h2 h
theorem Ends_loop {Γ : Env} {c : ACode} {s : St} (h : Ends (bindN (den Γ c s) (den Γ (.loop c))) Q) : Ends (den Γ (.loop c) s) Q := by
  rw [den_loop]; exact h
theorem decT {p : Prop} [Decidable p] (h : p) : decide p = true := decide_eq_true h
theorem decF {p : Prop} [Decidable p] (h : ¬p) : decide p = false := decide_eq_false h
theorem ifT {α : Type} {p : Prop} [Decidable p] {x y : α} (h : p) : (if p then x else y) = x := if_pos h
theorem ifF {α : Type} {p : Prop} [Decidable p] {x y : α} (h : ¬p) : (if p then x else y) = y := if_neg h
/-- Slices of things of one kind. -/
def lst {α : Type} (f : α → List AVal) (l : List α) : List (List AVal) := l.map f
section
variable {α : Type} {f : α → List AVal} {l k : List α}
theorem lst_len : (lst f l).length = l.length := by simp [lst]
theorem lst_get {i : Nat} : (lst f l)[i]? = (l[i]?).map f := by simp [lst]
theorem lst_getE {i : Nat} (h : i < (lst f l).length) : (lst f l)[i] = f (l[i]'(by simpa [lst] using h)) := by simp [lst]
theorem lst_nil : lst f [] = [] := rfl
theorem lst_set {i : Nat} {x : α} : (lst f l).set i (f x) = lst f (l.set i x) := by simp [lst, List.map_set]
theorem lst_app : lst f l ++ lst f k = lst f (l ++ k) := by simp [lst]
theorem lst_one {x : α} : lst f l ++ [f x] = lst f (l ++ [x]) := by simp [lst]
theorem lst_take {i : Nat} : (lst f l).take i = lst f (l.take i) := by simp [lst, List.map_take]
theorem lst_drop {i : Nat} : (lst f l).drop i = lst f (l.drop i) := by simp [lst, List.map_drop]
theorem lst_nr : noRefE (lst f l) = l.all fun a => (f a).all AVal.noRef := noRefE_map
end
abbrev cI (n : Int) : List AVal := [.int .i64 n]
theorem setI {l : List Int} {i : Nat} {x : Int} : (lst cI l).set i [.int .i64 x] = lst cI (l.set i x) := lst_set
theorem oneI {l : List Int} {x : Int} : lst cI l ++ [[.int .i64 x]] = lst cI (l ++ [x]) := lst_one
attribute [simp] lst_len lst_get lst_getE lst_nil lst_app lst_one lst_take lst_drop lst_nr setI oneI
attribute [simp] Ends_some Int.natCast_inj List.getElem?_cons_zero
end Go.Proofs.Ytnomicnfgdjdeaa.Ab
