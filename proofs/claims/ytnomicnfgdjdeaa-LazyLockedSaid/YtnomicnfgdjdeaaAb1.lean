/- The abstract values, what they stand for in memory, and the local store. Part of a layer that interprets Go code over values. No condition. -/
import Derived.Laws.AppendOwn
import Derived.Laws.MakeOwn
import Derived.Laws.NewBlocks
import Derived.Laws.StructEq
import Derived.Laws.Rows
import Derived.Laws.Slices
import Derived.Laws.Entries
import Derived.Orders
import Derived.Below
import Derived.KernelRfl
namespace Go.Proofs.Ytnomicnfgdjdeaa.Ab

/-- What a slot holds: a number, a slice whose cells never change (list), a slice or a box of the local store (vec, ptr), .. -/
inductive AVal where
  | any
  | bool (b : Bool)
  | int (k : IntKind) (n : Int)
  | str (s : ByteArray)
  | nilp
  | list (sz : Nat) (es : List (List AVal))
  | vec (b : Nat)
  | ptr (b e j : Nat)
  | fptr (cs : List AVal)
  | agg (cs : List AVal)
  | tup (vs : List AVal)
  | own (ty sz : Nat) (es : List (List AVal))
  | func (f : Nat) (caps : List AVal)
  deriving Inhabited

def AVal.isCell : AVal → Bool
  | .any | .agg _ | .tup _ | .own .. => false
  | _ => true
def AVal.cells? : AVal → Option (List AVal)
  | .agg cs => some cs
  | .any | .tup _ | .own .. => none
  | x => some [x]

/-- A cell that refers to no block of the local store. -/
def AVal.noRef : AVal → Bool
  | .bool _ | .int .. | .str _ | .nilp | .list .. | .fptr _ => true
  | .func _ caps => caps.isEmpty
  | _ => false
theorem AVal.isCell_of_noRef {a : AVal} (h : a.noRef = true) : a.isCell = true := by cases a <;> first | rfl | simp [AVal.noRef] at h
/-- Where a block of the local store lies. -/
structure ORep where
  blk : Option Nat
  len : Nat
  cap : Nat
  sz : Nat
  ty : TypeId
def ORep.hdr (r : ORep) : Value := .slice (r.blk.map fun k => ⟨k, 0, none⟩) r.len r.cap

/-- A block of the local store: its elements, each so many cells. -/
structure Blk where
  ty : TypeId
  sz : Nat
  es : List (List AVal)
  deriving Inhabited

inductive RepV (I : Nat → Prop) (ρ : Nat → Option ORep) (w : World) : AVal → Value → Prop
  | any (v : Value) : RepV I ρ w .any v
  | bool (b : Bool) : RepV I ρ w (.bool b) (.bool b)
  | int (k : IntKind) (n : Int) : RepV I ρ w (.int k n) (.int k n)
  | str (s : ByteArray) : RepV I ρ w (.str s) (.string s)
  | nilp : RepV I ρ w .nilp (.pointer none)
  | list (sz : Nat) (es : List (List AVal)) (A : Option Addr) (c : Nat) (vals : Nat → Nat → Value) (hc : es.length ≤ c) (hs : ∀ e ∈ es, e.length = sz)
      (hcell : ∀ e ∈ es, ∀ x ∈ e, x.noRef = true)
      (hA : es ≠ [] → ∃ a, A = some a ∧ a.spot = none ∧ I a.block ∧ ∀ i j, i < es.length → j < sz → w.cell? ⟨a.block, a.off + (i * sz + j), none⟩ = some (vals i j))
      (hv : ∀ i j e x, es[i]? = some e → e[j]? = some x → RepV I ρ w x (vals i j)) : RepV I ρ w (.list sz es) (.slice A es.length c)
  | vec (b : Nat) (r : ORep) (h : ρ b = some r) : RepV I ρ w (.vec b) r.hdr
  | ptr (b e j : Nat) (r : ORep) (k : Nat) (h : ρ b = some r) (hk : r.blk = some k) : RepV I ρ w (.ptr b e j) (.pointer (some ⟨k, e * r.sz + j, none⟩))
  | fptr (cs : List AVal) (a : Addr) (vals : Nat → Value) (hcell : ∀ x ∈ cs, x.noRef = true)
      (hs : a.spot = none) (hI : I a.block) (hc : ∀ j, j < cs.length → w.cell? ⟨a.block, a.off + j, none⟩ = some (vals j))
      (hv : ∀ j x, cs[j]? = some x → RepV I ρ w x (vals j)) : RepV I ρ w (.fptr cs) (.pointer (some a))
  | agg (cs : List AVal) (vs : Array Value) (hl : vs.size = cs.length) (hcell : ∀ x ∈ cs, x.isCell = true)
      (hv : ∀ j x, cs[j]? = some x → RepV I ρ w x (vs.getD j undef)) : RepV I ρ w (.agg cs) (.agg vs)
  | tup (cs : List AVal) (vs : Array Value) (hl : vs.size = cs.length)
      (hv : ∀ j x, cs[j]? = some x → RepV I ρ w x (vs.getD j undef)) : RepV I ρ w (.tup cs) (.tuple vs)
  | func (f : Nat) (caps : List AVal) (vs : Array Value) (hl : vs.size = caps.length)
      (hv : ∀ j x, caps[j]? = some x → RepV I ρ w x (vs.getD j undef)) : RepV I ρ w (.func f caps) (.func (.func f) #[] vs)

theorem cell_same {w w' : World} {b o : Nat} (h : w'.heap[b]? = w.heap[b]?) : w'.cell? ⟨b, o, none⟩ = w.cell? ⟨b, o, none⟩ := by
  simp [World.cell?, h]

theorem RepV.mono {I I' : Nat → Prop} {ρ ρ' : Nat → Option ORep} {w w' : World} {a : AVal} {v : Value} (h : RepV I ρ w a v)
    (hI : ∀ b, I b → I' b) (hρ : ∀ i r, ρ i = some r → ρ' i = some r) (hw : ∀ b, I b → w'.heap[b]? = w.heap[b]?) : RepV I' ρ' w' a v := by
  induction h with
  | any v => exact .any v
  | bool b => exact .bool b
  | int k n => exact .int k n
  | str s => exact .str s
  | nilp => exact .nilp
  | list sz es A c vals hc hs hcell hA hv ih =>
    refine .list sz es A c vals hc hs hcell (fun hne => ?_) (fun i j e x he hx => ih i j e x he hx)
    obtain ⟨a, e1, e2, e3, e4⟩ := hA hne
    exact ⟨a, e1, e2, hI _ e3, fun i j hi hj => (cell_same (hw _ e3)).trans (e4 i j hi hj)⟩
  | vec b r h => exact .vec b r (hρ _ _ h)
  | ptr b e j r k h hk => exact .ptr b e j r k (hρ _ _ h) hk
  | fptr cs a vals hcell hs hi hc hv ih =>
    exact .fptr cs a vals hcell hs (hI _ hi) (fun j hj => (cell_same (hw _ hi)).trans (hc j hj)) (fun j x hx => ih j x hx)
  | agg cs vs hl hcell hv ih => exact .agg cs vs hl hcell (fun j x hx => ih j x hx)
  | tup cs vs hl hv ih => exact .tup cs vs hl (fun j x hx => ih j x hx)
  | func f caps vs hl hv ih => exact .func f caps vs hl (fun j x hx => ih j x hx)

/-- What refers to no block of the store reads the same whatever blocks there are. -/
theorem RepV.free {I : Nat → Prop} {ρ ρ' : Nat → Option ORep} {w : World} {a : AVal} {v : Value} (h : RepV I ρ w a v) (hn : a.noRef = true) : RepV I ρ' w a v := by
  induction h with
  | any v => exact .any v
  | bool b => exact .bool b
  | int k n => exact .int k n
  | str s => exact .str s
  | nilp => exact .nilp
  | list sz es A c vals h1 h2 h3 h4 h5 ih =>
    exact .list sz es A c vals h1 h2 h3 h4 (fun i j e x he hx => ih i j e x he hx (h3 e (List.mem_of_getElem? he) x (List.mem_of_getElem? hx)))
  | vec b r h => simp [AVal.noRef] at hn
  | ptr b e j r k h hk => simp [AVal.noRef] at hn
  | fptr cs a vals h1 h2 h3 h4 h5 ih =>
    exact .fptr cs a vals h1 h2 h3 h4 (fun j x hx => ih j x hx (h1 x (List.mem_of_getElem? hx)))
  | agg cs vs hl hcell hv ih => simp [AVal.noRef] at hn
  | tup cs vs hl hv ih => simp [AVal.noRef] at hn
  | func f caps vs hl hv ih =>
    have : caps = [] := by simpa [AVal.noRef] using hn
    subst this
    exact .func f [] vs hl (by simp)

theorem RepV.oneCell {I : Nat → Prop} {ρ : Nat → Option ORep} {w : World} {a : AVal} {v : Value} (h : RepV I ρ w a v) (hc : a.isCell = true) : v.oneCell' = true := by
  cases h <;> first | rfl | (simp [AVal.isCell] at hc)

/-- A value's cells. -/
theorem RepV.cells {I : Nat → Prop} {ρ : Nat → Option ORep} {w : World} {a : AVal} {v : Value} {cs : List AVal} (h : RepV I ρ w a v) (hc : a.cells? = some cs) :
    v.cells.size = cs.length ∧ (∀ x ∈ cs, x.isCell = true) ∧ ∀ (j : Nat) x, cs[j]? = some x → RepV I ρ w x (v.cells.getD j undef) := by
  have one : ∀ (b : AVal) (u : Value), RepV I ρ w b u → b.isCell = true → u.cells = #[u] → cs = [b] →
      u.cells.size = cs.length ∧ (∀ x ∈ cs, x.isCell = true) ∧ ∀ (j : Nat) x, cs[j]? = some x → RepV I ρ w x (u.cells.getD j undef) := by
    intro b u hb hc1 hu e
    subst e
    rw [hu]
    refine ⟨rfl, by simpa using hc1, fun j x hx => ?_⟩
    cases j with
    | zero => simp at hx; subst hx; simpa using hb
    | succ j => simp at hx
  cases h with
  | any => simp [AVal.cells?] at hc
  | agg cs' vs hl hcell hv => simp only [AVal.cells?, Option.some.injEq] at hc; subst hc; exact ⟨hl, hcell, hv⟩
  | tup => simp [AVal.cells?] at hc
  | bool b => simp only [AVal.cells?, Option.some.injEq] at hc; exact one _ _ (.bool b) rfl rfl hc.symm
  | int k n => simp only [AVal.cells?, Option.some.injEq] at hc; exact one _ _ (.int k n) rfl rfl hc.symm
  | str s => simp only [AVal.cells?, Option.some.injEq] at hc; exact one _ _ (.str s) rfl rfl hc.symm
  | nilp => simp only [AVal.cells?, Option.some.injEq] at hc; exact one _ _ .nilp rfl rfl hc.symm
  | list sz es A c vals h1 h2 h3 h4 h5 => simp only [AVal.cells?, Option.some.injEq] at hc; exact one _ _ (.list sz es A c vals h1 h2 h3 h4 h5) rfl rfl hc.symm
  | vec b r h => simp only [AVal.cells?, Option.some.injEq] at hc; exact one _ _ (.vec b r h) rfl rfl hc.symm
  | ptr b e j r k h hk => simp only [AVal.cells?, Option.some.injEq] at hc; exact one _ _ (.ptr b e j r k h hk) rfl rfl hc.symm
  | fptr cs' a vals h1 h2 h3 h4 h5 => simp only [AVal.cells?, Option.some.injEq] at hc; exact one _ _ (.fptr cs' a vals h1 h2 h3 h4 h5) rfl rfl hc.symm
  | func f caps vs hl hv => simp only [AVal.cells?, Option.some.injEq] at hc; exact one _ _ (.func f caps vs hl hv) rfl rfl hc.symm

/-! ### Constants -/
mutual
/-- Does a Value that holds no address read so, whatever memory? -/
def repB : AVal → Value → Bool
  | .bool b, .bool c => b == c
  | .int k n, .int l m => k == l && n == m
  | .nilp, .pointer none => true
  | .list _ [], .slice none 0 0 => true
  | .str s, .string t => s.data.toList == t.data.toList
  | .agg cs, .agg vs => repBL cs vs.toList && cs.all AVal.isCell
  | .tup cs, .tuple vs => repBL cs vs.toList
  | .func f [], .func (.func g) a b => f == g && a.size == 0 && b.size == 0
  | .any, _ => true
  | _, _ => false
def repBL : List AVal → List Value → Bool
  | [], [] => true
  | a :: as, v :: vs => repB a v && repBL as vs
  | _, _ => false
end

theorem repB_sound (I : Nat → Prop) (ρ : Nat → Option ORep) (w : World) : (∀ a v, repB a v = true → RepV I ρ w a v) ∧
    (∀ as vs, repBL as vs = true → as.length = vs.length ∧ ∀ (j : Nat) x, as[j]? = some x → RepV I ρ w x (vs.getD j undef)) := by
  apply repB.mutual_induct (motive_1 := fun a v => repB a v = true → RepV I ρ w a v)
    (motive_2 := fun as vs => repBL as vs = true → as.length = vs.length ∧ ∀ (j : Nat) x, as[j]? = some x → RepV I ρ w x (vs.getD j undef))
  · intro b c h; simp only [repB, beq_iff_eq] at h; subst h; exact .bool _
  · intro k n l m h; simp only [repB, Bool.and_eq_true, beq_iff_eq] at h; obtain ⟨rfl, rfl⟩ := h; exact .int _ _
  · intro _; exact .nilp
  · intro sz _
    exact .list sz [] none 0 (fun _ _ => undef) (Nat.le_refl _) (by simp) (by simp) (by simp) (by simp)
  · intro s t h
    simp only [repB, beq_iff_eq] at h
    have : s = t := by
      cases s with | mk d => cases t with | mk d' => simp only at h; congr 1; exact Array.toList_inj.1 h
    subst this; exact .str _
  · intro cs vs ih h
    simp only [repB, Bool.and_eq_true] at h
    obtain ⟨h1, h2⟩ := h
    have ih' := ih h1
    exact .agg cs vs (by simpa using ih'.1.symm) (by simpa using h2) (fun j x hx => by simpa using ih'.2 j x hx)
  · intro cs vs ih h
    simp only [repB] at h
    have ih' := ih h
    exact .tup cs vs (by simpa using ih'.1.symm) (fun j x hx => by simpa using ih'.2 j x hx)
  · intro f g a b h
    simp only [repB, Bool.and_eq_true, beq_iff_eq] at h
    obtain ⟨⟨rfl, ha⟩, hb⟩ := h
    have ha' : a = #[] := Array.eq_empty_of_size_eq_zero ha
    have hb' : b = #[] := Array.eq_empty_of_size_eq_zero hb
    subst ha' hb'
    exact .func f [] #[] rfl (by simp)
  · intro v _; exact .any _
  · intro a v h1 h2 h3 h4 h5 h6 h7 h8 h9 h
    exfalso
    unfold repB at h
    split at h
    all_goals first
      | exact absurd h (by decide)
      | exact h1 _ _ rfl rfl
      | exact h2 _ _ _ _ rfl rfl
      | exact h3 rfl rfl
      | exact h4 _ rfl rfl
      | exact h5 _ _ rfl rfl
      | exact h6 _ _ rfl rfl
      | exact h7 _ _ rfl rfl
      | exact h8 _ _ _ _ rfl rfl
      | exact h9 rfl
  · intro _; exact ⟨rfl, by simp⟩
  · intro a as v vs ih1 ih2 h
    simp only [repBL, Bool.and_eq_true] at h
    obtain ⟨h1, h2⟩ := h
    have i1 := ih1 h1
    have i2 := ih2 h2
    refine ⟨by simp [i2.1], fun j x hx => ?_⟩
    cases j with
    | zero => simp at hx; subst hx; simpa using i1
    | succ j => simp at hx; simpa using i2.2 j x hx
  · intro as vs h1 h2 h
    exfalso
    unfold repBL at h
    split at h
    all_goals first
      | exact absurd h (by decide)
      | exact h1 rfl rfl
      | exact h2 _ _ _ _ rfl rfl

end Go.Proofs.Ytnomicnfgdjdeaa.Ab
