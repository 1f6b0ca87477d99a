/- What is handed to a function, read as values of the interpreter. Part of a layer that interprets Go code over values. No condition. -/
import Derived.Test.YtnomicnfgdjdeaaAb15
import Derived.Deep.Slices
import Derived.OpenShut
import Derived.SizedLaws
import Derived.ProofKit
namespace Go.Proofs.Ytnomicnfgdjdeaa.Ab
open Go.RowKit Go.Deep

/-- What a cell may hold. -/
inductive Cel where
  | int (k : IntKind)
  | bool
  | slice (bytes : Nat) (cs : List Cel)
mutual
def CelOk : Cel → AVal → Prop
  | .int k, a => ∃ n, a = .int k n ∧ (Lit.int k n).wf = true
  | .bool, a => ∃ b, a = .bool b
  | .slice bytes cs, a => ∃ es, a = .list cs.length es ∧ es.length * bytes ≤ 140737488355328 ∧ ∀ e ∈ es, RowOk cs e
def RowOk : List Cel → List AVal → Prop
  | [], [] => True
  | c :: cs, a :: as => CelOk c a ∧ RowOk cs as
  | _, _ => False
end
theorem RowOk.len : ∀ {cs : List Cel} {as : List AVal}, RowOk cs as → as.length = cs.length
  | [], [], _ => rfl
  | c :: cs, a :: as, h => by rw [RowOk] at h; simp [RowOk.len h.2]
  | [], _ :: _, h => by simp [RowOk] at h
  | _ :: _, [], h => by simp [RowOk] at h
theorem RowOk.app : ∀ {cs ds : List Cel} {as bs : List AVal}, RowOk cs as → RowOk ds bs → RowOk (cs ++ ds) (as ++ bs)
  | [], _, [], _, _, h => h
  | c :: cs, _, a :: as, _, h, k => by rw [RowOk] at h; simp only [List.cons_append]; rw [RowOk]; exact ⟨h.1, RowOk.app h.2 k⟩
  | [], _, _ :: _, _, h, _ => by simp [RowOk] at h
  | _ :: _, _, [], _, h, _ => by simp [RowOk] at h
theorem CelOk.noRef : ∀ {c : Cel} {a : AVal}, CelOk c a → a.noRef = true
  | .int _, _, h => by rw [CelOk] at h; obtain ⟨_, rfl, _⟩ := h; rfl
  | .bool, _, h => by rw [CelOk] at h; obtain ⟨_, rfl⟩ := h; rfl
  | .slice _ _, _, h => by rw [CelOk] at h; obtain ⟨_, rfl, _⟩ := h; rfl
theorem RowOk.noRef : ∀ {cs : List Cel} {as : List AVal}, RowOk cs as → ∀ x ∈ as, x.noRef = true
  | [], [], _ => by simp
  | c :: cs, a :: as, h => by
    rw [RowOk] at h
    intro x hx
    rcases List.mem_cons.1 hx with rfl | hx
    · exact h.1.noRef
    · exact h.2.noRef x hx
  | [], _ :: _, h => by simp [RowOk] at h
  | _ :: _, [], h => by simp [RowOk] at h
def segB (P : Program) (cel : TypeId → List Cel → Bool) : List (Nat × TypeId) → Nat → List Cel → Bool
  | [], _, cs => cs.isEmpty
  | (o, t) :: r, off, cs => o == off && cel t (cs.take (P.cellsOf t)) && segB P cel r (off + P.cellsOf t) (cs.drop (P.cellsOf t))
/-- Does a type have these cells? -/
def celB (P : Program) : Nat → TypeId → List Cel → Bool
  | 0, _, _ => false
  | n + 1, t, cs => match P.underlying t with
    | some (.int k) => match cs with | [.int k'] => k == k' | _ => false
    | some .bool => match cs with | [.bool] => true | _ => false
    | some (.slice e) => match cs with | [.slice bytes cs'] => bytes == P.bytesOf e && P.cellsOf e == cs'.length && decide (0 < cs'.length) && celB P n e cs' | _ => false
    | some (.struct fs) => P.cellsOf t == cs.length && segB P (celB P n) (fs.toList.map fun f => (f.offset, f.type)) 0 cs
    | some (.array k e) => P.cellsOf t == cs.length && segB P (celB P n) ((List.range k).map fun i => (i * P.cellsOf e, e)) 0 cs
    | _ => false

section
variable {H : Type} {enc : TypeId × Value → H} {P : Program} {w : World} {base : Nat} {sp : Nat → Bool} {held : Bool}
abbrev Here (w : World) : Nat → Prop := fun b => b < w.heap.size
def RepL (w : World) (as : List AVal) (vs : List Value) : Prop := ∀ (j : Nat) x, as[j]? = some x → RepV (Here w) (fun _ => none) w x (vs.getD j undef)
def Light (P : Program) (t : TypeId) (d : DataW H) : Prop := ∀ n ∈ d.weights P t, n ≤ reachBytes
def OpenAt (enc : TypeId × Value → H) (P : Program) (w : World) (base : Nat) (sp : Nat → Bool) (held : Bool) (fuel : Nat) : Prop :=
  ∀ (n : Nat) (t : TypeId) (vs : List Value) (x : DataW H × List MemPlace) (cs : List Cel), DataW.trod enc P w base sp held fuel t vs = some x → celB P n t cs = true → Light P t x.1 →
    vs.length = cs.length ∧ ∃ as, RowOk cs as ∧ RepL w as vs
theorem segs_open {fuel : Nat} (ih : OpenAt enc P w base sp held fuel) (n : Nat) {vs : List Value} : ∀ (segs : List (Nat × TypeId)) (off : Nat) (cs : List Cel), segB P (celB P n) segs off cs = true →
    (∀ (i o : Nat) t, segs[i]? = some (o, t) → ∃ x, DataW.trod enc P w base sp held fuel t ((vs.drop o).take (P.cellsOf t)) = some x ∧ Light P t x.1) → ∃ as, RowOk cs as ∧ RepL w as (vs.drop off)
  | [], off, cs, h, _ => by
    have : cs = [] := by simpa [segB] using h
    subst this
    exact ⟨[], by rw [RowOk]; trivial, fun j x hx => by simp at hx⟩
  | (o, t) :: r, off, cs, h, hx => by
    simp only [segB, Bool.and_eq_true, beq_iff_eq] at h
    obtain ⟨⟨rfl, h1⟩, h2⟩ := h
    obtain ⟨x, ht, hl⟩ := hx 0 o t rfl
    obtain ⟨hlen, as, ha, hra⟩ := ih n t _ x _ ht h1 hl
    obtain ⟨bs, hb, hrb⟩ := segs_open ih n r _ _ h2 (fun i o' t' hi => hx (i + 1) o' t' (by simpa using hi))
    refine ⟨as ++ bs, by have := ha.app hb; rwa [List.take_append_drop] at this, fun j y hy => ?_⟩
    have hal := ha.len
    have hbl := hb.len
    simp only [List.length_take, List.length_drop] at hal hbl
    by_cases hj : j < as.length
    · rw [List.getElem?_append_left hj] at hy
      have := hra j y hy
      have e : ((vs.drop o).take (P.cellsOf t)).getD j undef = (vs.drop o).getD j undef := by
        simp only [List.getD, List.getElem?_take]
        rw [if_pos (by omega)]
      rwa [e] at this
    · rw [List.getElem?_append_right (by omega)] at hy
      have hlt : j - as.length < bs.length := by
        rcases Nat.lt_or_ge (j - as.length) bs.length with h | h
        · exact h
        · simp [List.getElem?_eq_none h] at hy
      have := hrb _ y hy
      have e : (vs.drop (o + P.cellsOf t)).getD (j - as.length) undef = (vs.drop o).getD j undef := by
        simp only [List.getD, List.getElem?_drop]
        congr 2
        omega
      rwa [e] at this
theorem weightsEach_mem : ∀ (ts : List TypeId) (ds : List (DataW H)) (i : Nat) t d, ts[i]? = some t → ds[i]? = some d → ∀ n ∈ d.weights P t, n ∈ DataW.weightsEach P ts ds
  | [], _, i, _, _, h, _ => by simp at h
  | _ :: _, [], i, _, _, _, h => by simp at h
  | t :: ts, d :: ds, 0, _, _, h, k => by
    simp at h k; subst h; subst k
    intro n hn
    rw [DataW.weightsEach]
    exact List.mem_append_left _ hn
  | t :: ts, d :: ds, i + 1, t', d', h, k => by
    intro n hn
    rw [DataW.weightsEach]
    exact List.mem_append_right _ (weightsEach_mem ts ds i t' d' (by simpa using h) (by simpa using k) n hn)
theorem weightsAll_mem {e : TypeId} : ∀ (ds : List (DataW H)) d, d ∈ ds → ∀ n ∈ d.weights P e, n ∈ DataW.weightsAll P e ds
  | [], _, h => by simp at h
  | d :: ds, d', h => by
    intro n hn
    rw [DataW.weightsAll]
    rcases List.mem_cons.1 h with rfl | h
    · exact List.mem_append_left _ hn
    · exact List.mem_append_right _ (weightsAll_mem ds d' h n hn)
theorem open_at : ∀ (fuel : Nat), OpenAt enc P w base sp held fuel := by
  intro fuel
  induction fuel using Nat.strongRecOn with
  | _ fuel ih =>
    intro n t vs x cs h hc hl
    cases n with
    | zero => simp [celB] at hc
    | succ n =>
      unfold celB at hc
      split at hc
      · rename_i k ht
        split at hc
        · rename_i k'
          rw [beq_iff_eq] at hc
          subst hc
          obtain ⟨m, rfl, rfl, hw⟩ := DataW.trod_int ht h
          refine ⟨rfl, [.int k m], by rw [RowOk, RowOk, CelOk]; exact ⟨⟨m, rfl, hw⟩, trivial⟩, fun j y hy => ?_⟩
          cases j with
          | zero => simp at hy; subst hy; exact .int _ _
          | succ j => simp at hy
        · cases hc
      · rename_i ht
        split at hc
        · obtain ⟨b, rfl, rfl⟩ := DataW.trod_bool ht h
          refine ⟨rfl, [.bool b], by rw [RowOk, RowOk, CelOk]; exact ⟨⟨b, rfl⟩, trivial⟩, fun j y hy => ?_⟩
          cases j with
          | zero => simp at hy; subst hy; exact .bool _
          | succ j => simp at hy
        · cases hc
      · rename_i e ht
        split at hc
        · rename_i bytes cs'
          simp only [Bool.and_eq_true, beq_iff_eq, decide_eq_true_eq] at hc
          obtain ⟨⟨⟨rfl, h2⟩, h3⟩, h4⟩ := hc
          rcases DataW.trod_slice ht h with ⟨rfl, rfl⟩ | ⟨a, len, cap, elems, rest, m, hm, rfl, rfl, hb, hle, hcap, hlen, hel, hsp, hns⟩
          · refine ⟨rfl, [.list cs'.length []], by rw [RowOk, RowOk, CelOk]; exact ⟨⟨[], rfl, by simp, by simp⟩, trivial⟩, fun j y hy => ?_⟩
            cases j with
            | zero => simp at hy; subst hy; exact .list _ [] none 0 (fun _ _ => undef) (Nat.le_refl _) (by simp) (by simp) (by simp) (by simp)
            | succ j => simp at hy
          · have key : ∀ i, i < len → ∃ vs' as, w.cells? base (a.add (i * P.cellsOf e)) (P.cellsOf e) = some vs' ∧ vs'.length = cs'.length ∧ RowOk cs' as ∧ RepL w as vs' := by
              intro i hi
              have hx := hel i hi
              rw [List.getElem?_eq_getElem (by omega)] at hx
              obtain ⟨vs', q1, q2⟩ := Option.bind_eq_some_iff.1 hx
              have hli : Light P e (elems[i]'(by omega)).1 := by
                intro z hz
                refine hl z ?_
                simp only [DataW.weights, ht]
                refine List.mem_cons_of_mem _ (List.mem_append_left _ (weightsAll_mem _ _ ?_ z hz))
                exact List.mem_map.2 ⟨elems[i]'(by omega), List.getElem_mem _, rfl⟩
              obtain ⟨r1, as, r2, r3⟩ := ih m (by omega) n e vs' _ cs' q2 h4 hli
              exact ⟨vs', as, q1, r1, r2, r3⟩
            have hbytes : len * P.bytesOf e ≤ 140737488355328 := by
              have := hl ((elems.length + rest.length) * P.bytesOf e) (by simp only [DataW.weights, ht, List.length_map]; exact List.mem_cons_self)
              unfold reachBytes at this
              exact Nat.le_trans (Nat.mul_le_mul_right _ (by omega)) (Nat.le_trans this (by decide))
            have hch : ∃ (V : Nat → List Value) (A : Nat → List AVal), ∀ i, i < len → w.cells? base (a.add (i * P.cellsOf e)) (P.cellsOf e) = some (V i) ∧ (V i).length = cs'.length ∧ RowOk cs' (A i) ∧ RepL w (A i) (V i) :=
              ⟨fun i => if h : i < len then (key i h).choose else [], fun i => if h : i < len then (key i h).choose_spec.choose else [], fun i hi => by
                simp only [dif_pos hi]; exact (key i hi).choose_spec.choose_spec⟩
            obtain ⟨V, A, hVA⟩ := hch
            have cell : ∀ i j, i < len → j < cs'.length → w.cell? ((a.add (i * P.cellsOf e)).add j) = (V i)[j]? := by
              intro i j hi hj
              obtain ⟨q1, q2, _, _⟩ := hVA i hi
              obtain ⟨_, _, z⟩ := World.cells?_some q1
              exact z j (by rw [h2]; exact hj)
            have hspot : 0 < len → a.spot = none ∧ a.block < w.heap.size := by
              intro h0
              have hcell := cell 0 0 h0 h3
              have h00 := (hVA 0 h0).2.1
              rw [List.getElem?_eq_getElem (show 0 < (V 0).length by omega)] at hcell
              simp only [Nat.zero_mul, Addr.add, if_true] at hcell
              unfold World.cell? at hcell
              split at hcell
              · rename_i c q r hq
                refine ⟨by cases hs : a.spot with | none => rfl | some z => simp [hs] at hcell, ?_⟩
                rcases Nat.lt_or_ge a.block w.heap.size with h | h
                · exact h
                · simp [Array.getElem?_eq_none h] at hq
              · cases hcell
            refine ⟨rfl, [.list cs'.length ((List.range len).map A)], ?_, fun j y hy => ?_⟩
            · rw [RowOk, RowOk, CelOk]
              refine ⟨⟨_, rfl, by simpa using hbytes, fun z hz => ?_⟩, trivial⟩
              obtain ⟨i, hi, rfl⟩ := List.mem_map.1 hz
              exact (hVA i (by simpa using hi)).2.2.1
            · cases j with
              | succ j => simp at hy
              | zero =>
                simp at hy
                subst hy
                have hll : ((List.range len).map A).length = len := by simp
                have hr := RepV.list (I := Here w) (ρ := fun _ => none) (w := w) cs'.length ((List.range len).map A) (some a) cap (fun i j => (V i).getD j undef) (by simpa using hle)
                  (fun z hz => by obtain ⟨i, hi, rfl⟩ := List.mem_map.1 hz; exact (hVA i (by simpa using hi)).2.2.1.len)
                  (fun z hz y hy => by obtain ⟨i, hi, rfl⟩ := List.mem_map.1 hz; exact (hVA i (by simpa using hi)).2.2.1.noRef y hy)
                  (fun hne => by
                    have h0 : 0 < len := by rcases Nat.eq_zero_or_pos len with h | h; · subst h; simp at hne
                                            · exact h
                    refine ⟨a, rfl, (hspot h0).1, (hspot h0).2, fun i j hi hj => ?_⟩
                    simp at hi
                    have hc := cell i j hi hj
                    rw [List.getElem?_eq_getElem (show j < (V i).length by have := (hVA i hi).2.1; omega)] at hc
                    have e1 : (a.add (i * P.cellsOf e)).add j = ⟨a.block, a.off + (i * cs'.length + j), none⟩ := by
                      have hs := (hspot h0).1
                      rw [h2]
                      unfold Addr.add
                      obtain ⟨ab, ao, as⟩ := a
                      simp only at hs
                      subst hs
                      by_cases hz : i * cs'.length = 0 <;> by_cases hj0 : j = 0 <;> simp [hz, hj0, Nat.add_assoc]
                    rw [e1] at hc
                    rw [hc]
                    simp [List.getD, List.getElem?_eq_getElem (show j < (V i).length by have := (hVA i hi).2.1; omega)])
                  (fun i j z y hz hy => by
                    rw [List.getElem?_map] at hz
                    obtain ⟨i', hi', rfl⟩ := Option.map_eq_some_iff.1 hz
                    obtain ⟨hlt, rfl⟩ : i < len ∧ i' = i := by
                      rcases Nat.lt_or_ge i len with h | h
                      · rw [List.getElem?_range h] at hi'; exact ⟨h, (Option.some.inj hi').symm⟩
                      · rw [List.getElem?_eq_none (by simpa using h)] at hi'; cases hi'
                    exact (hVA _ hlt).2.2.2 j y hy)
                rw [hll] at hr
                exact hr
        · cases hc
      · rename_i fs ht
        simp only [Bool.and_eq_true, beq_iff_eq] at hc
        obtain ⟨xs, m, rfl, rfl, hlen, hxl, hx⟩ := DataW.trod_struct ht h
        have hs := segs_open (ih m (by omega)) n (vs := vs) _ 0 cs hc.2 (fun i o t' hi => by
          simp only [List.getElem?_map, Array.getElem?_toList, Option.map_eq_some_iff] at hi
          obtain ⟨f, hf, he⟩ := hi
          simp only [Prod.mk.injEq] at he
          obtain ⟨rfl, rfl⟩ := he
          have hlt : i < fs.size := by
            rcases Nat.lt_or_ge i fs.size with h | h
            · exact h
            · simp [Array.getElem?_eq_none h] at hf
          have hxi := hx i f hf
          rw [List.getElem?_eq_getElem (by omega)] at hxi
          refine ⟨_, hxi, fun z hz => hl z ?_⟩
          simp only [DataW.weights, ht]
          refine weightsEach_mem _ _ i f.type (xs[i]'(by omega)).1 ?_ ?_ z hz
          · simp [hf]
          · simp [List.getElem?_eq_getElem (show i < xs.length by omega)])
        exact ⟨hlen.trans hc.1, by simpa using hs⟩
      · rename_i k e ht
        simp only [Bool.and_eq_true, beq_iff_eq] at hc
        obtain ⟨xs, m, rfl, rfl, hlen, hxl, hx⟩ := DataW.trod_array ht h
        have hs := segs_open (ih m (by omega)) n (vs := vs) _ 0 cs hc.2 (fun i o t' hi => by
          simp only [List.getElem?_map, Option.map_eq_some_iff] at hi
          obtain ⟨i', hi', he⟩ := hi
          simp only [Prod.mk.injEq] at he
          obtain ⟨rfl, rfl⟩ := he
          obtain ⟨hlt, rfl⟩ : i < k ∧ i' = i := by
            rcases Nat.lt_or_ge i k with h | h
            · rw [List.getElem?_range h] at hi'; exact ⟨h, (Option.some.inj hi').symm⟩
            · rw [List.getElem?_eq_none (by simpa using h)] at hi'; cases hi'
          have hxi := hx _ hlt
          rw [List.getElem?_eq_getElem (by omega)] at hxi
          refine ⟨_, hxi, fun z hz => hl z ?_⟩
          simp only [DataW.weights, ht]
          exact weightsAll_mem _ _ (List.mem_map.2 ⟨_, List.getElem_mem _, rfl⟩) z hz)
        exact ⟨hlen.trans hc.1, by simpa using hs⟩
      · cases hc
end
end Go.Proofs.Ytnomicnfgdjdeaa.Ab
