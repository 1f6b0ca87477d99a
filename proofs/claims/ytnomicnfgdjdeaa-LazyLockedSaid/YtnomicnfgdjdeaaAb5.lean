/- Pure operations of the interpreter are what the machine does: struct and slice literals, frozen slices and pointers into them, pure calls. Part of a layer that interprets Go code over values. No condition. -/
import Derived.Test.YtnomicnfgdjdeaaAb4
namespace Go.Proofs.Ytnomicnfgdjdeaa.Ab
open Go.RowKit

/-! ### Literals -/
def PartsRep (place : Nat → Option (Nat × Nat)) (I : Nat → Prop) (ρ : Nat → Option ORep) (w : World) : List (Nat × Nat × AVal) → List (Nat × Value) → Prop
  | [], [] => True
  | p :: ps, q :: qs => place q.1 = some (p.1, p.2.1) ∧ RepV I ρ w p.2.2 q.2 ∧ PartsRep place I ρ w ps qs
  | _, _ => False
theorem splice_get {α : Type} (cells cs : List α) (off n : Nat) (hn : cs.length = n) (hl : off + n ≤ cells.length) (k : Nat) :
    (cells.take off ++ cs ++ cells.drop (off + n))[k]? = if off ≤ k ∧ k < off + n then cs[k - off]? else cells[k]? := by
  have hto : (cells.take off).length = off := by simp; omega
  by_cases h1 : k < off
  · rw [if_neg (by omega), List.append_assoc, List.getElem?_append_left (by omega), List.getElem?_take, if_pos h1]
  · by_cases h2 : k < off + n
    · rw [if_pos (by omega), List.append_assoc, List.getElem?_append_right (by omega), hto, List.getElem?_append_left (by omega)]
    · rw [if_neg (by omega), List.getElem?_append_right (by simp; omega), List.getElem?_drop]
      congr 1
      simp
      omega
theorem fill_rep {I : Nat → Prop} {ρ : Nat → Option ORep} {w : World} (place : Nat → Option (Nat × Nat)) : ∀ (parts : List (Nat × Nat × AVal)) (qs : List (Nat × Value)) (cells cells' : List AVal) (vals : Array Value),
    fillA cells parts = some cells' → PartsRep place I ρ w parts qs → vals.size = cells.length → (∀ x ∈ cells, x.isCell = true) → (∀ (j : Nat) x, cells[j]? = some x → RepV I ρ w x (vals.getD j undef)) →
    ∃ vals', Instr.fill place vals qs = some vals' ∧ vals'.size = cells'.length ∧ cells'.length = cells.length ∧ (∀ x ∈ cells', x.isCell = true) ∧ ∀ (j : Nat) x, cells'[j]? = some x → RepV I ρ w x (vals'.getD j undef)
  | [], [], cells, cells', vals, h, _, hs, hc, hv => by
    simp only [fillA, Option.some.injEq] at h
    subst h
    exact ⟨vals, rfl, hs, rfl, hc, hv⟩
  | [], _ :: _, _, _, _, _, h, _, _, _ => h.elim
  | _ :: _, [], _, _, _, _, h, _, _, _ => h.elim
  | (off, sz, x) :: ps, (i, v) :: qs, cells, cells', vals, h, hp, hs, hc, hv => by
    obtain ⟨hpl, hx, hp⟩ := hp
    simp only [fillA] at h
    cases hcs : x.cells? with
    | none => simp [hcs] at h
    | some cs =>
      simp only [hcs] at h
      split at h
      · rename_i hlen
        obtain ⟨h1, h2⟩ := hlen
        obtain ⟨g1', g2, g3⟩ := hx.cells hcs
        have g1 : v.cells.size = cs.length := g1'
        obtain ⟨f1, f2⟩ := Great.foldl_set off v.cells.toList 0 vals
        have hfold : v.cells.zipIdx.foldl (fun cs (c, j) => cs.setIfInBounds (off + j) c) vals = (v.cells.toList.zipIdx 0).foldl (fun cs (x : Value × Nat) => cs.setIfInBounds (off + x.2) x.1) vals := by
          rw [← Array.foldl_toList, Array.toList_zipIdx]
        have hlen' : (cells.take off ++ cs ++ cells.drop (off + sz)).length = cells.length := by simp; omega
        obtain ⟨vals', r1, r2, r3, r4, r5⟩ := fill_rep place ps qs _ cells' ((v.cells.toList.zipIdx 0).foldl (fun cs (x : Value × Nat) => cs.setIfInBounds (off + x.2) x.1) vals) h hp (by rw [f1, hlen', hs])
          (by
            intro y hy
            simp only [List.mem_append] at hy
            rcases hy with (hy | hy) | hy
            · exact hc y (List.mem_of_mem_take hy)
            · exact g2 y hy
            · exact hc y (List.mem_of_mem_drop hy))
          (by
            intro j y hy
            rw [splice_get cells cs off sz h1 h2] at hy
            have hj := f2 j
            simp only [Array.length_toList, Nat.add_zero, g1, h1] at hj
            rw [Array.getD_eq_getD_getElem?, hj]
            by_cases hin : off ≤ j ∧ j < off + sz
            · rw [if_pos hin] at hy
              rw [if_pos ⟨hin.1, hin.2, by omega⟩]
              have := g3 (j - off) y hy
              simpa using this
            · rw [if_neg hin] at hy
              rw [if_neg (by omega)]
              have := hv j y hy
              simpa using this)
        refine ⟨vals', ?_, r2, by rw [r3, hlen'], r4, r5⟩
        simp only [Instr.fill, hpl]
        have hneg : ¬ ((v.cells.size ≠ sz || off + v.cells.size > vals.size) = true) := by
          simp only [Bool.or_eq_true, decide_eq_true_eq]; omega
        rw [if_neg hneg, hfold]
        exact r1
      · cases h
theorem flat_set {α : Type} (sz : Nat) (cs : List α) (hcs : cs.length = sz) : ∀ (es : List (List α)) (i : Nat), (∀ e ∈ es, e.length = sz) → i < es.length →
    (es.set i cs).flatten = es.flatten.take (i * sz) ++ cs ++ es.flatten.drop (i * sz + sz)
  | [], _, _, hi => by simp at hi
  | e :: r, 0, h, _ => by
    have he : e.length = sz := h e (by simp)
    simp [← he]
  | e :: r, i + 1, h, hi => by
    have he : e.length = sz := h e (by simp)
    have ih := flat_set sz cs hcs r i (fun x hx => h x (by simp [hx])) (by simpa using hi)
    have e1 : (i + 1) * sz = e.length + i * sz := by rw [he, Nat.add_mul]; omega
    have e2 : (i + 1) * sz + sz = e.length + (i * sz + sz) := by omega
    simp only [List.set_cons_succ, List.flatten_cons, ih, e1, List.take_length_add_append]
    rw [show e.length + i * sz + sz = e.length + (i * sz + sz) by omega, List.drop_length_add_append]
    simp
theorem fillE_fillA (sz : Nat) : ∀ (parts : List (Nat × AVal)) (es es' : List (List AVal)), (∀ e ∈ es, e.length = sz) → fillE sz es parts = some es' →
    fillA es.flatten (parts.map fun p => (p.1 * sz, sz, p.2)) = some es'.flatten ∧ (∀ e ∈ es', e.length = sz) ∧ es'.length = es.length
  | [], es, es', h, hf => by
    simp only [fillE, Option.some.injEq] at hf
    subst hf
    exact ⟨rfl, h, rfl⟩
  | (i, v) :: r, es, es', h, hf => by
    simp only [fillE] at hf
    cases hcs : v.cells? with
    | none => simp [hcs] at hf
    | some cs =>
      simp only [hcs] at hf
      split at hf
      · rename_i hh
        obtain ⟨h1, h2⟩ := hh
        have hset : ∀ e ∈ es.set i cs, e.length = sz := fun e he => by
          rcases List.mem_or_eq_of_mem_set he with h' | h'
          · exact h e h'
          · subst h'; exact h1
        obtain ⟨r1, r2, r3⟩ := fillE_fillA sz r (es.set i cs) es' hset hf
        refine ⟨?_, r2, by simpa using r3⟩
        simp only [List.map_cons, fillA, hcs]
        have hfl := flat_len sz es h
        have : i * sz + sz ≤ es.flatten.length := by
          rw [hfl]
          have : (i + 1) * sz ≤ es.length * sz := Nat.mul_le_mul_right _ h2
          rw [Nat.add_mul] at this; omega
        rw [if_pos ⟨h1, this⟩, ← flat_set sz cs h1 es i h h2]
        exact r1
      · cases hf

def okParts (place : Nat → Option (Nat × Nat)) : List (Nat × Nat × Opd) → List (Nat × Operand) → Bool
  | [], [] => true
  | p :: ps, q :: qs => place q.1 == some (p.1, p.2.1) && okOpd p.2.2 q.2 && okParts place ps qs
  | _, _ => false
theorem okParts_rep {I : Nat → Prop} {ρ : Nat → Option ORep} {w : World} {sl : List (Nat × AVal)} {a : Act} (hr : RepS I ρ w sl a.tmps) (place : Nat → Option (Nat × Nat)) : ∀ (ps : List (Nat × Nat × Opd)) (qs : List (Nat × Operand)), okParts place ps qs = true →
    PartsRep place I ρ w (ps.map fun p => (p.1, p.2.1, ev sl p.2.2)) (qs.map fun q => (q.1, a.eval q.2))
  | [], [], _ => trivial
  | [], _ :: _, h => by simp [okParts] at h
  | _ :: _, [], h => by simp [okParts] at h
  | p :: ps, q :: qs, h => by
    simp only [okParts, Bool.and_eq_true, beq_iff_eq] at h
    exact ⟨h.1.1, okOpd_sound hr h.1.2, okParts_rep hr place ps qs h.2⟩
def placesB (P : Program) (t : TypeId) : Nat → Option (Nat × Nat) :=
  match P.underlying t with
  | some (.array _ e) => match P.info? e with | some ie => fun i => some (i * ie.size, ie.size) | none => fun _ => none
  | some (.struct fields) => match fields.toList.mapM (fun f => (P.info? f.type).map fun i => (f.offset, i.size)) with | some pl => fun i => pl.toArray[i]? | none => fun _ => none
  | _ => fun _ => none
def buildB (P : Program) (t : TypeId) : Bool :=
  match P.underlying t with
  | some (.array _ e) => (P.info? e).isSome
  | some (.struct fields) => (fields.toList.mapM (fun f => (P.info? f.type).map fun i => (f.offset, i.size))).isSome
  | _ => false
theorem built_eq {P : Program} {t : TypeId} {i : TypeInfo} {z : Value} (hi : P.info? t = some i) (hz : i.zero = some z) (hb : buildB P t = true) (parts : List (Nat × Value)) : P.built t parts = Instr.fill (placesB P t) z.cells parts := by
  unfold buildB at hb
  unfold Program.built placesB
  split at hb
  · rename_i n e hu
    cases he : P.info? e with
    | none => simp [he] at hb
    | some ie => simp [hi, hz, he, hu]
  · rename_i fields hu
    cases hm : fields.toList.mapM (fun f => (P.info? f.type).map fun i => (f.offset, i.size)) with
    | none => simp [hm] at hb
    | some pl => simp only [hi, hu, hz, hm]
  · cases hb

section
variable {P : Program} {I : Nat → Prop} {ρ : Nat → Option ORep} {w : World} {sl : List (Nat × AVal)} {a : Act} {o : Oper}
theorem p_build (hd : ∀ b, I b → b < w.heap.size) (hr : RepS I ρ w sl a.tmps) {t : TypeId} {qs : Array (Nat × Operand)} (ho : o.op = .build t qs) {zero : List AVal} {ps : List (Nat × Nat × Opd)} (hz : zeroB P t zero = true) (hb : buildB P t = true)
    (hp : okParts (placesB P t) ps qs.toList = true) {r : List AVal} (h : fillA zero (ps.map fun p => (p.1, p.2.1, ev sl p.2.2)) = some r) : OpGives P o a w (PRes I ρ w (.agg r)) := by
  obtain ⟨i, z, hi, hzz, hs, hc, hv⟩ := zeroB_spec hz
  obtain ⟨vals, f1, f2, f3, f4, f5⟩ := fill_rep (placesB P t) _ _ zero r z.cells h (okParts_rep hr _ _ _ hp) hs hc (hv I ρ w)
  have hrun : (Instr.build t (qs.map fun (i, x) => (i, a.eval x))).run P w = .ok (.agg vals) w := by
    refine run_build w t _ vals ?_
    rw [built_eq hi hzz hb, Array.toList_map]
    exact f1
  exact .of_run (w' := w) (v := .agg vals) (by simp [execOp, ho, hrun]) (.same hd (.agg _ _ f2 f4 f5))

theorem zeros_get {z : Value} {zero : List AVal} (hs : z.cells.size = zero.length) (hv : ∀ (j : Nat) x, zero[j]? = some x → RepV I ρ w x (z.cells.getD j undef)) (len sz : Nat) (hl : zero.length = sz) :
    ∀ (j : Nat) x, (List.replicate len zero).flatten[j]? = some x → RepV I ρ w x (((Array.range (len * sz)).map (z.cells[· % z.cells.size]!)).getD j undef) := by
  intro j x hx
  have hu : ∀ e ∈ List.replicate len zero, e.length = sz := fun e he => by rw [List.eq_of_mem_replicate he, hl]
  have hlt : j < len * sz := by
    have := (List.getElem?_eq_some_iff.1 hx).1
    rw [flat_len sz _ hu] at this
    simpa using this
  obtain ⟨i, k, h1, h2, rfl⟩ := split_index hlt
  rw [flat_get sz _ hu i k h2] at hx
  have hx' : zero[k]? = some x := by simpa [h1] using hx
  have := hv k x hx'
  have hm : (i * sz + k) % z.cells.size = k := by rw [hs, hl, Nat.add_comm, Nat.add_mul_mod_self_right, Nat.mod_eq_of_lt h2]
  have hk : k < z.cells.size := by omega
  simp [hlt, hm, hk]
  simpa [hk] using this

/-- The cells of a slice literal. -/
theorem bsl_cells (hr : RepS I ρ w sl a.tmps) {e : TypeId} {sz len : Nat} {zero : List AVal} {ps : List (Nat × Opd)} {qs : Array (Nat × Operand)} (hsz : szB P e sz = true) (hz : zeroB P e zero = true) (hzl : zero.length = sz)
    (hp : okParts (fun i => some (i * sz, sz)) (ps.map fun p => (p.1 * sz, sz, p.2)) qs.toList = true) {t : TypeId} (ht : sliceB P t e = true) (hn : ¬ len * sz > 2 ^ 24)
    {es : List (List AVal)} (h : fillE sz (List.replicate len zero) (ps.map fun p => (p.1, ev sl p.2)) = some es) :
    ∃ cells, (Instr.buildSlice t len (qs.map fun (i, x) => (i, a.eval x))).run P w = .ok (.slice (some ⟨w.heap.size, 0, none⟩) len len) (w.alloc (.cells cells e)) ∧ es.length = len ∧ (∀ x ∈ es, x.length = sz) ∧
      (∀ x ∈ es, ∀ y ∈ x, y.isCell = true) ∧ cells.size = len * sz ∧ ∀ (p : Nat) x, es.flatten[p]? = some x → RepV I ρ w x (cells.getD p undef) := by
  obtain ⟨i, z, hi, hzz, hs, hc, hv⟩ := zeroB_spec hz
  have hi' : i.size = sz := by unfold szB at hsz; simpa [hi] using hsz
  have hu : ∀ x ∈ List.replicate len zero, x.length = sz := fun x hx => by rw [List.eq_of_mem_replicate hx, hzl]
  obtain ⟨g1, g2, g3⟩ := fillE_fillA sz _ _ es hu h
  have hmap : (ps.map fun p => (p.1, ev sl p.2)).map (fun p => (p.1 * sz, sz, p.2)) = (ps.map fun p => (p.1 * sz, sz, p.2)).map (fun p => (p.1, p.2.1, ev sl p.2.2)) := by simp
  rw [hmap] at g1
  obtain ⟨vals, f1, f2, f3, f4, f5⟩ := fill_rep (fun i => some (i * sz, sz)) _ _ _ _ ((Array.range (len * sz)).map (z.cells[· % z.cells.size]!)) g1 (okParts_rep hr _ _ _ hp) (by simp [flat_len sz _ hu])
    (fun x hx => by
      simp only [List.mem_flatten] at hx
      obtain ⟨l, hl, hx⟩ := hx
      rw [List.eq_of_mem_replicate hl] at hx
      exact hc x hx)
    (zeros_get hs (hv I ρ w) len sz hzl)
  refine ⟨vals, ?_, by simpa using g3, g2, fun x hx y hy => f4 y (List.mem_flatten.2 ⟨x, hx, hy⟩), by rw [f2, flat_len sz es g2, g3]; simp, f5⟩
  subst hi'
  simp only [Instr.buildSlice, Sem.run_bind, run_underlying (sliceB_spec ht) w, Result.andThen_ok, szB_run hsz w]
  by_cases hpos : len * i.size = 0
  · rw [hpos] at f1
    simp only [show Array.range 0 = #[] from rfl, Array.map_empty] at f1
    simp [hpos, f1, newRow, show Array.range 0 = #[] from rfl]
  · simp [hn, hpos, zeroValue, typeInfo, hi, hzz, f1, newRow]
theorem p_bsl (hd : ∀ b, I b → b < w.heap.size) (hr : RepS I ρ w sl a.tmps) {t e : TypeId} {sz len : Nat} {zero : List AVal} {ps : List (Nat × Opd)} {qs : Array (Nat × Operand)} (ho : o.op = .buildSlice t len qs) (hsz : szB P e sz = true) (hz : zeroB P e zero = true) (hzl : zero.length = sz)
    (hp : okParts (fun i => some (i * sz, sz)) (ps.map fun p => (p.1 * sz, sz, p.2)) qs.toList = true) (ht : sliceB P t e = true) (hn : ¬ len * sz > 2 ^ 24)
    {es : List (List AVal)} (h : fillE sz (List.replicate len zero) (ps.map fun p => (p.1, ev sl p.2)) = some es) (hnr : noRefE es = true) : OpGives P o a w (PRes I ρ w (.list sz es)) := by
  obtain ⟨cells, h1, h2, h3, h4, h5, h6⟩ := bsl_cells (P := P) hr hsz hz hzl hp ht hn h
  refine .of_run (w' := w.alloc (.cells cells e)) (v := .slice (some ⟨w.heap.size, 0, none⟩) len len) (by simp [execOp, ho, h1]) ?_
  have := frozen_new (ρ := ρ) hd es sz len cells e (by omega) h3 hnr (by rw [h5, h2]; exact Nat.le_refl _) h6
  rwa [h2] at this
/-- make([]T, n), not written. -/
theorem made_cells {e : TypeId} {bytes : Nat} {zero : List AVal} {n : Int} (hb : bytesB P e bytes = true) (hz : zeroB P e zero = true) (hsz : szB P e zero.length = true) {t : TypeId} (ht : sliceB P t e = true)
    (h0 : 0 ≤ n) (h1 : bytes * n ≤ 281474976710656) (hbp : 0 < bytes) :
    ∃ cells, (Instr.makeSlice t (.int .i64 n) (.int .i64 n)).run P w = .ok (.slice (some ⟨w.heap.size, 0, none⟩) n.toNat n.toNat) (w.alloc (.cells cells e)) ∧ cells.size = n.toNat * zero.length ∧
      ∀ (p : Nat) x, (List.replicate n.toNat zero).flatten[p]? = some x → RepV I ρ w x (cells.getD p undef) := by
  obtain ⟨i, z, hi, hzz, hs, hc, hv⟩ := zeroB_spec hz
  have hb' : i.bytes = bytes := by unfold bytesB at hb; simpa [hi] using hb
  have hs' : i.size = zero.length := by unfold szB at hsz; simpa [hi] using hsz
  have h63 : n ≤ 9223372036854775807 := by
    have : n * 1 ≤ n * bytes := Int.mul_le_mul_of_nonneg_left (by omega) h0
    rw [Int.mul_comm (bytes : Int) n] at h1
    omega
  refine ⟨_, run_make (P := P) w t e i z (sliceB_spec ht) hi hzz .i64 .i64 n n h0 (Int.le_refl _) (by rw [hb']; exact h1) h63, by rw [size_madeCells, hs'], fun p x hx => ?_⟩
  rw [hs']
  exact zeros_get hs (hv I ρ w) n.toNat zero.length rfl p x hx
theorem p_mkl (hd : ∀ b, I b → b < w.heap.size) (hr : RepS I ρ w sl a.tmps) {t e : TypeId} {bytes : Nat} {zero : List AVal} {x : Opd} {x' x2 : Operand} (ho : o.op = .makeSlice t x' x2) (hx : okOpd x x' = true) (hx2 : okOpd x x2 = true) (hb : bytesB P e bytes = true) (hz : zeroB P e zero = true) (hsz : szB P e zero.length = true)
    (ht : sliceB P t e = true) (hbp : 0 < bytes) (hnr : zero.all AVal.noRef = true) {n : Int} (hn : ev sl x = .int .i64 n) (h0 : 0 ≤ n) (h1 : bytes * n ≤ 281474976710656) : OpGives P o a w (PRes I ρ w (.list zero.length (List.replicate n.toNat zero))) := by
  obtain ⟨cells, r1, r2, r3⟩ := made_cells (P := P) (I := I) (ρ := ρ) (w := w) hb hz hsz ht h0 h1 hbp
  refine .of_run (w' := w.alloc (.cells cells e)) (v := .slice (some ⟨w.heap.size, 0, none⟩) n.toNat n.toNat) (by simp [execOp, ho, eval_int hr hx hn, eval_int hr hx2 hn, r1]) ?_
  have := frozen_new (ρ := ρ) hd (List.replicate n.toNat zero) zero.length n.toNat cells e (by simp) (fun x hx => by rw [List.eq_of_mem_replicate hx])
    (by simp only [noRefE, List.all_eq_true]; intro x hx; rw [List.eq_of_mem_replicate hx]; simpa using hnr) (by rw [r2]; simp) r3
  simpa using this

/-! ### Frozen slices -/
theorem eval_list (hr : RepS I ρ w sl a.tmps) {x : Opd} {x' : Operand} (hx : okOpd x x' = true) {sz : Nat} {es : List (List AVal)} (h : ev sl x = .list sz es) : ∃ A c, a.eval x' = .slice A es.length c ∧ RepV I ρ w (.list sz es) (.slice A es.length c) := by
  have hh := okOpd_sound hr hx
  rw [h] at hh
  generalize a.eval x' = v at hh
  cases hh with
  | list _ _ A c vals h1 h2 h3 h4 h5 => exact ⟨A, c, rfl, .list sz es A c vals h1 h2 h3 h4 h5⟩
theorem p_len (hd : ∀ b, I b → b < w.heap.size) (hr : RepS I ρ w sl a.tmps) {t e : TypeId} {x : Opd} {x' : Operand} (ho : o.op = .call { callee := .builtin .len, args := #[x'], argTypes := #[t] }) (hx : okOpd x x' = true) (ht : sliceB P t e = true)
    {sz : Nat} {es : List (List AVal)} (h : ev sl x = .list sz es) : OpGives P o a w (PRes I ρ w (.int .i64 es.length)) := by
  obtain ⟨A, c, e1, _⟩ := eval_list hr hx h
  exact .of_run (w' := w) (v := .int .i64 es.length) (by simp [execOp, ho, resolve, invoke, builtin, e1, Builtin.len_, run_underlying (sliceB_spec ht), goInt]) (.same hd (.int _ _))
theorem add_none {ad : Addr} (h : ad.spot = none) (k : Nat) : ad.add k = ⟨ad.block, ad.off + k, none⟩ := by
  cases ad with
  | mk b o s => simp only at h; subst h; exact Addr.add_lit b o k
theorem p_ixf (hd : ∀ b, I b → b < w.heap.size) (hr : RepS I ρ w sl a.tmps) {t e : TypeId} {sz : Nat} {x i : Opd} {x' i' : Operand} (ho : o.op = .indexAddr t x' i') (hx : okOpd x x' = true) (hi : okOpd i i' = true) (ht : sliceB P t e = true) (hsz : szB P e sz = true)
    {es : List (List AVal)} {k : IntKind} {n : Int} {el : List AVal} (h : ev sl x = .list sz es) (hn : ev sl i = .int k n) (h0 : 0 ≤ n) (he : es[n.toNat]? = some el) : OpGives P o a w (PRes I ρ w (.fptr el)) := by
  obtain ⟨A, c, e1, hrep⟩ := eval_list hr hx h
  have e2 := eval_int hr hi hn
  have hlt : n.toNat < es.length := (List.getElem?_eq_some_iff.1 he).1
  cases hrep with
  | list _ _ _ _ vals h1 h2 h3 h4 h5 =>
    obtain ⟨ad, rfl, hs, hI, hc⟩ := h4 (by intro hh; subst hh; simp at hlt)
    have hel := h2 el (List.mem_of_getElem? he)
    refine .of_run (w' := w) (v := .pointer (some (ad.add (n.toNat * sz)))) ?_ (.same hd ?_)
    · have : 0 ≤ n ∧ n < es.length := ⟨h0, by omega⟩
      simp [execOp, ho, e1, e2, Instr.indexAt, asIntOf, run_underlying (sliceB_spec ht), this, szB_run hsz]
    · rw [add_none hs]
      refine .fptr el _ (fun j => vals n.toNat j) (h3 el (List.mem_of_getElem? he)) rfl hI (fun j hj => ?_) (fun j y hy => h5 n.toNat j el y he hy)
      have := hc n.toNat j hlt (by omega)
      simpa [Nat.add_assoc] using this
theorem p_slf (hd : ∀ b, I b → b < w.heap.size) (hr : RepS I ρ w sl a.tmps) {t e : TypeId} {sz : Nat} {x : Opd} {x' : Operand} {lo' hi' : Option Operand} (ho : o.op = .slice t x' lo' hi' none) (hx : okOpd x x' = true) (ht : sliceB P t e = true) (hsz : szB P e sz = true)
    {es : List (List AVal)} {l h : Nat} (hl : (lo' = none ∧ l = 0) ∨ ∃ y k, lo' = some y ∧ a.eval y = .int k (l : Int)) (hh : (hi' = none ∧ h = es.length) ∨ ∃ y k, hi' = some y ∧ a.eval y = .int k (h : Int)) (h1 : l ≤ h) (h2 : h ≤ es.length)
    (hx1 : ev sl x = .list sz es) : OpGives P o a w (PRes I ρ w (.list sz ((es.take h).drop l))) := by
  obtain ⟨A, c, e1, hrep⟩ := eval_list hr hx hx1
  cases hrep with
  | list _ _ _ _ vals c1 c2 c3 c4 c5 =>
    have hu : (Instr.sliceAt t (.slice A es.length c) (lo'.map a.eval) (hi'.map a.eval) none).run P w = .ok (.slice (if c = l then A else A.map (·.add (l * sz))) (h - l) (c - l)) w := by
      have hb : (Instr.sliceBounds true es.length c (lo'.map a.eval) (hi'.map a.eval) none).run P w = .ok (l, h, c) w := by
        rcases hl with ⟨rfl, rfl⟩ | ⟨y, k, rfl, hy⟩ <;> rcases hh with ⟨rfl, rfl⟩ | ⟨y', k', rfl, hy'⟩
        · simp [Instr.sliceBounds]
        · simp [Instr.sliceBounds, hy', run_sliceBound (P := P) w k' (h : Int) c .sliceAcap (by omega) (by omega)]
        · simp [Instr.sliceBounds, hy, run_sliceBound (P := P) w k (l : Int) es.length .sliceB (by omega) (by omega)]
        · simp [Instr.sliceBounds, hy, hy', run_sliceBound (P := P) w k (l : Int) h .sliceB (by omega) (by omega), run_sliceBound (P := P) w k' (h : Int) c .sliceAcap (by omega) (by omega)]
      simp [Instr.sliceAt, Instr.slice, run_underlying (sliceB_spec ht), hb, szB_run hsz]
    have hlen : ((es.take h).drop l).length = h - l := by simp; omega
    refine .of_run (w' := w) (v := .slice (if c = l then A else A.map (·.add (l * sz))) (h - l) (c - l)) (by simp [execOp, ho, e1, hu]) (.same hd ?_)
    have key := RepV.list (I := I) (ρ := ρ) (w := w) sz ((es.take h).drop l) (if c = l then A else A.map (·.add (l * sz))) (c - l) (fun i j => vals (l + i) j) (by omega)
      (fun x hx => c2 x (List.mem_of_mem_take (List.mem_of_mem_drop hx))) (fun x hx => c3 x (List.mem_of_mem_take (List.mem_of_mem_drop hx)))
      (fun hne => by
        have hlt : l < h := by
          rcases Nat.lt_or_ge l h with h' | h'
          · exact h'
          · exact absurd (List.eq_nil_of_length_eq_zero (by omega)) hne
        obtain ⟨ad, rfl, hs, hI, hc⟩ := c4 (by intro hh; subst hh; simp at h2; omega)
        refine ⟨ad.add (l * sz), ?_, by rw [add_none hs], by rw [add_none hs]; exact hI, fun i j hi hj => ?_⟩
        · rw [if_neg (by omega)]; rfl
        · rw [add_none hs]
          have := hc (l + i) j (by omega) hj
          simp only
          rw [← this, Nat.add_mul]
          congr 2
          omega)
      (fun i j x y hx hy => by
        rw [List.getElem?_drop, List.getElem?_take] at hx
        split at hx
        · exact c5 (l + i) j x y hx hy
        · cases hx)
    rw [hlen] at key
    exact key

/-! ### Pointers -/
theorem p_drop {cs : List AVal} {ad : Addr} (h : RepV I ρ w (.fptr cs) (.pointer (some ad))) (n : Nat) (_hn : n ≤ cs.length) : RepV I ρ w (.fptr (cs.drop n)) (.pointer (some (ad.add n))) := by
  cases h with
  | fptr _ _ vals h1 h2 h3 h4 h5 =>
    rw [add_none h2]
    refine .fptr _ _ (fun j => vals (n + j)) (fun x hx => h1 x (List.mem_of_mem_drop hx)) rfl h3 (fun j hj => ?_) (fun j x hx => h5 (n + j) x (by simpa using hx))
    have := h4 (n + j) (by simp at hj; omega)
    simpa [Nat.add_assoc] using this
theorem eval_fptr (hr : RepS I ρ w sl a.tmps) {x : Opd} {x' : Operand} (hx : okOpd x x' = true) {cs : List AVal} (h : ev sl x = .fptr cs) : ∃ ad, a.eval x' = .pointer (some ad) ∧ RepV I ρ w (.fptr cs) (.pointer (some ad)) := by
  have hh := okOpd_sound hr hx
  rw [h] at hh
  generalize a.eval x' = v at hh
  cases hh with
  | fptr _ ad vals h1 h2 h3 h4 h5 => exact ⟨ad, rfl, .fptr cs ad vals h1 h2 h3 h4 h5⟩
theorem eval_ptr (hr : RepS I ρ w sl a.tmps) {x : Opd} {x' : Operand} (hx : okOpd x x' = true) {b e j : Nat} (h : ev sl x = .ptr b e j) : ∃ r k, ρ b = some r ∧ r.blk = some k ∧ a.eval x' = .pointer (some ⟨k, e * r.sz + j, none⟩) := by
  have hh := okOpd_sound hr hx
  rw [h] at hh
  generalize a.eval x' = v at hh
  cases hh with
  | ptr _ _ _ r k h1 h2 => exact ⟨r, k, h1, h2, rfl⟩
/-- Where field number f of struct type s lies; its size is not 0. -/
def fieldB (P : Program) (s : TypeId) (f off : Nat) : Bool :=
  match P.underlying s with
  | some (.struct fs) => match fs[f]? with
    | some fd => fd.offset == off && (match P.info? fd.type with | some i => i.size != 0 | none => false)
    | none => false
  | _ => false
theorem fieldAt_run {s : TypeId} {f off : Nat} (h : fieldB P s f off = true) (ad : Addr) : (Instr.fieldAt s (.pointer (some ad)) f).run P w = .ok (.pointer (some (ad.add off))) w := by
  unfold fieldB at h
  split at h
  · rename_i fs hu
    split at h
    · rename_i fd hf
      simp only [Bool.and_eq_true, beq_iff_eq] at h
      obtain ⟨rfl, h⟩ := h
      split at h
      · rename_i i hi
        have hs : ¬ i.size = 0 := by simpa using h
        simp [Instr.fieldAt, run_underlying hu, hf, Instr.sureAddr, fieldPlace, sizeOf, typeInfo, hi, hs]
      · cases h
    · cases h
  · cases h
theorem p_fad_f (hd : ∀ b, I b → b < w.heap.size) (hr : RepS I ρ w sl a.tmps) {s : TypeId} {f off : Nat} {x : Opd} {x' : Operand} (ho : o.op = .fieldAddr s x' f) (hx : okOpd x x' = true) (hf : fieldB P s f off = true)
    {cs : List AVal} (h : ev sl x = .fptr cs) : OpGives P o a w (PRes I ρ w (.fptr (cs.drop off))) := by
  obtain ⟨ad, e1, hrep⟩ := eval_fptr hr hx h
  refine .of_run (w' := w) (v := .pointer (some (ad.add off))) (by simp [execOp, ho, e1, fieldAt_run hf]) (.same hd ?_)
  rcases Nat.le_total off cs.length with hle | hle
  · exact p_drop hrep off hle
  · rw [List.drop_eq_nil_of_le hle]
    cases hrep with
    | fptr _ _ vals h1 h2 h3 h4 h5 =>
      rw [add_none h2]
      exact .fptr [] _ (fun _ => undef) (by simp) rfl h3 (by simp) (by simp)
theorem p_fad_p (hd : ∀ b, I b → b < w.heap.size) (hr : RepS I ρ w sl a.tmps) {s : TypeId} {f off : Nat} {x : Opd} {x' : Operand} (ho : o.op = .fieldAddr s x' f) (hx : okOpd x x' = true) (hf : fieldB P s f off = true)
    {b e j : Nat} (h : ev sl x = .ptr b e j) : OpGives P o a w (PRes I ρ w (.ptr b e (j + off))) := by
  obtain ⟨r, k, h1, h2, e1⟩ := eval_ptr hr hx h
  refine .of_run (w' := w) (v := .pointer (some ((⟨k, e * r.sz + j, none⟩ : Addr).add off))) (by simp [execOp, ho, e1, fieldAt_run hf]) (.same hd ?_)
  rw [Addr.add_lit, Nat.add_assoc]
  exact .ptr b e (j + off) r k h1 h2
def arrayB (P : Program) (t : TypeId) (n sz : Nat) : Bool :=
  match P.underlying t with
  | some (.array m e) => m == n && szB P e sz
  | _ => false
theorem indexAt_array_run {t : TypeId} {n sz : Nat} (h : arrayB P t n sz = true) (ad : Addr) {k : IntKind} {i : Int} (h0 : 0 ≤ i) (h1 : i < n) : (Instr.indexAt t (.pointer (some ad)) (.int k i)).run P w = .ok (.pointer (some (ad.add (i.toNat * sz)))) w := by
  unfold arrayB at h
  split at h
  · rename_i m e hu
    simp only [Bool.and_eq_true, beq_iff_eq] at h
    obtain ⟨rfl, hs⟩ := h
    simp [Instr.indexAt, asIntOf, run_underlying hu, Instr.sureAddr, h0, h1, szB_run hs]
  · cases h
theorem p_aix_f (hd : ∀ b, I b → b < w.heap.size) (hr : RepS I ρ w sl a.tmps) {t : TypeId} {n sz : Nat} {x i : Opd} {x' i' : Operand} (ho : o.op = .indexAddr t x' i') (hx : okOpd x x' = true) (hi : okOpd i i' = true) (hf : arrayB P t n sz = true)
    {cs : List AVal} {k : IntKind} {m : Int} (h : ev sl x = .fptr cs) (hm : ev sl i = .int k m) (h0 : 0 ≤ m) (h1 : m < n) : OpGives P o a w (PRes I ρ w (.fptr (cs.drop (m.toNat * sz)))) := by
  obtain ⟨ad, e1, hrep⟩ := eval_fptr hr hx h
  have e2 := eval_int hr hi hm
  refine .of_run (w' := w) (v := .pointer (some (ad.add (m.toNat * sz)))) (by simp [execOp, ho, e1, e2, indexAt_array_run hf ad h0 h1]) (.same hd ?_)
  rcases Nat.le_total (m.toNat * sz) cs.length with hle | hle
  · exact p_drop hrep _ hle
  · rw [List.drop_eq_nil_of_le hle]
    cases hrep with
    | fptr _ _ vals h1 h2 h3 h4 h5 =>
      rw [add_none h2]
      exact .fptr [] _ (fun _ => undef) (by simp) rfl h3 (by simp) (by simp)
theorem p_aix_p (hd : ∀ b, I b → b < w.heap.size) (hr : RepS I ρ w sl a.tmps) {t : TypeId} {n sz : Nat} {x i : Opd} {x' i' : Operand} (ho : o.op = .indexAddr t x' i') (hx : okOpd x x' = true) (hi : okOpd i i' = true) (hf : arrayB P t n sz = true)
    {b e j : Nat} {k : IntKind} {m : Int} (h : ev sl x = .ptr b e j) (hm : ev sl i = .int k m) (h0 : 0 ≤ m) (h1 : m < n) : OpGives P o a w (PRes I ρ w (.ptr b e (j + m.toNat * sz))) := by
  obtain ⟨r, k, g1, g2, e1⟩ := eval_ptr hr hx h
  have e2 := eval_int hr hi hm
  refine .of_run (w' := w) (v := .pointer (some ((⟨k, e * r.sz + j, none⟩ : Addr).add (m.toNat * sz)))) (by simp [execOp, ho, e1, e2, indexAt_array_run hf _ h0 h1]) (.same hd ?_)
  rw [Addr.add_lit, Nat.add_assoc]
  exact .ptr b e _ r k g1 g2
/-- Cells read as one value. -/
theorem load_run {t : TypeId} {agg : Bool} {n : Nat} (ha : aggB P t = some agg) (hs : szB P t n = true) {cs : List AVal} {vals : Nat → Value} {b off : Nat} (hc : ∀ j, j < cs.length → w.cell? ⟨b, off + j, none⟩ = some (vals j))
    (hcell : ∀ x ∈ cs, x.isCell = true) (hv : ∀ (j : Nat) x, cs[j]? = some x → RepV I ρ w x (vals j)) {r : AVal} (hp : pack agg n cs = some r) : ∃ v, (loadVar t ⟨b, off, none⟩).run P w = .ok v w ∧ RepV I ρ w r v := by
  unfold pack at hp
  cases agg with
  | false =>
    simp only [Bool.false_eq_true, if_false] at hp
    cases cs with
    | nil => simp at hp
    | cons x l =>
      simp at hp
      subst hp
      have := hc 0 (by simp)
      refine ⟨vals 0, ?_, hv 0 x rfl⟩
      simp only [Nat.add_zero] at this
      simp [loadVar, aggB_run ha, this]
  | true =>
    simp only [if_true] at hp
    split at hp
    · rename_i hle
      simp only [Option.some.injEq] at hp
      subst hp
      have hl := run_loadCells (P := P) w ⟨b, off, none⟩ n vals (fun j hj => by rw [Addr.add_lit]; exact hc j (by omega))
      refine ⟨_, by simp [loadVar, aggB_run ha, szB_run hs, hl]; rfl, .agg _ _ (by simp; omega) (fun x hx => hcell x (List.mem_of_mem_take hx)) (fun j x hx => ?_)⟩
      rw [List.getElem?_take] at hx
      split at hx
      · rename_i hj
        have := hv j x hx
        simpa [hj] using this
      · cases hx
    · cases hp
theorem p_ldf (hd : ∀ b, I b → b < w.heap.size) (hr : RepS I ρ w sl a.tmps) {t : TypeId} {agg : Bool} {n : Nat} {x : Opd} {x' : Operand} (ho : o.op = .load t x') (hx : okOpd x x' = true) (ha : aggB P t = some agg) (hs : szB P t n = true)
    {cs : List AVal} {r : AVal} (h : ev sl x = .fptr cs) (hp : pack agg n cs = some r) : OpGives P o a w (PRes I ρ w r) := by
  obtain ⟨ad, e1, hrep⟩ := eval_fptr hr hx h
  cases hrep with
  | fptr _ _ vals h1 h2 h3 h4 h5 =>
    obtain ⟨v, r1, r2⟩ := load_run (P := P) (b := ad.block) (off := ad.off) ha hs h4 (fun x hx => AVal.isCell_of_noRef (h1 x hx)) h5 hp
    have : ad = ⟨ad.block, ad.off, none⟩ := by cases ad; simp only at h2; subst h2; rfl
    rw [← this] at r1
    exact .of_run (w' := w) (v := v) (by simp [execOp, ho, e1, Instr.loadAt, Instr.sureAddr, r1]) (.same hd r2)
theorem p_fld (hd : ∀ b, I b → b < w.heap.size) (hr : RepS I ρ w sl a.tmps) {t : TypeId} {f off : Nat} {agg : Bool} {n : Nat} {x : Opd} {x' : Operand} (ho : o.op = .field t x' f) (hx : okOpd x x' = true)
    {fs : Array Field} {fd : Field} (hu : P.underlying t = some (.struct fs)) (hf : fs[f]? = some fd) (hoff : fd.offset = off) (ha : aggB P fd.type = some agg) (hs : szB P fd.type n = true)
    {cs : List AVal} {r : AVal} (h : ev sl x = .agg cs) (hp : pack agg n (cs.drop off) = some r) : OpGives P o a w (PRes I ρ w r) := by
  have hh := okOpd_sound hr hx
  rw [h] at hh
  generalize hv : a.eval x' = v at hh
  subst hoff
  cases hh with
  | agg _ vs hl hcell hrep =>
    have key : ∃ u, (part fd.type vs fd.offset).run P w = .ok u w ∧ RepV I ρ w r u := by
      unfold pack at hp
      cases agg with
      | false =>
        simp only [Bool.false_eq_true, if_false] at hp
        have hx' : cs[fd.offset]? = some r := by rw [← hp]; simp [List.head?_drop]
        have hlt : fd.offset < vs.size := by have := (List.getElem?_eq_some_iff.1 hx').1; omega
        exact ⟨vs.getD fd.offset undef, by simp [part, aggB_run ha, hlt], hrep _ _ hx'⟩
      | true =>
        simp only [if_true] at hp
        split at hp
        · rename_i hle
          simp only [Option.some.injEq] at hp
          subst hp
          simp only [List.length_drop] at hle
          refine ⟨.agg (vs.extract fd.offset (fd.offset + n)), by simp [part, aggB_run ha, szB_run hs], .agg _ _ (by simp; omega) (fun x hx => hcell x (List.mem_of_mem_drop (List.mem_of_mem_take hx))) (fun j x hx => ?_)⟩
          rw [List.getElem?_take, List.getElem?_drop] at hx
          split at hx
          · rename_i hj
            have hlt : fd.offset + j < vs.size := by have := (List.getElem?_eq_some_iff.1 hx).1; omega
            have := hrep _ _ hx
            have hb : j < min (fd.offset + n) vs.size - fd.offset := by omega
            simpa [hlt, hb] using this
          · cases hx
        · cases hp
    obtain ⟨u, r1, r2⟩ := key
    exact .of_run (w' := w) (v := u) (by simp [execOp, ho, hv, Instr.field, run_underlying hu, hf, asAgg, r1]) (.same hd r2)
/-- A struct that is only read, in a block of its own. -/
theorem p_boxf (hd : ∀ b, I b → b < w.heap.size) (hr : RepS I ρ w sl a.tmps) {t : TypeId} {sz : Nat} {x : Opd} {x' : Operand} (ho : o.op = .box t x') (hx : okOpd x x' = true)
    {cs : List AVal} (h : (ev sl x).cells? = some cs) (hl : cs.length = sz) (hn : cs.all AVal.noRef = true) : OpGives P o a w (PRes I ρ w (.fptr cs)) := by
  have hh := okOpd_sound hr hx
  obtain ⟨h1, h2, h3⟩ := hh.cells h
  have ev := PEv.alloc (w := w) hd (.cells (a.eval x').cells t) (fun b => b = w.heap.size) (fun b h => h)
  refine .of_run (w' := w.alloc (.cells (a.eval x').cells t)) (v := .pointer (some ⟨w.heap.size, 0, none⟩)) (by simp [execOp, ho, Instr.box, newVar, newRow]) ⟨_, ev, ?_⟩
  refine .fptr cs _ (fun j => (a.eval x').cells.getD j undef) (fun x hx => by simp only [List.all_eq_true] at hn; exact hn x hx) rfl (.inr rfl) (fun j hj => ?_) (fun j y hy => (h3 j y hy).mono ev.sub (fun _ _ h => h) (fun b hb => ev.same b (hd b hb)))
  have : j < (a.eval x').cells.size := by omega
  simp [this]
end
end Go.Proofs.Ytnomicnfgdjdeaa.Ab
