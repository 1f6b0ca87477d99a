/- Operations of the interpreter on the local store are what the machine does: blocks made, read, written, appended to. Part of a layer that interprets Go code over values. No condition. -/
import Derived.Test.YtnomicnfgdjdeaaAb5
namespace Go.Proofs.Ytnomicnfgdjdeaa.Ab
open Go.RowKit

theorem mg_md (m : List (Nat × Blk)) (b i : Nat) : mg (md m b) i = if i = b then none else mg m i := by
  induction m with
  | nil => simp [md, mg]
  | cons p r ih =>
    obtain ⟨j, c⟩ := p
    simp only [md, mg]
    split
    · rename_i h; subst h; rw [ih]; split <;> simp_all [eq_comm]
    · rename_i h
      simp only [mg]
      split
      · rename_i h2; subst h2; rw [if_neg h]
      · rw [ih]
theorem mg_ms (m : List (Nat × Blk)) (b i : Nat) (c : Blk) : mg (ms m b c) i = if i = b then some c else mg m i := by
  induction m with
  | nil => simp only [ms, mg]; split <;> simp_all [eq_comm]
  | cons p r ih =>
    obtain ⟨j, d⟩ := p
    simp only [ms]
    split
    · rename_i h; subst h; simp only [mg]; split <;> simp_all [eq_comm]
    · rename_i h
      simp only [mg]
      split
      · rename_i h2; subst h2; rw [if_neg h]
      · rw [ih]

/-! ### What a step leaves -/
def SRes (I : Nat → Prop) (ρ : Nat → Option ORep) (m : List (Nat × Blk)) (w : World) (r : AVal) (m' : List (Nat × Blk)) (nx' : Nat) (v : Value) (w' : World) : Prop :=
  ∃ I' ρ', Inv I' ρ' m' nx' w' ∧ Evol I ρ m w I' ρ' m' w' ∧ RepV I' ρ' w' r v
section
variable {P : Program} {I : Nat → Prop} {ρ : Nat → Option ORep} {m : List (Nat × Blk)} {nx : Nat} {w : World} {sl : List (Nat × AVal)} {a : Act} {o : Oper}
theorem PRes.sres {r : AVal} {v : Value} {w' : World} (hi : Inv I ρ m nx w) (h : PRes I ρ w r v w') : SRes I ρ m w r m nx v w' := by
  obtain ⟨I', h1, h2⟩ := h
  exact ⟨I', ρ, h1.inv hi, h1.evol, h2⟩
theorem SRes.same {r : AVal} {v : Value} (hi : Inv I ρ m nx w) (h : RepV I ρ w r v) : SRes I ρ m w r m nx v w := ⟨I, ρ, hi, Evol.refl _ _ _ _, h⟩

def upd (ρ : Nat → Option ORep) (n : Nat) (r : ORep) : Nat → Option ORep := fun i => if i = n then some r else ρ i
theorem upd_ext (hi : Inv I ρ m nx w) (r : ORep) : ∀ i s, ρ i = some s → upd ρ nx r i = some s := by
  intro i s h
  unfold upd
  rw [if_neg]
  · exact h
  · intro e
    subst e
    rw [hi.fresh _ (Nat.le_refl _)] at h
    cases h
theorem upd_self (r : ORep) : upd ρ nx r nx = some r := by simp [upd]
theorem Inv.get (hi : Inv I ρ m nx w) {id : Nat} {B : Blk} {r : ORep} (hB : mg m id = some B) (hr : ρ id = some r) : BlkRep I ρ w r B := by
  obtain ⟨r', e1, e2⟩ := hi.blk id B hB
  rw [hr] at e1
  cases e1
  exact e2
theorem Inv.lt_nx (hi : Inv I ρ m nx w) {id : Nat} {B : Blk} (hB : mg m id = some B) : id < nx := by
  obtain ⟨r, e1, _⟩ := hi.blk id B hB
  rcases Nat.lt_or_ge id nx with h | h
  · exact h
  · rw [hi.fresh id h] at e1; cases e1

/-- A new block of the store. -/
theorem Inv.add (hi : Inv I ρ m nx w) (B : Blk) (r : ORep) (w' : World) (hos : w'.os = w.os) (htp : w'.tape = w.tape) (hou : w'.output = w.output) (hsz : w.heap.size ≤ w'.heap.size)
    (hsame : ∀ b, b < w.heap.size → w'.heap[b]? = w.heap[b]?) (hB : BlkRep I (upd ρ nx r) w' r B) (hk : ∀ k, r.blk = some k → w.heap.size ≤ k) :
    Inv I (upd ρ nx r) ((nx, B) :: m) (nx + 1) w' ∧ Evol I ρ m w I (upd ρ nx r) ((nx, B) :: m) w' := by
  have hIs : ∀ b, I b → w'.heap[b]? = w.heap[b]? := fun b hb => hsame b (hi.dom b hb)
  constructor
  · refine ⟨fun b hb => Nat.lt_of_lt_of_le (hi.dom b hb) hsz, fun id hid => ?_, fun id C hC => ?_, fun i j C D s t k hC hD hs ht h1 h2 => ?_⟩
    · unfold upd
      rw [if_neg (by omega)]
      exact hi.fresh id (by omega)
    · simp only [mg] at hC
      split at hC
      · rename_i e; subst e; cases hC; exact ⟨r, upd_self r, hB⟩
      · obtain ⟨s, e1, e2⟩ := hi.blk id C hC
        exact ⟨s, upd_ext hi r _ _ e1, e2.mono (fun _ h => h) (upd_ext hi r) hIs (fun k hk => ⟨e2.out k hk, hsame k (e2.lt hk)⟩)⟩
    · simp only [mg] at hC hD
      have old : ∀ i C s, mg m i = some C → upd ρ nx r i = some s → ∀ k, s.blk = some k → k < w.heap.size := by
        intro i C s hC hs k hk
        obtain ⟨s', e1, e2⟩ := hi.blk i C hC
        rw [upd_ext hi r _ _ e1] at hs
        cases hs
        exact e2.lt hk
      split at hC <;> split at hD
      · omega
      · rename_i e _
        subst e
        rw [upd_self] at hs
        cases hs
        have := hk _ h1
        have := old j D t hD ht k h2
        omega
      · rename_i _ e
        subst e
        rw [upd_self] at ht
        cases ht
        have := hk _ h2
        have := old i C s hC hs k h1
        omega
      · obtain ⟨s', e1, _⟩ := hi.blk i C hC
        obtain ⟨t', e2, _⟩ := hi.blk j D hD
        rw [upd_ext hi r _ _ e1] at hs
        rw [upd_ext hi r _ _ e2] at ht
        cases hs
        cases ht
        exact hi.inj i j C D _ _ k hC hD e1 e2 h1 h2
  · refine ⟨fun _ h => h, fun _ h => .inl h, upd_ext hi r, fun b hb => ?_, hos, htp, hou, hsz, fun b hb _ => hsame b hb⟩
    obtain ⟨id, C, s, h1, h2, h3⟩ := hb
    simp only [mg] at h1
    split at h1
    · rename_i e
      subst e
      rw [upd_self] at h2
      cases h2
      exact .inr (hk _ h3)
    · obtain ⟨s', e1, _⟩ := hi.blk id C h1
      rw [upd_ext hi r _ _ e1] at h2
      cases h2
      exact .inl ⟨id, C, _, h1, e1, h3⟩

/-- A block of the store goes into another one: the old one is no longer known. -/
theorem Inv.swap (hi : Inv I ρ m nx w) {b : Nat} {B : Blk} {r : ORep} (hb : mg m b = some B) (hr : ρ b = some r) (B' : Blk) (r' : ORep) (w' : World) (hos : w'.os = w.os) (htp : w'.tape = w.tape) (hou : w'.output = w.output)
    (hsz : w.heap.size ≤ w'.heap.size) (hsame : ∀ k, k < w.heap.size → some k ≠ r.blk → w'.heap[k]? = w.heap[k]?) (hB : BlkRep I (upd ρ nx r') w' r' B') (hk : ∀ k, r'.blk = some k → w.heap.size ≤ k ∨ r.blk = some k) :
    Inv I (upd ρ nx r') ((nx, B') :: md m b) (nx + 1) w' ∧ Evol I ρ m w I (upd ρ nx r') ((nx, B') :: md m b) w' := by
  have hnI : ∀ k, r.blk = some k → ¬ I k := (hi.get hb hr).out
  have hIs : ∀ k, I k → w'.heap[k]? = w.heap[k]? := fun k hk => hsame k (hi.dom k hk) (fun e => hnI k e.symm hk)
  have others : ∀ i C, i ≠ b → mg m i = some C → ∃ s, ρ i = some s ∧ BlkRep I ρ w s C ∧ ∀ k, s.blk = some k → k < w.heap.size ∧ some k ≠ r.blk := by
    intro i C hne hC
    obtain ⟨s, e1, e2⟩ := hi.blk i C hC
    exact ⟨s, e1, e2, fun k hk => ⟨e2.lt hk, fun e => hne (hi.inj i b C B s r k hC hb e1 hr hk e.symm)⟩⟩
  constructor
  · refine ⟨fun k hk => Nat.lt_of_lt_of_le (hi.dom k hk) hsz, fun id hid => ?_, fun id C hC => ?_, fun i j C D s t k hC hD hs ht h1 h2 => ?_⟩
    · unfold upd
      rw [if_neg (by omega)]
      exact hi.fresh id (by omega)
    · simp only [mg, mg_md] at hC
      split at hC
      · rename_i e; subst e; cases hC; exact ⟨r', upd_self r', hB⟩
      · split at hC
        · cases hC
        · rename_i hne
          obtain ⟨s, e1, e2, e3⟩ := others id C hne hC
          exact ⟨s, upd_ext hi r' _ _ e1, e2.mono (fun _ h => h) (upd_ext hi r') hIs (fun k hk => ⟨e2.out k hk, hsame k (e3 k hk).1 (e3 k hk).2⟩)⟩
    · simp only [mg, mg_md] at hC hD
      split at hC <;> split at hD
      · omega
      · rename_i e _
        subst e
        split at hD
        · cases hD
        · rename_i hne
          rw [upd_self] at hs
          cases hs
          obtain ⟨t', e1, _, e3⟩ := others j D hne hD
          rw [upd_ext hi r' _ _ e1] at ht
          cases ht
          have := e3 k h2
          rcases hk k h1 with h | h
          · omega
          · exact absurd h.symm this.2
      · rename_i _ e
        subst e
        split at hC
        · cases hC
        · rename_i hne
          rw [upd_self] at ht
          cases ht
          obtain ⟨s', e1, _, e3⟩ := others i C hne hC
          rw [upd_ext hi r' _ _ e1] at hs
          cases hs
          have := e3 k h1
          rcases hk k h2 with h | h
          · omega
          · exact absurd h.symm this.2
      · split at hC
        · cases hC
        · split at hD
          · cases hD
          · rename_i n1 n2
            obtain ⟨s', e1, _, _⟩ := others i C n1 hC
            obtain ⟨t', e2, _, _⟩ := others j D n2 hD
            rw [upd_ext hi r' _ _ e1] at hs
            rw [upd_ext hi r' _ _ e2] at ht
            cases hs
            cases ht
            exact hi.inj i j C D _ _ k hC hD e1 e2 h1 h2
  · refine ⟨fun _ h => h, fun _ h => .inl h, upd_ext hi r', fun k hk' => ?_, hos, htp, hou, hsz, fun k hk hn => hsame k hk (fun e => hn ⟨b, B, r, hb, hr, e.symm⟩)⟩
    obtain ⟨id, C, s, h1, h2, h3⟩ := hk'
    simp only [mg, mg_md] at h1
    split at h1
    · rename_i e
      subst e
      rw [upd_self] at h2
      cases h2
      rcases hk _ h3 with h | h
      · exact .inr h
      · exact .inl ⟨b, B, r, hb, hr, h⟩
    · split at h1
      · cases h1
      · rename_i hne
        obtain ⟨s', e1, _, _⟩ := others id C hne h1
        rw [upd_ext hi r' _ _ e1] at h2
        cases h2
        exact .inl ⟨id, C, _, h1, e1, h3⟩

/-- A block of the store is written. -/
theorem Inv.write (hi : Inv I ρ m nx w) {b : Nat} {B : Blk} {r : ORep} (hb : mg m b = some B) (hr : ρ b = some r) (B' : Blk) (w' : World) (hos : w'.os = w.os) (htp : w'.tape = w.tape) (hou : w'.output = w.output)
    (hsz : w'.heap.size = w.heap.size) (hsame : ∀ k, some k ≠ r.blk → w'.heap[k]? = w.heap[k]?) (hB : BlkRep I ρ w' r B') :
    Inv I ρ (ms m b B') nx w' ∧ Evol I ρ m w I ρ (ms m b B') w' := by
  have hnI : ∀ k, r.blk = some k → ¬ I k := (hi.get hb hr).out
  have hIs : ∀ k, I k → w'.heap[k]? = w.heap[k]? := fun k hk => hsame k (fun e => hnI k e.symm hk)
  constructor
  · refine ⟨fun k hk => by rw [hsz]; exact hi.dom k hk, hi.fresh, fun id C hC => ?_, fun i j C D s t k hC hD hs ht h1 h2 => ?_⟩
    · rw [mg_ms] at hC
      split at hC
      · rename_i e; subst e; cases hC; exact ⟨r, hr, hB⟩
      · rename_i hne
        obtain ⟨s, e1, e2⟩ := hi.blk id C hC
        exact ⟨s, e1, e2.mono (fun _ h => h) (fun _ _ h => h) hIs (fun k hk => ⟨e2.out k hk, hsame k (fun e => hne (hi.inj id b C B s r k hC hb e1 hr hk e.symm))⟩)⟩
    · rw [mg_ms] at hC hD
      have hex : ∀ i C, (if i = b then some B' else mg m i) = some C → ∃ C', mg m i = some C' := by
        intro i C h
        split at h
        · rename_i e; subst e; exact ⟨B, hb⟩
        · exact ⟨C, h⟩
      obtain ⟨C', hC'⟩ := hex i C hC
      obtain ⟨D', hD'⟩ := hex j D hD
      exact hi.inj i j C' D' s t k hC' hD' hs ht h1 h2
  · refine ⟨fun _ h => h, fun _ h => .inl h, fun _ _ h => h, fun k hk' => ?_, hos, htp, hou, by omega, fun k _ hn => hsame k (fun e => hn ⟨b, B, r, hb, hr, e.symm⟩)⟩
    obtain ⟨id, C, s, h1, h2, h3⟩ := hk'
    rw [mg_ms] at h1
    split at h1
    · rename_i e; subst e; exact .inl ⟨id, B, s, hb, h2, h3⟩
    · exact .inl ⟨id, C, s, h1, h2, h3⟩

/-! ### New blocks -/
theorem row_new (w : World) (cells : Array Value) (ty : TypeId) (n c sz : Nat) (hn : n ≤ c) (hc : c ≤ maxLen) (hs : cells.size = c * sz) :
    (w.alloc (.cells cells ty)).ownsRow 0 ty sz (.slice (some ⟨w.heap.size, 0, none⟩) n c) n (cells.toList.take (n * sz)) := by
  refine ⟨?_, .inr ⟨w.heap.size, c, cells, rfl, Nat.zero_le _, heap_alloc_new w _, hn, hc, hs, rfl⟩⟩
  have : n * sz ≤ c * sz := Nat.mul_le_mul_right _ hn
  simp; omega
/-- Cells in a new block that the call owns. -/
theorem add_new (hi : Inv I ρ m nx w) (es : List (List AVal)) (sz : Nat) (ty : TypeId) (cells : Array Value) (hpos : 0 < sz) (hl : es.length ≤ maxLen) (hs : ∀ e ∈ es, e.length = sz) (hc : ∀ e ∈ es, ∀ x ∈ e, x.isCell = true)
    (hsz : cells.size = es.length * sz) (hv : ∀ (p : Nat) x, es.flatten[p]? = some x → RepV I ρ w x (cells.getD p undef)) :
    ∃ r : ORep, r.blk = some w.heap.size ∧ r.sz = sz ∧ r.hdr = .slice (some ⟨w.heap.size, 0, none⟩) es.length es.length ∧
      Inv I (upd ρ nx r) ((nx, ⟨ty, sz, es⟩) :: m) (nx + 1) (w.alloc (.cells cells ty)) ∧ Evol I ρ m w I (upd ρ nx r) ((nx, ⟨ty, sz, es⟩) :: m) (w.alloc (.cells cells ty)) := by
  let r : ORep := { blk := some w.heap.size, len := es.length, cap := es.length, sz := sz, ty := ty }
  refine ⟨r, rfl, rfl, rfl, hi.add ⟨ty, sz, es⟩ r _ rfl rfl rfl (by simp) (fun b hb => heap_alloc_old w _ b hb) ?_ (fun k hk => ?_)⟩
  · refine ⟨rfl, rfl, rfl, hpos, hs, hc, fun k hk hI => ?_, _, row_new w cells ty es.length es.length sz (Nat.le_refl _) hl hsz, fun p x hx => ?_⟩
    · have : w.heap.size = k := Option.some.inj hk
      have := hi.dom k hI
      omega
    · have hp : p < es.length * sz := by
        have := (List.getElem?_eq_some_iff.1 hx).1
        rwa [flat_len sz es hs] at this
      have h1 : (cells.toList.take (es.length * sz)).getD p undef = cells.getD p undef := by
        simp [List.getD, hp]
      rw [h1]
      exact (hv p x hx).mono (fun _ h => h) (upd_ext hi r) (fun b hb => heap_alloc_old w _ b (hi.dom b hb))
  · have : w.heap.size = k := Option.some.inj hk
    omega
theorem s_new (hi : Inv I ρ m nx w) {t : TypeId} {zero : List AVal} (ho : o.op = .alloc t) (hz : zeroB P t zero = true) (hpos : 0 < zero.length) :
    OpGives P o a w (SRes I ρ m w (.ptr nx 0 0) ((nx, ⟨t, zero.length, [zero]⟩) :: m) (nx + 1)) := by
  obtain ⟨i, z, hi', hzz, hs, hc, hv⟩ := zeroB_spec hz
  obtain ⟨r, e1, e2, e3, e4, e5⟩ := add_new hi [zero] zero.length t z.cells hpos (by simp [maxLen]) (by simp) (by simpa using hc) (by simpa using hs) (by simpa using hv I ρ w)
  refine .of_run (w' := w.alloc (.cells z.cells t)) (v := .pointer (some ⟨w.heap.size, 0, none⟩)) (by simp [execOp, ho, Instr.alloc, zeroValue, typeInfo, hi', hzz, newVar, newRow]) ⟨I, _, e4, e5, ?_⟩
  have := RepV.ptr (I := I) (ρ := upd ρ nx r) (w := w.alloc (.cells z.cells t)) nx 0 0 r w.heap.size (upd_self r) e1
  simpa using this
/-- A nil slice that is going to be appended to. -/
theorem s_nv (hi : Inv I ρ m nx w) {ty sz : Nat} (ho : o.op = .move (.const (.slice none 0 0)) ∨ o.op = .assign (.const (.slice none 0 0))) (hpos : 0 < sz) : OpGives P o a w (SRes I ρ m w (.vec nx) ((nx, ⟨ty, sz, []⟩) :: m) (nx + 1)) := by
  let r : ORep := { blk := none, len := 0, cap := 0, sz := sz, ty := ty }
  obtain ⟨z1, z2⟩ := hi.add ⟨ty, sz, []⟩ r w rfl rfl rfl (Nat.le_refl _) (fun _ _ => rfl)
    ⟨rfl, rfl, rfl, hpos, by simp, by simp, fun k hk => by simp [r] at hk, [], World.ownsRow_nil w 0 ty sz, by simp⟩ (fun k hk => by simp [r] at hk)
  refine .of_run (w' := w) (v := .slice none 0 0) ?_ ⟨I, _, z1, z2, .vec nx r (upd_self r)⟩
  rcases ho with ho | ho <;> simp [execOp, ho] <;> rfl
theorem s_box (hi : Inv I ρ m nx w) (hr : RepS I ρ w sl a.tmps) {t : TypeId} {sz : Nat} {x : Opd} {x' : Operand} (ho : o.op = .box t x') (hx : okOpd x x' = true) (hpos : 0 < sz) {cs : List AVal} (h : (ev sl x).cells? = some cs) (hl : cs.length = sz) :
    OpGives P o a w (SRes I ρ m w (.ptr nx 0 0) ((nx, ⟨t, sz, [cs]⟩) :: m) (nx + 1)) := by
  obtain ⟨h1, h2, h3⟩ := (okOpd_sound hr hx).cells h
  obtain ⟨r, e1, e2, e3, e4, e5⟩ := add_new hi [cs] sz t (a.eval x').cells hpos (by simp [maxLen]) (by simpa using hl) (by simpa using h2) (by simpa [hl] using h1) (by simpa using h3)
  refine .of_run (w' := w.alloc (.cells (a.eval x').cells t)) (v := .pointer (some ⟨w.heap.size, 0, none⟩)) (by simp [execOp, ho, Instr.box, newVar, newRow]) ⟨I, _, e4, e5, ?_⟩
  have := RepV.ptr (I := I) (ρ := upd ρ nx r) (w := w.alloc (.cells (a.eval x').cells t)) nx 0 0 r w.heap.size (upd_self r) e1
  simpa using this
theorem s_mkv (hi : Inv I ρ m nx w) (hr : RepS I ρ w sl a.tmps) {t e : TypeId} {bytes : Nat} {zero : List AVal} {x : Opd} {x' x2 : Operand} (ho : o.op = .makeSlice t x' x2) (hx : okOpd x x' = true) (hx2 : okOpd x x2 = true) (hb : bytesB P e bytes = true) (hz : zeroB P e zero = true) (hsz : szB P e zero.length = true)
    (ht : sliceB P t e = true) (hbp : 0 < bytes) (hpos : 0 < zero.length) {n : Int} (hn : ev sl x = .int .i64 n) (h0 : 0 ≤ n) (h1 : bytes * n ≤ 281474976710656) :
    OpGives P o a w (SRes I ρ m w (.vec nx) ((nx, ⟨e, zero.length, List.replicate n.toNat zero⟩) :: m) (nx + 1)) := by
  obtain ⟨cells, r1, r2, r3⟩ := made_cells (P := P) (I := I) (ρ := ρ) (w := w) hb hz hsz ht h0 h1 hbp
  obtain ⟨_, _, _, _, _, hc, _⟩ := zeroB_spec hz
  have h63 : n ≤ 281474976710656 := by
    have : n * 1 ≤ n * bytes := Int.mul_le_mul_of_nonneg_left (by omega) h0
    rw [Int.mul_comm (bytes : Int) n] at h1
    omega
  obtain ⟨r, e1, e2, e3, e4, e5⟩ := add_new hi (List.replicate n.toNat zero) zero.length e cells hpos (by simp only [List.length_replicate, maxLen]; omega) (fun x hx => by rw [List.eq_of_mem_replicate hx])
    (fun x hx => by rw [List.eq_of_mem_replicate hx]; exact hc) (by simpa using r2) r3
  refine .of_run (w' := w.alloc (.cells cells e)) (v := .slice (some ⟨w.heap.size, 0, none⟩) n.toNat n.toNat) (by simp [execOp, ho, eval_int hr hx hn, eval_int hr hx2 hn, r1]) ⟨I, _, e4, e5, ?_⟩
  have := RepV.vec (I := I) (ρ := upd ρ nx r) (w := w.alloc (.cells cells e)) nx r (upd_self r)
  rw [e3] at this
  simpa using this
theorem s_bsv (hi : Inv I ρ m nx w) (hr : RepS I ρ w sl a.tmps) {t e : TypeId} {sz len : Nat} {zero : List AVal} {ps : List (Nat × Opd)} {qs : Array (Nat × Operand)} (ho : o.op = .buildSlice t len qs) (hsz : szB P e sz = true) (hz : zeroB P e zero = true) (hzl : zero.length = sz)
    (hp : okParts (fun i => some (i * sz, sz)) (ps.map fun p => (p.1 * sz, sz, p.2)) qs.toList = true) (ht : sliceB P t e = true) (hn : ¬ len * sz > 2 ^ 24) (hsp : 0 < sz)
    {es : List (List AVal)} (h : fillE sz (List.replicate len zero) (ps.map fun p => (p.1, ev sl p.2)) = some es) : OpGives P o a w (SRes I ρ m w (.vec nx) ((nx, ⟨e, sz, es⟩) :: m) (nx + 1)) := by
  obtain ⟨cells, h1, h2, h3, h4, h5, h6⟩ := bsl_cells (P := P) hr hsz hz hzl hp ht hn h
  have hlp : len ≤ len * sz := Nat.le_mul_of_pos_right _ hsp
  obtain ⟨r, e1, e2, e3, e4, e5⟩ := add_new hi es sz e cells hsp (by simp only [maxLen]; omega) h3 h4 (by rw [h2]; exact h5) h6
  refine .of_run (w' := w.alloc (.cells cells e)) (v := .slice (some ⟨w.heap.size, 0, none⟩) len len) (by simp [execOp, ho, h1]) ⟨I, _, e4, e5, ?_⟩
  have := RepV.vec (I := I) (ρ := upd ρ nx r) (w := w.alloc (.cells cells e)) nx r (upd_self r)
  rwa [e3, h2] at this

/-! ### Reading the store -/
theorem eval_vec (hr : RepS I ρ w sl a.tmps) {x : Opd} {x' : Operand} (hx : okOpd x x' = true) {b : Nat} (h : ev sl x = .vec b) : ∃ r, ρ b = some r ∧ a.eval x' = r.hdr := by
  have hh := okOpd_sound hr hx
  rw [h] at hh
  generalize a.eval x' = v at hh
  cases hh with
  | vec _ r h1 => exact ⟨r, h1, rfl⟩
theorem s_lenv (hi : Inv I ρ m nx w) (hr : RepS I ρ w sl a.tmps) {t e : TypeId} {x : Opd} {x' : Operand} (ho : o.op = .call { callee := .builtin .len, args := #[x'], argTypes := #[t] }) (hx : okOpd x x' = true) (ht : sliceB P t e = true)
    {b : Nat} {B : Blk} (h : ev sl x = .vec b) (hB : mg m b = some B) : OpGives P o a w (SRes I ρ m w (.int .i64 B.es.length) m nx) := by
  obtain ⟨r, h1, h2⟩ := eval_vec hr hx h
  have hl := (hi.get hB h1).len
  exact .of_run (w' := w) (v := .int .i64 B.es.length) (by simp [execOp, ho, resolve, invoke, builtin, h2, ORep.hdr, Builtin.len_, run_underlying (sliceB_spec ht), goInt, hl]) (.same hi (.int _ _))
theorem BlkRep.at_ {r : ORep} {B : Blk} (h : BlkRep I ρ w r B) (hne : B.es ≠ []) : ∃ k cur, r.blk = some k ∧ w.heap[k]? = some (.cells cur B.ty (0, 0)) ∧ B.es.length * B.sz ≤ cur.size ∧
    (∀ (p : Nat) x, B.es.flatten[p]? = some x → RepV I ρ w x (cur.getD p undef)) ∧ (∃ cap, cap ≤ maxLen ∧ cur.size = cap * B.sz ∧ r.cap = cap ∧ B.es.length ≤ cap) := by
  obtain ⟨vals, ho, hv⟩ := h.row
  have hlen : B.es.length ≠ 0 := fun e => hne (List.eq_nil_of_length_eq_zero e)
  rcases ho.2 with ⟨_, h0⟩ | ⟨g, cap, cur, e1, _, e3, e4, e5, e6, e7⟩
  · rw [h.len] at h0; exact absurd h0 hlen
  · have hb : r.blk = some g ∧ r.cap = cap := by
      simp only [ORep.hdr, Value.slice.injEq] at e1
      cases hbk : r.blk with
      | none => simp [hbk] at e1
      | some k => simp [hbk] at e1; exact ⟨by rw [e1.1], e1.2⟩
    rw [h.len] at e4 e7
    have hle : B.es.length * B.sz ≤ cap * B.sz := Nat.mul_le_mul_right _ e4
    refine ⟨g, cur, hb.1, e3, by omega, fun p x hx => ?_, cap, e5, e6, hb.2, e4⟩
    have hp : p < B.es.length * B.sz := by
      have := (List.getElem?_eq_some_iff.1 hx).1
      rwa [flat_len B.sz B.es h.sizes] at this
    have := hv p x hx
    rw [← e7] at this
    have h1 : (cur.toList.take (B.es.length * B.sz)).getD p undef = cur.getD p undef := by
      simp [List.getD, hp]
    rwa [h1] at this
theorem s_ixv (hi : Inv I ρ m nx w) (hr : RepS I ρ w sl a.tmps) {t e : TypeId} {sz : Nat} {x i : Opd} {x' i' : Operand} (ho : o.op = .indexAddr t x' i') (hx : okOpd x x' = true) (hix : okOpd i i' = true) (ht : sliceB P t e = true) (hsz : szB P e sz = true)
    {b : Nat} {B : Blk} {k : IntKind} {n : Int} (h : ev sl x = .vec b) (hB : mg m b = some B) (hn : ev sl i = .int k n) (hBs : B.sz = sz) (h0 : 0 ≤ n) (h1 : n < B.es.length) : OpGives P o a w (SRes I ρ m w (.ptr b n.toNat 0) m nx) := by
  obtain ⟨r, g1, g2⟩ := eval_vec hr hx h
  have e2 := eval_int hr hix hn
  have hbr := hi.get hB g1
  obtain ⟨kk, cur, f1, _⟩ := hbr.at_ (by intro e; rw [e] at h1; simp at h1; omega)
  have hlen := hbr.len
  refine .of_run (w' := w) (v := .pointer (some ⟨kk, n.toNat * r.sz + 0, none⟩)) ?_ (.same hi (.ptr b n.toNat 0 r kk g1 f1))
  have : 0 ≤ n ∧ n < r.len := ⟨h0, by omega⟩
  have hs : r.sz = sz := by rw [hbr.sz, hBs]
  simp [execOp, ho, g2, ORep.hdr, f1, e2, Instr.indexAt, asIntOf, run_underlying (sliceB_spec ht), this, szB_run hsz, hs, Addr.add_lit]
theorem s_ldv (hi : Inv I ρ m nx w) (hr : RepS I ρ w sl a.tmps) {t : TypeId} {agg : Bool} {n : Nat} {x : Opd} {x' : Operand} (ho : o.op = .load t x') (hx : okOpd x x' = true) (ha : aggB P t = some agg) (hs : szB P t n = true)
    {b e j : Nat} {B : Blk} {cs : List AVal} {v : AVal} (h : ev sl x = .ptr b e j) (hB : mg m b = some B) (hc : B.es[e]? = some cs) (hp : pack agg n (cs.drop j) = some v) : OpGives P o a w (SRes I ρ m w v m nx) := by
  obtain ⟨r, k, g1, g2, g3⟩ := eval_ptr hr hx h
  have hbr := hi.get hB g1
  have hlt := (List.getElem?_eq_some_iff.1 hc).1
  obtain ⟨k', cur, f1, f2, f3, f4, _⟩ := hbr.at_ (by intro e'; rw [e'] at hlt; simp at hlt)
  have hk : k = k' := by rw [g2] at f1; exact Option.some.inj f1
  subst hk
  have hcl : cs.length = B.sz := hbr.sizes cs (List.mem_of_getElem? hc)
  have hle : (e + 1) * B.sz ≤ B.es.length * B.sz := Nat.mul_le_mul_right _ hlt
  rw [Nat.add_mul] at hle
  obtain ⟨u, r1, r2⟩ := load_run (P := P) (I := I) (ρ := ρ) (w := w) (b := k) (off := e * B.sz + j) ha hs (cs := cs.drop j) (vals := fun i => cur.getD (e * B.sz + j + i) undef)
    (fun i hi' => by
      simp only [List.length_drop] at hi'
      have : e * B.sz + j + i < cur.size := by omega
      rw [cell_of_row w k _ cur B.ty (0, 0) f2]
      simp [this])
    (fun y hy => hbr.cells cs (List.mem_of_getElem? hc) y (List.mem_of_mem_drop hy))
    (fun i y hy => by
      rw [List.getElem?_drop] at hy
      have hj : j + i < B.sz := by have := (List.getElem?_eq_some_iff.1 hy).1; omega
      have := f4 (e * B.sz + (j + i)) y (by rw [flat_get B.sz B.es hbr.sizes e (j + i) hj, hc]; exact hy)
      rwa [← Nat.add_assoc] at this)
    hp
  refine .of_run (w' := w) (v := u) ?_ (.same hi r2)
  rw [hbr.sz] at g3
  simp [execOp, ho, g3, Instr.loadAt, Instr.sureAddr, r1]

/-! ### Writing the store -/
theorem s_st (hi : Inv I ρ m nx w) (hr : RepS I ρ w sl a.tmps) {t : TypeId} {n : Nat} {x y : Opd} {x' y' : Operand} (ho : o.op = .store t x' y') (hx : okOpd x x' = true) (hy : okOpd y y' = true) (hs : szB P t n = true)
    {b e j : Nat} {B : Blk} {cs old : List AVal} (h : ev sl x = .ptr b e j) (hcs : (ev sl y).cells? = some cs) (hB : mg m b = some B) (hc : B.es[e]? = some old) (hn : cs.length = n) (hl : j + n ≤ old.length) :
    OpGives P o a w (SRes I ρ m w .any (ms m b ⟨B.ty, B.sz, B.es.set e (old.take j ++ cs ++ old.drop (j + n))⟩) nx) := by
  obtain ⟨r, k, g1, g2, g3⟩ := eval_ptr hr hx h
  have hyrep := okOpd_sound hr hy
  obtain ⟨y1, y2, y3⟩ := hyrep.cells hcs
  have hbr := hi.get hB g1
  have hlt := (List.getElem?_eq_some_iff.1 hc).1
  obtain ⟨k', cur, f1, f2, f3, f4, cap, f5, f6, f7, f8⟩ := hbr.at_ (by intro e'; rw [e'] at hlt; simp at hlt)
  have hk : k = k' := by rw [g2] at f1; exact Option.some.inj f1
  subst hk
  have hol : old.length = B.sz := hbr.sizes old (List.mem_of_getElem? hc)
  have hle : (e + 1) * B.sz ≤ B.es.length * B.sz := Nat.mul_le_mul_right _ hlt
  rw [Nat.add_mul] at hle
  have one : ∀ u ∈ (a.eval y').cells.toList, u.oneCell' = true := by
    intro u hu
    obtain ⟨i, hi', rfl⟩ := List.mem_iff_getElem.1 hu
    simp only [Array.length_toList] at hi'
    have hi2 : i < cs.length := by omega
    have := (y3 i cs[i] (by simp [hi2])).oneCell (y2 _ (List.getElem_mem hi2))
    simpa [hi'] using this
  have hst := run_storeCells_at P k (e * B.sz + j) B.ty (a.eval y').cells.toList 0 cur w f2 (by simp only [Array.length_toList]; omega) one
  simp only [Nat.add_zero, Array.length_toList, y1, hn] at hst
  have hlen' : (old.take j ++ cs ++ old.drop (j + n)).length = B.sz := by simp; omega
  have hsizes : ∀ l ∈ B.es.set e (old.take j ++ cs ++ old.drop (j + n)), l.length = B.sz := fun l hl' => by
    rcases List.mem_or_eq_of_mem_set hl' with h' | h'
    · exact hbr.sizes l h'
    · subst h'; exact hlen'
  have hcells : ∀ l ∈ B.es.set e (old.take j ++ cs ++ old.drop (j + n)), ∀ z ∈ l, z.isCell = true := fun l hl' z hz => by
    rcases List.mem_or_eq_of_mem_set hl' with h' | h'
    · exact hbr.cells l h' z hz
    · subst h'
      simp only [List.mem_append] at hz
      rcases hz with (hz | hz) | hz
      · exact hbr.cells old (List.mem_of_getElem? hc) z (List.mem_of_mem_take hz)
      · exact y2 z hz
      · exact hbr.cells old (List.mem_of_getElem? hc) z (List.mem_of_mem_drop hz)
  let cur' : Array Value := (cur.toList.take (e * B.sz + j) ++ (a.eval y').cells.toList ++ cur.toList.drop (e * B.sz + j + n)).toArray
  have hcs' : cur'.size = cur.size := by simp [cur', y1, hn]; omega
  have hIs : ∀ q, I q → (w.setRow k cur').heap[q]? = w.heap[q]? := fun q hq => setRow_other w k q _ (fun e' => hbr.out k g2 (e' ▸ hq))
  have hbr' : BlkRep I ρ (w.setRow k cur') r ⟨B.ty, B.sz, B.es.set e (old.take j ++ cs ++ old.drop (j + n))⟩ := by
    refine ⟨by simpa using hbr.len, hbr.sz, hbr.ty, hbr.pos, hsizes, hcells, hbr.out, cur'.toList.take (r.len * B.sz), ⟨?_, .inr ⟨k, cap, cur', by simp [ORep.hdr, g2, f7], Nat.zero_le _, setRow_heap w k cur cur' B.ty _ f2, ?_, f5, by rw [hcs', f6], rfl⟩⟩, fun p z hz => ?_⟩
    · rw [hbr.len]; simp [hcs']; omega
    · rw [hbr.len]; exact f8
    · have hp : p < B.es.length * B.sz := by
        have := (List.getElem?_eq_some_iff.1 hz).1
        rw [flat_len B.sz _ hsizes] at this
        simpa using this
      have h1 : (cur'.toList.take (r.len * B.sz)).getD p undef = cur'.getD p undef := by
        rw [hbr.len]; simp [List.getD, hp]
      rw [h1]
      obtain ⟨i, q, hi1, hq, rfl⟩ := split_index hp
      have hz0 := hz
      simp only at hz0
      rw [flat_get B.sz _ hsizes i q hq] at hz0
      have hsp := splice_get cur.toList (a.eval y').cells.toList (e * B.sz + j) n (by simp [y1, hn]) (by simp; omega) (i * B.sz + q)
      have hget : cur'.getD (i * B.sz + q) undef = (if e * B.sz + j ≤ i * B.sz + q ∧ i * B.sz + q < e * B.sz + j + n then (a.eval y').cells.toList[i * B.sz + q - (e * B.sz + j)]? else cur.toList[i * B.sz + q]?).getD undef := by
        rw [← hsp]; simp [cur']
      rw [hget]
      by_cases hie : i = e
      · subst hie
        rw [List.getElem?_set_self hlt] at hz0
        simp only [Option.bind_some] at hz0
        rw [splice_get old cs j n hn hl] at hz0
        by_cases hin : j ≤ q ∧ q < j + n
        · rw [if_pos hin] at hz0
          rw [if_pos (by omega)]
          have := (y3 (q - j) z hz0).mono (I' := I) (ρ' := ρ) (w' := w.setRow k cur') (fun _ h => h) (fun _ _ h => h) hIs
          rw [show i * B.sz + q - (i * B.sz + j) = q - j by omega]
          simpa using this
        · rw [if_neg hin] at hz0
          rw [if_neg (by omega)]
          have := (f4 (i * B.sz + q) z (by rw [flat_get B.sz B.es hbr.sizes i q hq, hc]; exact hz0)).mono (I' := I) (ρ' := ρ) (w' := w.setRow k cur') (fun _ h => h) (fun _ _ h => h) hIs
          simpa using this
      · rw [List.getElem?_set_ne (Ne.symm hie)] at hz0
        have hne : ¬ (e * B.sz + j ≤ i * B.sz + q ∧ i * B.sz + q < e * B.sz + j + n) := by
          intro hh
          rcases Nat.lt_or_gt_of_ne hie with h' | h'
          · have : (i + 1) * B.sz ≤ e * B.sz := Nat.mul_le_mul_right _ h'
            rw [Nat.add_mul] at this; omega
          · have : (e + 1) * B.sz ≤ i * B.sz := Nat.mul_le_mul_right _ h'
            rw [Nat.add_mul] at this; omega
        rw [if_neg hne]
        have := (f4 (i * B.sz + q) z (by rw [flat_get B.sz B.es hbr.sizes i q hq]; exact hz0)).mono (I' := I) (ρ' := ρ) (w' := w.setRow k cur') (fun _ h => h) (fun _ _ h => h) hIs
        simpa using this
  obtain ⟨q1, q2⟩ := hi.write hB g1 _ (w.setRow k cur') rfl rfl rfl (by simp) (fun q hq => setRow_other w k q _ (fun e' => hq (by rw [e', g2]))) hbr'
  rw [hbr.sz] at g3
  refine .of_skip (w' := w.setRow k cur') ?_ ⟨I, ρ, q1, q2, .any _⟩
  have hsz : ¬ (a.eval y').cells.size ≠ n := by omega
  simp [execOp, ho, g3, Instr.storeAt, Instr.sureAddr, storeVar, szB_run hs, hsz, hst, cur']
end
end Go.Proofs.Ytnomicnfgdjdeaa.Ab
