/- Appends and calls of the interpreter are what the machine does. Part of a layer that interprets Go code over values. No condition. -/
import Derived.Test.YtnomicnfgdjdeaaAb6
import Derived.Maps.AppendAt
namespace Go.Proofs.Ytnomicnfgdjdeaa.Ab
open Go.RowKit

section
variable {P : Program} {I : Nat → Prop} {ρ : Nat → Option ORep} {m : List (Nat × Blk)} {nx : Nat} {w : World} {sl : List (Nat × AVal)} {a : Act} {o : Oper}

/-! ### append -/
theorem append_empty_run {t ty e : TypeId} {sz : Nat} (ht : sliceB P t e = true) (hs : szB P e sz = true) (base : Option Addr) (n cap : Nat) (hn : n ≤ cap) (A : Option Addr) (c : Nat) :
    (Builtin.append_ #[t, t] ty #[.slice base n cap, .slice A 0 c]).run P w = .ok (.slice base n cap) w := by
  have hf : (Builtin.firstCells sz 0 (.slice A 0 c)).run P w = .ok #[] w := by
    cases A with
    | none => simp [Builtin.firstCells]
    | some ad => simp [Builtin.firstCells, loadCells, loadCellsFrom]
  cases base with
  | none => simp [Builtin.append_, run_underlying (sliceB_spec ht), szB_run hs, Builtin.lenOf, hn, hf]
  | some ad => simp [Builtin.append_, run_underlying (sliceB_spec ht), szB_run hs, Builtin.lenOf, hn, hf, storeCells]
theorem owns_le {e : TypeId} {sz : Nat} {base : Option Addr} {n n' cap : Nat} {xs : List Value} (h : w.ownsRow 0 e sz (.slice base n cap) n' xs) (hnn : n = n') : n ≤ cap := by
  rcases h.2 with ⟨h1, _⟩ | ⟨g, cap', cur, e1, _, _, h4, _⟩
  · simp only [Value.slice.injEq] at h1; omega
  · simp only [Value.slice.injEq] at e1; omega
/-- Elements of a frozen slice, appended to what the call owns. -/
theorem app_run {t ty e : TypeId} {sz bytes : Nat} (ht : sliceB P t e = true) (hs : szB P e sz = true) (hb : bytesB P e bytes = true) {zero : List AVal} (hz : zeroB P e zero = true) (hzl : zero.length = sz) (hpos : 0 < sz) (hbp : 0 < bytes)
    {hdr : Value} {base : Option Addr} {n cap : Nat} (hh : hdr = .slice base n cap) {vals : List Value} (B : Nat) (hB : B ≤ w.heap.size) (hown : w.ownsRow B e sz hdr n vals) {es : List (List AVal)} {A : Option Addr} {c : Nat} (hrep : RepV I ρ w (.list sz es) (.slice A es.length c))
    (hbytes : (n + es.length) * bytes ≤ 140737488355328) :
    ∃ v' w' news, (Builtin.append_ #[t, t] ty #[hdr, .slice A es.length c]).run P w = .ok v' w' ∧ w'.ownsRow B e sz v' (n + es.length) (vals ++ news) ∧ w.grownBy w' hdr.ownBlock ∧ (v'.ownBlock = hdr.ownBlock ∨ v'.ownBlock = some w.heap.size) ∧
      news.length = es.length * sz ∧ ∀ (p : Nat) x, es.flatten[p]? = some x → RepV I ρ w x (news.getD p undef) := by
  by_cases hes : es = []
  · subst hes
    have hle : n ≤ cap := by
      subst hh
      rcases hown.2 with ⟨h1, _⟩ | ⟨g, cap', cur, e1, _, _, h4, _⟩
      · simp only [Value.slice.injEq] at h1; omega
      · simp only [Value.slice.injEq] at e1; omega
    refine ⟨hdr, w, [], ?_, by simpa using hown, ⟨rfl, rfl, rfl, Nat.le_refl _, fun _ _ _ => rfl⟩, .inl rfl, by simp, by simp⟩
    subst hh
    exact append_empty_run ht hs base n cap hle A c
  · obtain ⟨i, z, hi', hzz, hzs, _, _⟩ := zeroB_spec hz
    have hb' : i.bytes = bytes := by unfold bytesB at hb; simpa [hi'] using hb
    have hs' : i.size = sz := by unfold szB at hs; simpa [hi'] using hs
    cases hrep with
    | list _ _ _ _ vs h1 h2 h3 h4 h5 =>
      obtain ⟨ad, rfl, a1, a2, a3⟩ := h4 hes
      let news : List Value := (List.range (es.length * sz)).map fun p => vs (p / sz) (p % sz)
      have hnl : news.length = es.length * sz := by simp [news]
      have hidx : ∀ p, p < es.length * sz → p / sz < es.length ∧ p % sz < sz ∧ p / sz * sz + p % sz = p := by
        intro p hp
        exact ⟨Nat.div_lt_of_lt_mul (by rwa [Nat.mul_comm] at hp), Nat.mod_lt _ hpos, by have := Nat.div_add_mod p sz; rw [Nat.mul_comm] at this; omega⟩
      have hget : ∀ (p : Nat) x, es.flatten[p]? = some x → RepV I ρ w x (news.getD p undef) := by
        intro p x hx
        have hp : p < es.length * sz := by
          have := (List.getElem?_eq_some_iff.1 hx).1
          rwa [flat_len sz es h2] at this
        obtain ⟨q1, q2, q3⟩ := hidx p hp
        rw [← q3, flat_get sz es h2 _ _ q2] at hx
        obtain ⟨el, e1, e2⟩ := Option.bind_eq_some_iff.1 hx
        have := h5 _ _ el x e1 e2
        simpa [news, hp] using this
      have hone : ∀ u ∈ news, u.oneCell' = true := by
        intro u hu
        obtain ⟨p, hp, rfl⟩ := List.mem_iff_getElem.1 hu
        have hp' : p < es.length * sz := by rwa [hnl] at hp
        have hfl : p < es.flatten.length := by rw [flat_len sz es h2]; exact hp'
        have hr := hget p es.flatten[p] (List.getElem?_eq_getElem hfl)
        have hc : es.flatten[p].isCell = true := by
          obtain ⟨l, hl, hx⟩ := List.mem_flatten.1 (List.getElem_mem hfl)
          exact AVal.isCell_of_noRef (h3 l hl _ hx)
        have := hr.oneCell hc
        simpa [List.getD, hp] using this
      have hcells : ∀ j u, news[j]? = some u → w.cell? (ad.add j) = some u := by
        intro j u hu
        have hj : j < es.length * sz := by have := (List.getElem?_eq_some_iff.1 hu).1; rwa [hnl] at this
        obtain ⟨q1, q2, q3⟩ := hidx j hj
        have := a3 _ _ q1 q2
        rw [q3] at this
        rw [add_none a1, this]
        have hu' : news[j]? = some (vs (j / sz) (j % sz)) := by simp [news, hj]
        rw [← hu, hu']
      have h63 : n + es.length ≤ maxLen := by
        have : (n + es.length) * 1 ≤ (n + es.length) * bytes := Nat.mul_le_mul_left _ hbp
        simp only [maxLen]; omega
      obtain ⟨v', w', r1, r2, r3, _, r5⟩ := run_append_own_at (P := P) w B t ty e i z sz bytes (sliceB_spec ht) hi' hzz hs' hb' (by rw [hzs, hzl]) hpos hdr n vals hown ad es.length c news hnl hcells hone h63 hbytes hB
      exact ⟨v', w', news, r1, r2, r3, r5, hnl, hget⟩

/-- What an owned row's header looks like. -/
theorem own_form {e : TypeId} {sz n B : Nat} {v : Value} {xs : List Value} (h : w.ownsRow B e sz v n xs) : ∃ r : ORep, r.hdr = v ∧ r.len = n ∧ r.sz = sz ∧ r.ty = e ∧ v.ownBlock = r.blk ∧ ∀ k, r.blk = some k → B ≤ k := by
  rcases h.2 with ⟨rfl, rfl⟩ | ⟨g, cap, cur, rfl, hg, _⟩
  · exact ⟨⟨none, 0, 0, sz, e⟩, rfl, rfl, rfl, rfl, rfl, by simp⟩
  · exact ⟨⟨some g, n, cap, sz, e⟩, rfl, rfl, rfl, rfl, rfl, by simpa using hg⟩
theorem hdr_block (r : ORep) : r.hdr.ownBlock = r.blk := by cases h : r.blk <;> simp [ORep.hdr, h, Value.ownBlock]
theorem flatten_append_get {sz : Nat} {xs ys : List (List AVal)} {vx vy : List Value} {R : AVal → Value → Prop} (hx : ∀ e ∈ xs, e.length = sz) (hl : vx.length = xs.length * sz)
    (h1 : ∀ (p : Nat) z, xs.flatten[p]? = some z → R z (vx.getD p undef)) (h2 : ∀ (p : Nat) z, ys.flatten[p]? = some z → R z (vy.getD p undef)) : ∀ (p : Nat) z, (xs ++ ys).flatten[p]? = some z → R z ((vx ++ vy).getD p undef) := by
  intro p z hz
  rw [List.flatten_append] at hz
  have hfl := flat_len sz xs hx
  by_cases hp : p < xs.flatten.length
  · rw [List.getElem?_append_left hp] at hz
    have := h1 p z hz
    rw [List.getD_eq_getElem?_getD, List.getElem?_append_left (by omega), ← List.getD_eq_getElem?_getD]
    exact this
  · rw [List.getElem?_append_right (by omega)] at hz
    have := h2 _ z hz
    rw [List.getD_eq_getElem?_getD, List.getElem?_append_right (by omega), ← List.getD_eq_getElem?_getD, hl, ← hfl]
    exact this
def okApp (P : Program) (t : TypeId) (ty sz bytes : Nat) (zero : List AVal) : Bool :=
  sliceB P t ty && szB P ty sz && bytesB P ty bytes && zeroB P ty zero && zero.length == sz && decide (0 < sz) && decide (0 < bytes)
theorem s_app (hi : Inv I ρ m nx w) (hr : RepS I ρ w sl a.tmps) {t : TypeId} {ty sz bytes : Nat} {zero : List AVal} {x y : Opd} {x' y' : Operand} (ho : o.op = .call { callee := .builtin .append, args := #[x', y'], argTypes := #[t, t] }) (hx : okOpd x x' = true) (hy : okOpd y y' = true)
    (hok : okApp P t ty sz bytes zero = true) {b : Nat} {B : Blk} {es : List (List AVal)} (h1 : ev sl x = .vec b) (h2 : ev sl y = .list sz es) (hB : mg m b = some B) (hty : B.ty = ty) (hsz : B.sz = sz) (hbytes : (B.es.length + es.length) * bytes ≤ 140737488355328) :
    OpGives P o a w (SRes I ρ m w (.vec nx) ((nx, ⟨ty, sz, B.es ++ es⟩) :: md m b) (nx + 1)) := by
  simp only [okApp, Bool.and_eq_true, beq_iff_eq, decide_eq_true_eq] at hok
  obtain ⟨⟨⟨⟨⟨⟨k1, k2⟩, k3⟩, k4⟩, k5⟩, k6⟩, k7⟩ := hok
  obtain ⟨r, g1, g2⟩ := eval_vec hr hx h1
  obtain ⟨A, c, e1, hrep⟩ := eval_list hr hy h2
  have hbr := hi.get hB g1
  obtain ⟨vals, ho1, ho2⟩ := hbr.row
  subst hty hsz
  obtain ⟨v', w', news, r1, r2, r3, r4, r5, r6⟩ := app_run (P := P) (ty := o.type) k1 k2 k3 k4 k5 k6 k7 (hdr := r.hdr) rfl 0 (Nat.zero_le _) ho1 hrep (by rw [hbr.len]; exact hbytes)
  obtain ⟨r', q1, q2, q3, q4, q5, _⟩ := own_form r2
  have hsame : ∀ k, k < w.heap.size → some k ≠ r.blk → w'.heap[k]? = w.heap[k]? := fun k hk hne => r3.block k hk (by rw [hdr_block]; exact hne)
  have hnI : ∀ k, r.blk = some k → ¬ I k := hbr.out
  have hIs : ∀ k, I k → w'.heap[k]? = w.heap[k]? := fun k hk => hsame k (hi.dom k hk) (fun e => hnI k e.symm hk)
  have hk : ∀ k, r'.blk = some k → w.heap.size ≤ k ∨ r.blk = some k := by
    intro k hk
    rw [← q5] at hk
    rcases r4 with h | h
    · rw [h, hdr_block] at hk; exact .inr hk
    · rw [h] at hk; exact .inl (by have := Option.some.inj hk; omega)
  have les : ∀ e ∈ es, e.length = B.sz := by cases hrep with | list _ _ _ _ _ _ h2 _ _ _ => exact h2
  have cel : ∀ e ∈ es, ∀ z ∈ e, z.isCell = true := by cases hrep with | list _ _ _ _ _ _ _ h3 _ _ => exact fun e he z hz => AVal.isCell_of_noRef (h3 e he z hz)
  have hB' : BlkRep I (upd ρ nx r') w' r' ⟨B.ty, B.sz, B.es ++ es⟩ := by
    refine ⟨by rw [q2, hbr.len]; simp, q3, q4, k6, fun e he => ?_, fun e he => ?_, fun k hk' hI => ?_, vals ++ news, ?_, ?_⟩
    · rcases List.mem_append.1 he with h | h
      · exact hbr.sizes e h
      · exact les e h
    · rcases List.mem_append.1 he with h | h
      · exact hbr.cells e h
      · exact cel e h
    · rcases hk k hk' with h | h
      · have := hi.dom k hI; omega
      · exact hnI k h hI
    · rw [q1, q2]; exact r2
    · exact flatten_append_get hbr.sizes (by rw [ho1.1, hbr.len]) (fun p z hz => (ho2 p z hz).mono (fun _ h => h) (upd_ext hi r') hIs) (fun p z hz => (r6 p z hz).mono (fun _ h => h) (upd_ext hi r') hIs)
  obtain ⟨z1, z2⟩ := hi.swap hB g1 ⟨B.ty, B.sz, B.es ++ es⟩ r' w' r3.os r3.tape r3.output r3.size hsame hB' hk
  refine .of_run (w' := w') (v := v') (by simp [execOp, ho, resolve, invoke, builtin, g2, e1, r1]) ⟨I, _, z1, z2, ?_⟩
  rw [← q1]
  exact .vec nx r' (upd_self r')
/-- Zeros, appended to what the call owns. -/
theorem apz_run {t tn ty e : TypeId} {sz bytes : Nat} (ht : sliceB P t e = true) (htn : P.underlying tn = some (.int .i64)) (hs : szB P e sz = true) (hb : bytesB P e bytes = true) {zero : List AVal} (hz : zeroB P e zero = true) (hzl : zero.length = sz) (hpos : 0 < sz) (hbp : 0 < bytes)
    {hdr : Value} {n : Nat} {vals : List Value} (hown : w.ownsRow 0 e sz hdr n vals) {q : Nat}
    (hbytes : (n + q) * bytes ≤ 140737488355328) :
    ∃ v' w' news, (Builtin.append_ #[t, tn] ty #[hdr, .int .i64 q]).run P w = .ok v' w' ∧ w'.ownsRow 0 e sz v' (n + q) (vals ++ news) ∧ w.grownBy w' hdr.ownBlock ∧ (v'.ownBlock = hdr.ownBlock ∨ v'.ownBlock = some w.heap.size) ∧
      news.length = q * sz ∧ ∀ (I : Nat → Prop) (ρ : Nat → Option ORep) (w2 : World) (p : Nat) x, (List.replicate q zero).flatten[p]? = some x → RepV I ρ w2 x (news.getD p undef) := by
  obtain ⟨i, z, hi, hzz, hzs, hone, hrep⟩ := zeroB_spec hz
  have hb' : i.bytes = bytes := by unfold bytesB at hb; simpa [hi] using hb
  have hs' : i.size = sz := by unfold szB at hs; simpa [hi] using hs
  subst hb'
  subst hs'
  have ht' := sliceB_spec ht
  have hq1 : (n + q) * 1 ≤ (n + q) * i.bytes := Nat.mul_le_mul_left _ hbp
  have hqb : q * i.bytes ≤ (n + q) * i.bytes := Nat.mul_le_mul_right _ (by omega)
  have h63 : n + q ≤ maxLen := by simp only [maxLen]; omega
  have hwr : IntKind.i64.wrap (q : Int) = q := by
    unfold IntKind.wrap
    simp [IntKind.signed, IntKind.bits]
    omega
  have hai : ∀ (k : Int) (w2 : World), (asInt (.int .i64 k)).run P w2 = .ok k w2 := fun _ _ => rfl
  have hq0 : ¬ (q : Int) < 0 := by omega
  have hq48 : ¬ ((281474976710656 : Int) < (q : Int) * (i.bytes : Int)) := by
    have : ((q * i.bytes : Nat) : Int) ≤ 140737488355328 := by omega
    rw [Int.natCast_mul] at this
    omega
  have hnl : (Builtin.zeroCells z.cells q).size = q * i.size := by rw [size_zeroCells, hzs, hzl]
  have hgets : ∀ (I : Nat → Prop) (ρ : Nat → Option ORep) (w2 : World) (p : Nat) x, (List.replicate q zero).flatten[p]? = some x → RepV I ρ w2 x ((Builtin.zeroCells z.cells q).toList.getD p undef) := by
    intro I ρ w2 p x hx
    have := zeros_get (w := w2) hzs (hrep I ρ w2) q i.size hzl p x hx
    have e : Builtin.zeroCells z.cells q = (Array.range (q * i.size)).map (z.cells[· % z.cells.size]!) := by unfold Builtin.zeroCells; rw [hzs, hzl]
    have e2 : ∀ (A : Array Value) (p : Nat), A.toList.getD p undef = A.getD p undef := by intro A p; simp [List.getD_eq_getElem?_getD, Array.getD_eq_getD_getElem?]
    rw [e2, e]
    exact this
  have hone' : ∀ u ∈ (Builtin.zeroCells z.cells q).toList, u.oneCell' = true := by
    intro u hu
    obtain ⟨p, hp, rfl⟩ := List.mem_iff_getElem.1 hu
    have hp' : p < q * i.size := by simpa [hnl] using hp
    have hsz : ∀ x ∈ List.replicate q zero, x.length = i.size := fun x hx => by rw [List.eq_of_mem_replicate hx, hzl]
    have hfl : p < (List.replicate q zero).flatten.length := by rw [flat_len i.size _ hsz]; simpa using hp'
    have hr := hgets (fun _ => False) (fun _ => none) w p _ (List.getElem?_eq_getElem hfl)
    have hc : (List.replicate q zero).flatten[p].isCell = true := by
      obtain ⟨l, hl, hx⟩ := List.mem_flatten.1 (List.getElem_mem hfl)
      rw [List.eq_of_mem_replicate hl] at hx
      exact hone _ hx
    have := hr.oneCell hc
    rw [List.getD_eq_getElem?_getD, List.getElem?_eq_getElem hp] at this
    exact this
  have happ : ∀ w2 : World, (if q * i.size = 0 then pure #[] else pure (Builtin.zeroCells z.cells q) : Sem (Array Value)).run P w2 = .ok (Builtin.zeroCells z.cells q) w2 := by
    intro w2
    split
    · rename_i h0
      have : Builtin.zeroCells z.cells q = #[] := Array.eq_empty_of_size_eq_zero (by rw [hnl, h0])
      rw [this]; rfl
    · rfl
  have hlen : (vals ++ (Builtin.zeroCells z.cells q).toList).length = (n + q) * i.size := by rw [List.length_append, hown.1, Array.length_toList, hnl, Nat.add_mul]
  have grown : ∀ (old : Nat), old < n + q → ∀ (row : Option Nat),
      (w.drew.alloc (.cells (vals.toArray ++ Builtin.zeroCells z.cells q ++ Builtin.zeroCells z.cells (grownCap w (n + q) old e - (n + q))) e)).ownsRow 0 e i.size
        (.slice (some ⟨w.heap.size, 0, none⟩) (n + q) (grownCap w (n + q) old e)) (n + q) (vals ++ (Builtin.zeroCells z.cells q).toList) ∧
      w.grownBy (w.drew.alloc (.cells (vals.toArray ++ Builtin.zeroCells z.cells q ++ Builtin.zeroCells z.cells (grownCap w (n + q) old e - (n + q))) e)) row := by
    intro old ho row
    have hge := grownCap_ge w (n + q) old e
    have hcm : grownCap w (n + q) old e ≤ maxLen := grownCap_le_maxLen w (n + q) old e h63
    refine ⟨⟨hlen, .inr ⟨w.heap.size, _, _, rfl, Nat.zero_le _, heap_alloc_new w.drew _, hge, hcm, ?_, ?_⟩⟩, ⟨rfl, rfl, rfl, by simp, fun k hk _ => heap_alloc_old w.drew _ k hk⟩⟩
    · simp only [Array.size_append, List.size_toArray, size_zeroCells, hzs, hzl, hown.1, ← Nat.add_mul]
      congr 1
      omega
    · simp only [Array.toList_append, List.append_assoc]
      rw [← List.append_assoc, ← hlen]
      exact List.take_left
  have h63' : ¬ ((9223372036854775807 : Int) < (n : Int) + (q : Int)) := by simp only [maxLen] at h63; omega
  rcases hown.2 with ⟨rfl, rfl⟩ | ⟨g, cap, cur, rfl, hbg, hg, hnc, hcm, hcs, htake⟩
  · have hx : vals = [] := List.eq_nil_of_length_eq_zero (by simpa using hown.1)
    subst hx
    by_cases hm : q = 0
    · subst hm
      refine ⟨.slice none 0 0, w, [], ?_, World.ownsRow_nil w 0 e i.size, ⟨rfl, rfl, rfl, Nat.le_refl _, fun _ _ _ => rfl⟩, Or.inl rfl, by simp, by simp⟩
      have hw0 : IntKind.i64.wrap 0 = 0 := rfl
      simp [Builtin.append_, run_underlying ht', run_underlying htn, sizeOf, typeInfo, hi, hai, hw0]
    · have hgr := grown 0 (by omega) (Value.ownBlock (.slice none 0 0))
      have hfit : ¬ ((281474976710656 : Nat) < Builtin.nextslicecap q 0 * i.bytes) := by have := growslice_fits (need := q) (old := 0) (bytes := i.bytes) (by omega) (by simpa using hbytes); omega
      have hq' : ¬ ((9223372036854775807 : Int) < (q : Int)) := by simp only [maxLen] at h63; omega
      simp only [Nat.zero_add, List.nil_append] at hgr ⊢
      refine ⟨_, _, (Builtin.zeroCells z.cells q).toList, ?_, hgr.1, hgr.2, Or.inr rfl, by simp [hnl], hgets⟩
      simp [Builtin.append_, run_underlying ht', run_underlying htn, sizeOf, typeInfo, zeroValue, hi, hzz, hai, hwr, hq0, hq48, hm, hq', hfit, run_firstCells_none, happ, Question.forced, newRow, grownCap]
      intro h0
      have hz0 : Builtin.zeroCells z.cells q = #[] := Array.eq_empty_of_size_eq_zero (by rw [hnl, h0])
      simp [hz0]
  · have hn0 : ∀ k, w.cell? ⟨g, k, none⟩ = cur[k]? := fun k => by simp [World.cell?, hg]
    by_cases hroom : n + q ≤ cap
    · have hfit : n * i.size + q * i.size ≤ cur.size := by rw [hcs, ← Nat.add_mul]; exact Nat.mul_le_mul_right _ hroom
      have hst := run_storeCells_at P g (n * i.size) e (Builtin.zeroCells z.cells q).toList 0 cur w hg (by simpa [hnl] using hfit) hone'
      simp only [Nat.add_zero] at hst
      refine ⟨.slice (some ⟨g, 0, none⟩) (n + q) cap, w.setRow g (cur.toList.take (n * i.size) ++ (Builtin.zeroCells z.cells q).toList ++ cur.toList.drop (n * i.size + (Builtin.zeroCells z.cells q).toList.length)).toArray, (Builtin.zeroCells z.cells q).toList, ?_, ⟨hlen, .inr ⟨g, cap, _, rfl, hbg, setRow_heap w g cur _ e _ hg, hroom, hcm, ?_, ?_⟩⟩, ⟨rfl, rfl, rfl, by simp, fun k _ hk => setRow_other w g k _ (fun e => hk (by simp [Value.ownBlock, e]))⟩, Or.inl rfl, by simp [hnl], hgets⟩
      · simp [Builtin.append_, run_underlying ht', run_underlying htn, sizeOf, typeInfo, zeroValue, hi, hzz, hai, hwr, hq0, hq48, hroom, happ, Addr.add_lit, hst]
        intro h0
        have hz0 : Builtin.zeroCells z.cells q = #[] := Array.eq_empty_of_size_eq_zero (by rw [hnl, h0])
        simp [hz0] at hst ⊢
        simp [hst]
      · simp only [List.size_toArray, List.length_append, List.length_take, List.length_drop, Array.length_toList, hnl]
        omega
      · rw [htake, ← hlen]
        exact List.take_left
    · have hfit : ¬ ((281474976710656 : Nat) < Builtin.nextslicecap (n + q) cap * i.bytes) := by have := growslice_fits (need := n + q) (old := cap) (bytes := i.bytes) (by omega) hbytes; omega
      have holds : ∀ j u, vals[j]? = some u → w.cell? ((⟨g, 0, none⟩ : Addr).add j) = some u := hown.cells (g := g) rfl
      have hfo := run_firstCells_some (P := P) w.drew i.size n ⟨g, 0, none⟩ n cap vals hown.1 (by simpa using holds)
      have hgr := grown cap (by omega) (Value.ownBlock (.slice (some ⟨g, 0, none⟩) n cap))
      refine ⟨_, _, (Builtin.zeroCells z.cells q).toList, ?_, hgr.1, hgr.2, Or.inr rfl, by simp [hnl], hgets⟩
      simp [Builtin.append_, run_underlying ht', run_underlying htn, sizeOf, typeInfo, zeroValue, hi, hzz, hai, hwr, hq0, hq48, hroom, h63', hfit, hfo, happ, Question.forced, newRow, grownCap]
      intro h0
      have hz0 : Builtin.zeroCells z.cells q = #[] := Array.eq_empty_of_size_eq_zero (by rw [hnl, h0])
      simp [hz0]
def okApz (P : Program) (t tn : TypeId) (ty sz bytes : Nat) (zero : List AVal) : Bool := okApp P t ty sz bytes zero && (match P.underlying tn with | some (.int .i64) => true | _ => false)
theorem s_apz (hi : Inv I ρ m nx w) (hr : RepS I ρ w sl a.tmps) {t tn : TypeId} {ty sz bytes : Nat} {zero : List AVal} {x y : Opd} {x' y' : Operand} (ho : o.op = .call { callee := .builtin .append, args := #[x', y'], argTypes := #[t, tn] }) (hx : okOpd x x' = true) (hy : okOpd y y' = true)
    (hok : okApz P t tn ty sz bytes zero = true) {b : Nat} {B : Blk} {q : Nat} (h1 : ev sl x = .vec b) (h2 : ev sl y = .int .i64 q) (hB : mg m b = some B) (hty : B.ty = ty) (hsz : B.sz = sz) (hbytes : (B.es.length + q) * bytes ≤ 140737488355328) :
    OpGives P o a w (SRes I ρ m w (.vec nx) ((nx, ⟨ty, sz, B.es ++ List.replicate q zero⟩) :: md m b) (nx + 1)) := by
  simp only [okApz, okApp, Bool.and_eq_true, beq_iff_eq, decide_eq_true_eq] at hok
  obtain ⟨⟨⟨⟨⟨⟨⟨k1, k2⟩, k3⟩, k4⟩, k5⟩, k6⟩, k7⟩, k8⟩ := hok
  have k9 : P.underlying tn = some (.int .i64) := by
    split at k8
    · assumption
    · cases k8
  obtain ⟨r, g1, g2⟩ := eval_vec hr hx h1
  have e1 := eval_int hr hy h2
  have hbr := hi.get hB g1
  obtain ⟨vals, ho1, ho2⟩ := hbr.row
  subst hty hsz
  obtain ⟨v', w', news, r1, r2, r3, r4, r5, r6⟩ := apz_run (P := P) (ty := o.type) k1 k9 k2 k3 k4 k5 k6 k7 (hdr := r.hdr) ho1 (q := q) (by rw [hbr.len]; exact hbytes)
  obtain ⟨r', q1, q2, q3, q4, q5, _⟩ := own_form r2
  have hsame : ∀ k, k < w.heap.size → some k ≠ r.blk → w'.heap[k]? = w.heap[k]? := fun k hk hne => r3.block k hk (by rw [hdr_block]; exact hne)
  have hnI : ∀ k, r.blk = some k → ¬ I k := hbr.out
  have hIs : ∀ k, I k → w'.heap[k]? = w.heap[k]? := fun k hk => hsame k (hi.dom k hk) (fun e => hnI k e.symm hk)
  have hk : ∀ k, r'.blk = some k → w.heap.size ≤ k ∨ r.blk = some k := by
    intro k hk
    rw [← q5] at hk
    rcases r4 with h | h
    · rw [h, hdr_block] at hk; exact .inr hk
    · rw [h] at hk; exact .inl (by have := Option.some.inj hk; omega)
  obtain ⟨i, z, hzi, hzz, hzs, hone, hrep⟩ := zeroB_spec k4
  have les : ∀ e ∈ List.replicate q zero, e.length = B.sz := fun e he => by rw [List.eq_of_mem_replicate he, k5]
  have cel : ∀ e ∈ List.replicate q zero, ∀ z ∈ e, z.isCell = true := fun e he z hz => by rw [List.eq_of_mem_replicate he] at hz; exact hone z hz
  have hB' : BlkRep I (upd ρ nx r') w' r' ⟨B.ty, B.sz, B.es ++ List.replicate q zero⟩ := by
    refine ⟨by rw [q2, hbr.len]; simp, q3, q4, k6, fun e he => ?_, fun e he => ?_, fun k hk' hI => ?_, vals ++ news, ?_, ?_⟩
    · rcases List.mem_append.1 he with h | h
      · exact hbr.sizes e h
      · exact les e h
    · rcases List.mem_append.1 he with h | h
      · exact hbr.cells e h
      · exact cel e h
    · rcases hk k hk' with h | h
      · have := hi.dom k hI; omega
      · exact hnI k h hI
    · rw [q1, q2]; exact r2
    · exact flatten_append_get hbr.sizes (by rw [ho1.1, hbr.len]) (fun p z hz => (ho2 p z hz).mono (fun _ h => h) (upd_ext hi r') hIs) (fun p z hz => r6 I _ w' p z hz)
  obtain ⟨z1, z2⟩ := hi.swap hB g1 ⟨B.ty, B.sz, B.es ++ List.replicate q zero⟩ r' w' r3.os r3.tape r3.output r3.size hsame hB' hk
  refine .of_run (w' := w') (v := v') (by simp [execOp, ho, resolve, invoke, builtin, g2, e1, r1]) ⟨I, _, z1, z2, ?_⟩
  rw [← q1]
  exact .vec nx r' (upd_self r')
/-- append(nil, xs..): a new slice of the store. -/
theorem apn_run (hd : ∀ b, I b → b < w.heap.size) (hr : RepS I ρ w sl a.tmps) {t : TypeId} {ty sz bytes : Nat} {zero : List AVal} {y : Opd} {y' : Operand} (ho : o.op = .call { callee := .builtin .append, args := #[.const (.slice none 0 0), y'], argTypes := #[t, t] }) (hy : okOpd y y' = true)
    (hok : okApp P t ty sz bytes zero = true) {es : List (List AVal)} (h2 : ev sl y = .list sz es) (hbytes : es.length * bytes ≤ 140737488355328) :
    ∃ (r' : ORep) (w' : World), (execOp a.eval o).run P w = .ok (.value r'.hdr) w' ∧ w.grownBy w' none ∧ (∀ k, r'.blk = some k → w.heap.size ≤ k) ∧ (∀ ρ' : Nat → Option ORep, (∀ i s, ρ i = some s → ρ' i = some s) → BlkRep I ρ' w' r' ⟨ty, sz, es⟩) := by
  simp only [okApp, Bool.and_eq_true, beq_iff_eq, decide_eq_true_eq] at hok
  obtain ⟨⟨⟨⟨⟨⟨k1, k2⟩, k3⟩, k4⟩, k5⟩, k6⟩, k7⟩ := hok
  obtain ⟨A, c, e1, hrep⟩ := eval_list hr hy h2
  obtain ⟨v', w', news, r1, r2, r3, r4, r5, r6⟩ := app_run (P := P) (ty := o.type) k1 k2 k3 k4 k5 k6 k7 (hdr := .slice none 0 0) rfl w.heap.size (Nat.le_refl _) (World.ownsRow_nil w w.heap.size ty sz) hrep (by simpa using hbytes)
  obtain ⟨r', q1, q2, q3, q4, q5, q6⟩ := own_form r2
  have les : ∀ e ∈ es, e.length = sz := by cases hrep with | list _ _ _ _ _ _ h2 _ _ _ => exact h2
  have cel : ∀ e ∈ es, ∀ z ∈ e, z.isCell = true := by cases hrep with | list _ _ _ _ _ _ _ h3 _ _ => exact fun e he z hz => AVal.isCell_of_noRef (h3 e he z hz)
  have hIs : ∀ k, I k → w'.heap[k]? = w.heap[k]? := fun k hk => r3.block k (hd k hk) (by simp [Value.ownBlock])
  refine ⟨r', w', ?_, r3, q6, fun ρ' hρ => ⟨by rw [q2]; simp, q3, q4, k6, les, cel, fun k hk hI => ?_, news, ?_, fun p z hz => (r6 p z hz).mono (fun _ h => h) hρ hIs⟩⟩
  · have : a.eval (.const (.slice none 0 0)) = .slice none 0 0 := rfl
    simp [execOp, ho, resolve, invoke, builtin, this, e1, r1, q1]
  · have := hd k hI
    have := q6 k hk
    omega
  · rw [q1, q2]
    have := r2
    simp only [List.nil_append] at this
    refine ⟨this.1, ?_⟩
    rcases this.2 with h | ⟨g, cap, cur, h⟩
    · exact .inl h
    · exact .inr ⟨g, cap, cur, h.1, Nat.zero_le _, h.2.2⟩
theorem s_apn (hi : Inv I ρ m nx w) (hr : RepS I ρ w sl a.tmps) {t : TypeId} {ty sz bytes : Nat} {zero : List AVal} {y : Opd} {y' : Operand} (ho : o.op = .call { callee := .builtin .append, args := #[.const (.slice none 0 0), y'], argTypes := #[t, t] }) (hy : okOpd y y' = true)
    (hok : okApp P t ty sz bytes zero = true) {es : List (List AVal)} (h2 : ev sl y = .list sz es) (hbytes : es.length * bytes ≤ 140737488355328) :
    OpGives P o a w (SRes I ρ m w (.vec nx) ((nx, ⟨ty, sz, es⟩) :: m) (nx + 1)) := by
  obtain ⟨r', w', h3, h4, h5, h6⟩ := apn_run (P := P) hi.dom hr ho hy hok h2 hbytes
  obtain ⟨z1, z2⟩ := hi.add ⟨ty, sz, es⟩ r' w' h4.os h4.tape h4.output h4.size (fun b hb => h4.block b hb (by simp)) (h6 _ (upd_ext hi r')) h5
  exact .of_run (w' := w') (v := r'.hdr) h3 ⟨I, _, z1, z2, .vec nx r' (upd_self r')⟩
/-- A block that is read from now on. -/
theorem BlkRep.frz {J : Nat → Prop} {ρ' : Nat → Option ORep} {r : ORep} {ty sz : Nat} {es : List (List AVal)} (h : BlkRep I ρ w r ⟨ty, sz, es⟩) (hn : noRefE es = true) (hJ : ∀ k, r.blk = some k → J k) (hI : ∀ b, I b → J b) : RepV J ρ' w (.list sz es) r.hdr := by
  have hlen : r.len = es.length := h.len
  have hcap : r.len ≤ r.cap := by
    obtain ⟨vals, ho, _⟩ := h.row
    exact owns_le ho rfl
  simp only [noRefE, List.all_eq_true] at hn
  unfold ORep.hdr
  rw [hlen] at hcap ⊢
  by_cases hes : es = []
  · subst hes
    exact .list sz [] _ _ (fun _ _ => undef) hcap (by simp) (by simp) (by simp) (by simp)
  · obtain ⟨k, cur, f1, f2, f3, f4, _⟩ := h.at_ hes
    simp only at f3 f4
    refine .list sz es _ _ (fun i j => cur.getD (i * sz + j) undef) hcap h.sizes hn (fun _ => ⟨⟨k, 0, none⟩, by simp [f1], rfl, hJ k f1, fun i j hi hj => ?_⟩) (fun i j e x he hx => ?_)
    · have : (i + 1) * sz ≤ es.length * sz := Nat.mul_le_mul_right _ hi
      rw [Nat.add_mul] at this
      have hlt : i * sz + j < cur.size := by omega
      rw [Nat.zero_add, cell_of_row w k _ cur ty (0, 0) f2]
      simp [hlt]
    · have hl : e.length = sz := h.sizes e (List.mem_of_getElem? he)
      have hj : j < sz := by have := (List.getElem?_eq_some_iff.1 hx).1; omega
      have := f4 (i * sz + j) x (by rw [flat_get sz es h.sizes i j hj, he]; exact hx)
      exact (this.free (hn e (List.mem_of_getElem? he) x (List.mem_of_getElem? hx))).mono hI (fun _ _ h => h) (fun _ _ => rfl)
/-- A block of the store is read from now on: the store without it. -/
theorem Inv.drop (hi : Inv I ρ m nx w) {b : Nat} {B : Blk} {r : ORep} (hB : mg m b = some B) (hr : ρ b = some r) :
    Inv (fun k => I k ∨ r.blk = some k) ρ (md m b) nx w ∧ Evol I ρ m w (fun k => I k ∨ r.blk = some k) ρ (md m b) w := by
  have e2 := hi.get hB hr
  refine ⟨⟨fun k hk => ?_, hi.fresh, fun id C hC => ?_, fun i j C D u v k h1 h2 => ?_⟩, ⟨fun k h => .inl h, fun k hk => ?_, fun _ _ h => h, fun k ⟨id, C, u, h1, h2, h3⟩ => .inl ?_, rfl, rfl, rfl, Nat.le_refl _, fun _ _ _ => rfl⟩⟩
  · rcases hk with hk | hk
    · exact hi.dom k hk
    · exact e2.lt hk
  · simp only [mg_md] at hC
    split at hC
    · cases hC
    · rename_i hne
      obtain ⟨u, f1, f2⟩ := hi.blk id C hC
      refine ⟨u, f1, f2.mono (fun _ h => .inl h) (fun _ _ h => h) (fun _ _ => rfl) (fun k hk => ⟨fun hk' => ?_, rfl⟩)⟩
      rcases hk' with hk' | hk'
      · exact f2.out k hk hk'
      · exact hne (hi.inj id b C B u r k hC hB f1 hr hk hk')
  · simp only [mg_md] at h1 h2
    split at h1
    · cases h1
    · split at h2
      · cases h2
      · exact hi.inj i j C D u v k h1 h2
  · rcases hk with hk | hk
    · exact .inl hk
    · exact .inr (.inl ⟨b, B, r, hB, hr, hk⟩)
  · simp only [mg_md] at h1
    split at h1
    · cases h1
    · exact ⟨id, C, u, h1, h2, h3⟩
theorem md_cons_self (m : List (Nat × Blk)) (n : Nat) (B : Blk) : md ((n, B) :: m) n = md m n := by simp [md]
/-- The same store: what it has under each number is what counts. -/
theorem Inv.congr {m' : List (Nat × Blk)} (hi : Inv I ρ m nx w) (h : ∀ i, mg m' i = mg m i) : Inv I ρ m' nx w :=
  ⟨hi.dom, hi.fresh, fun id B hB => hi.blk id B (by rw [← h]; exact hB), fun i j B C r s k h1 h2 => hi.inj i j B C r s k (by rw [← h]; exact h1) (by rw [← h]; exact h2)⟩
theorem Evol.congr {I' : Nat → Prop} {ρ' : Nat → Option ORep} {m1 m2 : List (Nat × Blk)} {w' : World} (he : Evol I ρ m w I' ρ' m1 w') (h : ∀ i, mg m2 i = mg m1 i) : Evol I ρ m w I' ρ' m2 w' :=
  ⟨he.sub, he.new, he.ext, fun b ⟨id, B, r, h1, h2, h3⟩ => he.own b ⟨id, B, r, by rw [← h]; exact h1, h2, h3⟩, he.os, he.tape, he.output, he.size, he.same⟩
theorem s_appz (hi : Inv I ρ m nx w) (hr : RepS I ρ w sl a.tmps) {t : TypeId} {ty sz bytes : Nat} {zero : List AVal} {x y : Opd} {x' y' : Operand} (ho : o.op = .call { callee := .builtin .append, args := #[x', y'], argTypes := #[t, t] }) (hx : okOpd x x' = true) (hy : okOpd y y' = true)
    (hok : okApp P t ty sz bytes zero = true) {b : Nat} {B : Blk} {es : List (List AVal)} (h1 : ev sl x = .vec b) (h2 : ev sl y = .list sz es) (hB : mg m b = some B) (hty : B.ty = ty) (hsz : B.sz = sz) (hbytes : (B.es.length + es.length) * bytes ≤ 140737488355328) (hn : noRefE B.es = true) :
    OpGives P o a w (SRes I ρ m w (.list sz (B.es ++ es)) (md m b) (nx + 1)) := by
  have hn2 : noRefE es = true := by
    obtain ⟨A, c, _, hrep⟩ := eval_list hr hy h2
    cases hrep with
    | list _ _ _ _ _ _ _ h3 _ _ => simp only [noRefE, List.all_eq_true]; exact h3
  refine (s_app hi hr ho hx hy hok h1 h2 hB hty hsz hbytes).mono (fun v w' ⟨I', ρ', q1, q2, q3⟩ => ?_)
  cases q3 with
  | vec _ r hr' =>
    have hBn : mg ((nx, ⟨ty, sz, B.es ++ es⟩) :: md m b) nx = some ⟨ty, sz, B.es ++ es⟩ := by simp [mg]
    have hbr := q1.get hBn hr'
    obtain ⟨z1, z2⟩ := q1.drop hBn hr'
    have hnx : mg m nx = none := by
      cases h : mg m nx with
      | none => rfl
      | some C => have := hi.lt_nx h; omega
    have hcong : ∀ i, mg (md m b) i = mg (md ((nx, ⟨ty, sz, B.es ++ es⟩) :: md m b) nx) i := by
      intro i
      simp only [md_cons_self, mg_md]
      split
      · split <;> rfl
      · split
        · rename_i e; rw [e, hnx]
        · rfl
    refine ⟨_, ρ', z1.congr hcong, (q2.trans z2).congr hcong, hbr.frz ?_ (fun k hk => .inr hk) (fun k hk => .inl hk)⟩
    simp only [noRefE, List.all_append, Bool.and_eq_true] at hn hn2 ⊢
    exact ⟨hn, hn2⟩
theorem p_apf (hd : ∀ b, I b → b < w.heap.size) (hr : RepS I ρ w sl a.tmps) {t : TypeId} {ty sz bytes : Nat} {zero : List AVal} {y : Opd} {y' : Operand} (ho : o.op = .call { callee := .builtin .append, args := #[.const (.slice none 0 0), y'], argTypes := #[t, t] }) (hy : okOpd y y' = true)
    (hok : okApp P t ty sz bytes zero = true) {es : List (List AVal)} (h2 : ev sl y = .list sz es) (hbytes : es.length * bytes ≤ 140737488355328) : OpGives P o a w (PRes I ρ w (.list sz es)) := by
  obtain ⟨r', w', h3, h4, h5, h6⟩ := apn_run (P := P) hd hr ho hy hok h2 hbytes
  have hn : noRefE es = true := by
    obtain ⟨A, c, _, hrep⟩ := eval_list hr hy h2
    cases hrep with
    | list _ _ _ _ _ _ _ h3 _ _ => simp only [noRefE, List.all_eq_true]; exact h3
  have hb := h6 ρ (fun _ _ h => h)
  refine .of_run (w' := w') (v := r'.hdr) h3 ⟨fun b => I b ∨ r'.blk = some b, ⟨fun b h => .inl h, fun b h => h.imp id (fun h => h5 b h), fun b h => ?_, h4.os, h4.tape, h4.output, h4.size, fun b hb => h4.block b hb (by simp)⟩, hb.frz hn (fun k hk => .inr hk) (fun b h => .inl h)⟩
  rcases h with h | h
  · exact Nat.lt_of_lt_of_le (hd b h) h4.size
  · exact hb.lt h

/-! ### Calls -/
def CompR (I' : Nat → Prop) (w w' : World) (rep : ORep) (x : AVal) (v : Value) : Prop :=
  match x with
  | .own ty sz es => v = rep.hdr ∧ BlkRep I' (fun _ => none) w' rep ⟨ty, sz, es⟩ ∧ noRefE es = true ∧ ∀ k, rep.blk = some k → w.heap.size ≤ k
  | x => x.argOk = true ∧ RepV I' (fun _ => none) w' x v
def AVal.isOwn : AVal → Bool
  | .own .. => true
  | _ => false
def RetOK (I : Nat → Prop) (w : World) (r : AVal) (v : Value) (w' : World) : Prop :=
  ∃ (I' : Nat → Prop) (reps : Nat → ORep), PEv I w I' w' ∧ match r with
    | .tup rs => ∃ vs : Array Value, v = .tuple vs ∧ vs.size = rs.length ∧ (∀ (j : Nat) x, rs[j]? = some x → CompR I' w w' (reps j) x (vs.getD j undef)) ∧
        (∀ (i j : Nat) x y k, i ≠ j → rs[i]? = some x → rs[j]? = some y → x.isOwn = true → y.isOwn = true → (reps i).blk = some k → (reps j).blk ≠ some k)
    | x => CompR I' w w' (reps 0) x v
/-- What a function does, whatever memory. -/
def PureSpec (P : Program) (f : Nat) (args : List AVal) (r : AVal) : Prop :=
  ∀ (I : Nat → Prop) (w : World) (vs : Array Value), (∀ b, I b → b < w.heap.size) → vs.size = args.length → (∀ (j : Nat) x, args[j]? = some x → RepV I (fun _ => none) w x (vs.getD j undef)) →
    Calls P f vs w (fun e w' => ∃ v, e = .returned v ∧ RetOK I w r v w')
def RefSpec (P : Program) (f : Nat) (args : List AVal) (m : List (Nat × Blk)) (nx : Nat) (r : AVal) (m' : List (Nat × Blk)) (nx' : Nat) : Prop :=
  ∀ (I : Nat → Prop) (ρ : Nat → Option ORep) (w : World) (vs : Array Value), Inv I ρ m nx w → vs.size = args.length → (∀ (j : Nat) x, args[j]? = some x → RepV I ρ w x (vs.getD j undef)) →
    Calls P f vs w (fun e w' => ∃ v, e = .returned v ∧ SRes I ρ m w r m' nx' v w')
def callB (P : Program) (f : Nat) : Bool := match P.funcs[f]? with | some fn => fn.name != "runtime.NumGoroutine" && fn.body.isSome | none => false
def okOpds : List Opd → List Operand → Bool
  | [], [] => true
  | x :: xs, y :: ys => okOpd x y && okOpds xs ys
  | _, _ => false
theorem okOpds_rep (hr : RepS I ρ w sl a.tmps) : ∀ (xs : List Opd) (ys : List Operand), okOpds xs ys = true → (ys.map a.eval).length = (xs.map (ev sl)).length ∧ ∀ (j : Nat) z, (xs.map (ev sl))[j]? = some z → RepV I ρ w z ((ys.map a.eval).getD j undef)
  | [], [], _ => ⟨rfl, by simp⟩
  | [], _ :: _, h => by simp [okOpds] at h
  | _ :: _, [], h => by simp [okOpds] at h
  | x :: xs, y :: ys, h => by
    simp only [okOpds, Bool.and_eq_true] at h
    obtain ⟨h1, h2⟩ := okOpds_rep hr xs ys h.2
    refine ⟨by simpa using h1, fun j z hz => ?_⟩
    cases j with
    | zero => simp at hz; subst hz; simpa using okOpd_sound hr h.1
    | succ j => simp at hz; simpa using h2 j z (by simpa using hz)
theorem call_run {f : Nat} {ys : Array Operand} {ts : Array TypeId} (ho : o.op = .call { callee := .value (.func f), args := ys, argTypes := ts }) (hf : callB P f = true) : (execOp a.eval o).run P w = .ok (.enter f (ys.map a.eval)) w := by
  unfold callB at hf
  cases hp : P.funcs[f]? with
  | none => simp [hp] at hf
  | some fn =>
    simp only [hp, Bool.and_eq_true, bne_iff_ne, ne_eq] at hf
    have h2 : ¬ fn.body = none := by intro e; rw [e] at hf; simp at hf
    have e1 : a.eval (.func f) = .func (.func f) #[] #[] := rfl
    simp [execOp, ho, resolve, e1, Deferred.ofValue, invoke, callFunc, hp, hf.1, h2]
theorem CompR.frz {I' J : Nat → Prop} {w' : World} {rep : ORep} {x : AVal} {v : Value} (h : CompR I' w w' rep x v) (hJ : x.isOwn = true → ∀ k, rep.blk = some k → J k) (hI : ∀ b, I' b → J b) : RepV J ρ w' x.frz1 v := by
  cases x with
  | own ty sz es =>
    obtain ⟨rfl, h1, h2, _⟩ := h
    exact h1.frz h2 (hJ rfl) hI
  | _ => exact (h.2.arg h.1).mono hI (fun _ _ h => h) (fun _ _ => rfl)
theorem RetOK.frz {r : AVal} {v : Value} {w' : World} (h : RetOK I w r v w') : PRes I ρ w r.frz v w' := by
  obtain ⟨I', reps, h1, h2⟩ := h
  have key : ∀ (J : Nat → Prop), (∀ b, J b → w.heap.size ≤ b ∧ b < w'.heap.size) → PEv I w (fun b => I' b ∨ J b) w' := fun J hJ =>
    ⟨fun b hb => .inl (h1.sub b hb), fun b hb => by rcases hb with hb | hb; exact h1.new b hb; exact .inr (hJ b hb).1, fun b hb => by rcases hb with hb | hb; exact h1.dom b hb; exact (hJ b hb).2, h1.os, h1.tape, h1.output, h1.size, h1.same⟩
  have own_facts : ∀ rep x v, CompR I' w w' rep x v → x.isOwn = true → ∀ k, rep.blk = some k → w.heap.size ≤ k ∧ k < w'.heap.size := by
    intro rep x v hc ho k hk
    cases x <;> simp only [AVal.isOwn, Bool.false_eq_true] at ho
    obtain ⟨_, h3, _, h4⟩ := hc
    exact ⟨h4 k hk, h3.lt hk⟩
  cases r with
  | tup rs =>
    obtain ⟨vs, rfl, e1, e2, _⟩ := h2
    refine ⟨_, key (fun b => ∃ (j : Nat) (x : AVal), rs[j]? = some x ∧ x.isOwn = true ∧ (reps j).blk = some b) (fun b ⟨j, x, hx, ho, hb⟩ => own_facts _ _ _ (e2 j x hx) ho b hb), .tup _ vs (by simpa using e1) (fun j x hx => ?_)⟩
    rw [List.getElem?_map, Option.map_eq_some_iff] at hx
    obtain ⟨y, hy, rfl⟩ := hx
    exact (e2 j y hy).frz (fun ho k hk => .inr ⟨j, y, hy, ho, hk⟩) (fun b hb => .inl hb)
  | _ =>
    refine ⟨_, key (fun b => AVal.isOwn _ = true ∧ (reps 0).blk = some b) (fun b ⟨ho, hb⟩ => own_facts _ _ _ h2 ho b hb), CompR.frz h2 (fun ho k hk => .inr ⟨ho, hk⟩) (fun b hb => .inl hb)⟩
theorem p_calp (hd : ∀ b, I b → b < w.heap.size) (hr : RepS I ρ w sl a.tmps) {f : Nat} {xs : List Opd} {ys : Array Operand} {ts : Array TypeId} (ho : o.op = .call { callee := .value (.func f), args := ys, argTypes := ts }) (hf : callB P f = true) (hx : okOpds xs ys.toList = true)
    {r : AVal} (harg : (xs.map (ev sl)).all AVal.argOk = true) (hs : PureSpec P f (xs.map (ev sl)) r) : OpGives P o a w (PRes I ρ w r.frz) := by
  obtain ⟨h1, h2⟩ := okOpds_rep hr xs ys.toList hx
  unfold OpGives
  rw [call_run ho hf]
  refine (hs I w (ys.map a.eval) hd (by simpa using h1) (fun j x hx' => ?_)).mono (fun e w' ⟨v, he, hv⟩ => ⟨v, he, hv.frz⟩)
  have h3 := h2 j x hx'
  simp only [List.all_eq_true] at harg
  have h4 := h3.arg (ρ' := fun _ => none) (harg x (List.mem_of_getElem? hx'))
  simpa using h4
/-- A block that a call left is taken into the store. -/
theorem Inv.adopt (hi : Inv I ρ m nx w) {r : ORep} {B : Blk} (hB : BlkRep I ρ w r B) (hk : ∀ k, r.blk = some k → ¬ Owned ρ m k) :
    Inv I (upd ρ nx r) ((nx, B) :: m) (nx + 1) w ∧ ∀ b, Owned (upd ρ nx r) ((nx, B) :: m) b → Owned ρ m b ∨ r.blk = some b := by
  have up : ∀ i C, mg m i = some C → ∃ s, ρ i = some s ∧ upd ρ nx r i = some s ∧ BlkRep I ρ w s C := fun i C hC => by
    obtain ⟨s, e1, e2⟩ := hi.blk i C hC
    exact ⟨s, e1, upd_ext hi r _ _ e1, e2⟩
  have mono : ∀ s C, BlkRep I ρ w s C → BlkRep I (upd ρ nx r) w s C := fun s C h => h.mono (fun _ h => h) (upd_ext hi r) (fun _ _ => rfl) (fun k hk => ⟨h.out k hk, rfl⟩)
  refine ⟨⟨hi.dom, fun id hid => ?_, fun id C hC => ?_, fun i j C D s t k hC hD hs ht h1 h2 => ?_⟩, fun b hb => ?_⟩
  · unfold upd
    rw [if_neg (by omega)]
    exact hi.fresh id (by omega)
  · simp only [mg] at hC
    split at hC
    · rename_i e; subst e; cases hC; exact ⟨r, upd_self r, mono _ _ hB⟩
    · obtain ⟨s, _, e2, e3⟩ := up id C hC
      exact ⟨s, e2, mono _ _ e3⟩
  · simp only [mg] at hC hD
    split at hC <;> split at hD
    · omega
    · rename_i e _
      subst e
      rw [upd_self] at hs
      cases hs
      obtain ⟨t', e1, e2, _⟩ := up j D hD
      rw [e2] at ht
      cases ht
      exact absurd ⟨j, D, _, hD, e1, h2⟩ (hk k h1)
    · rename_i _ e
      subst e
      rw [upd_self] at ht
      cases ht
      obtain ⟨s', e1, e2, _⟩ := up i C hC
      rw [e2] at hs
      cases hs
      exact absurd ⟨i, C, _, hC, e1, h1⟩ (hk k h2)
    · obtain ⟨s', e1, e2, _⟩ := up i C hC
      obtain ⟨t', e3, e4, _⟩ := up j D hD
      rw [e2] at hs
      rw [e4] at ht
      cases hs
      cases ht
      exact hi.inj i j C D _ _ k hC hD e1 e3 h1 h2
  · obtain ⟨id, C, s, h1, h2, h3⟩ := hb
    simp only [mg] at h1
    split at h1
    · rename_i e
      subst e
      rw [upd_self] at h2
      cases h2
      exact .inr h3
    · obtain ⟨s', e1, e2, _⟩ := up id C h1
      rw [e2] at h2
      cases h2
      exact .inl ⟨id, C, _, h1, e1, h3⟩
theorem Inv.more (hi : Inv I ρ m nx w) : Inv I ρ m (nx + 1) w := ⟨hi.dom, fun id h => hi.fresh id (by omega), hi.blk, hi.inj⟩
/-- One result of a call. -/
theorem imp_one (hi : Inv I ρ m nx w) {w0 : World} {rep : ORep} {x : AVal} {v : Value} (hc : CompR I w0 w rep x v) (hk : x.isOwn = true → ∀ k, rep.blk = some k → ¬ Owned ρ m k) :
    ∃ ρ', (∀ i s, ρ i = some s → ρ' i = some s) ∧ Inv I ρ' (imp1 m nx x).2 (nx + 1) w ∧ RepV I ρ' w (imp1 m nx x).1 v ∧ ∀ b, Owned ρ' (imp1 m nx x).2 b → Owned ρ m b ∨ (x.isOwn = true ∧ rep.blk = some b) := by
  cases x with
  | own ty sz es =>
    obtain ⟨rfl, h1, h2, _⟩ := hc
    have hb : BlkRep I ρ w rep ⟨ty, sz, es⟩ := h1.mono (fun _ h => h) (fun _ _ h => by cases h) (fun _ _ => rfl) (fun k hk => ⟨h1.out k hk, rfl⟩)
    obtain ⟨z1, z2⟩ := hi.adopt hb (hk rfl)
    exact ⟨_, upd_ext hi rep, z1, .vec nx rep (upd_self rep), fun b hb => (z2 b hb).imp id (fun h => ⟨rfl, h⟩)⟩
  | _ => exact ⟨ρ, fun _ _ h => h, hi.more, hc.2.arg hc.1, fun b hb => .inl hb⟩
theorem imp_list {w0 : World} {I : Nat → Prop} {w : World} : ∀ (rs : List AVal) (vs : List Value) (reps : Nat → ORep) (ρ : Nat → Option ORep) (m : List (Nat × Blk)) (nx : Nat), Inv I ρ m nx w → vs.length = rs.length →
    (∀ (j : Nat) x, rs[j]? = some x → CompR I w0 w (reps j) x (vs.getD j undef)) → (∀ (j : Nat) x, rs[j]? = some x → x.isOwn = true → ∀ k, (reps j).blk = some k → ¬ Owned ρ m k) →
    (∀ (i j : Nat) x y k, i ≠ j → rs[i]? = some x → rs[j]? = some y → x.isOwn = true → y.isOwn = true → (reps i).blk = some k → (reps j).blk ≠ some k) →
    ∃ ρ', (∀ i s, ρ i = some s → ρ' i = some s) ∧ Inv I ρ' (impL m nx rs).2 (nx + rs.length) w ∧ (∀ (j : Nat) x, (impL m nx rs).1[j]? = some x → RepV I ρ' w x (vs.getD j undef)) ∧ (impL m nx rs).1.length = rs.length ∧
      ∀ b, Owned ρ' (impL m nx rs).2 b → Owned ρ m b ∨ ∃ (j : Nat) (x : AVal), rs[j]? = some x ∧ x.isOwn = true ∧ (reps j).blk = some b
  | [], vs, reps, ρ, m, nx, hi, _, _, _, _ => ⟨ρ, fun _ _ h => h, hi, by simp [impL], rfl, fun b h => .inl h⟩
  | r :: rs, [], reps, ρ, m, nx, hi, hl, _, _, _ => by simp at hl
  | r :: rs, v :: vs, reps, ρ, m, nx, hi, hl, hc, hk, hne => by
    obtain ⟨ρ1, a1, a2, a3, a4⟩ := imp_one hi (hc 0 r rfl) (hk 0 r rfl)
    obtain ⟨ρ2, b1, b2, b3, b4, b5⟩ := imp_list rs vs (fun j => reps (j + 1)) ρ1 _ (nx + 1) a2 (by simpa using hl) (fun j x hx => by simpa using hc (j + 1) x hx)
      (fun j x hx ho k hk' hO => by
        rcases a4 k hO with h | ⟨h1, h2⟩
        · exact hk (j + 1) x hx ho k hk' h
        · exact hne 0 (j + 1) r x k (by omega) rfl hx h1 ho h2 hk')
      (fun i j x y k hij hx hy h1 h2 h3 => hne (i + 1) (j + 1) x y k (by omega) hx hy h1 h2 h3)
    refine ⟨ρ2, fun i s h => b1 i s (a1 i s h), by simp only [impL, List.length_cons]; rw [show nx + (rs.length + 1) = nx + 1 + rs.length by omega]; exact b2, fun j x hx => ?_, by simp [impL, b4], fun b hb => ?_⟩
    · cases j with
      | zero => simp [impL] at hx; subst hx; exact (a3.mono (fun _ h => h) b1 (fun _ _ => rfl))
      | succ j => simp [impL] at hx; simpa using b3 j x hx
    · rcases b5 b hb with h | ⟨j, x, h1, h2, h3⟩
      · rcases a4 b h with h | ⟨h1, h2⟩
        · exact .inl h
        · exact .inr ⟨0, r, rfl, h1, h2⟩
      · exact .inr ⟨j + 1, x, h1, h2, h3⟩
theorem RetOK.imp {r : AVal} {v : Value} {w' : World} (hi : Inv I ρ m nx w) (h : RetOK I w r v w') : SRes I ρ m w (r.imp m nx).1 (r.imp m nx).2.1 (r.imp m nx).2.2 v w' := by
  obtain ⟨I', reps, h1, h2⟩ := h
  have hi' := h1.inv hi
  have own_lt : ∀ k, Owned ρ m k → k < w.heap.size := by
    intro k ⟨id, B, s, e1, e2, e3⟩
    exact (hi.get e1 e2).lt e3
  have ge : ∀ rep x v, CompR I' w w' rep x v → x.isOwn = true → ∀ k, rep.blk = some k → w.heap.size ≤ k := by
    intro rep x v hc ho k hk
    cases x <;> simp only [AVal.isOwn, Bool.false_eq_true] at ho
    exact hc.2.2.2 k hk
  have fin : ∀ (ρ' : Nat → Option ORep) (m' : List (Nat × Blk)) (nx' : Nat) (z : AVal), (∀ i s, ρ i = some s → ρ' i = some s) → Inv I' ρ' m' nx' w' → RepV I' ρ' w' z v → (∀ b, Owned ρ' m' b → Owned ρ m b ∨ w.heap.size ≤ b) → SRes I ρ m w z m' nx' v w' :=
    fun ρ' m' nx' z q1 q2 q3 q4 => ⟨I', ρ', q2, ⟨h1.sub, fun b hb => (h1.new b hb).imp id .inr, q1, q4, h1.os, h1.tape, h1.output, h1.size, fun b hb _ => h1.same b hb⟩, q3⟩
  cases r with
  | tup rs =>
    obtain ⟨vs, rfl, e1, e2, e3⟩ := h2
    obtain ⟨ρ', b1, b2, b3, b4, b5⟩ := imp_list rs vs.toList reps ρ m nx hi' (by simpa using e1) (fun j x hx => by simpa using e2 j x hx)
      (fun j x hx ho k hk hO => by have := own_lt k hO; have := ge _ _ _ (e2 j x hx) ho k hk; omega) e3
    refine fin ρ' _ _ _ b1 b2 (.tup _ vs (by rw [b4]; exact e1) (fun j x hx => by simpa using b3 j x hx)) (fun b hb => ?_)
    rcases b5 b hb with h | ⟨j, x, q1, q2, q3⟩
    · exact .inl h
    · exact .inr (ge _ _ _ (e2 j x q1) q2 b q3)
  | _ =>
    obtain ⟨ρ', b1, b2, b3, b4⟩ := imp_one hi' h2 (fun ho k hk hO => by have := own_lt k hO; have := ge _ _ _ h2 ho k hk; omega)
    refine fin ρ' _ _ _ b1 b2 b3 (fun b hb => ?_)
    rcases b4 b hb with h | ⟨q1, q2⟩
    · exact .inl h
    · exact .inr (ge _ _ _ h2 q1 b q2)
theorem s_calf (hi : Inv I ρ m nx w) (hr : RepS I ρ w sl a.tmps) {f : Nat} {xs : List Opd} {ys : Array Operand} {ts : Array TypeId} (ho : o.op = .call { callee := .value (.func f), args := ys, argTypes := ts }) (hf : callB P f = true) (hx : okOpds xs ys.toList = true)
    {r : AVal} (harg : (xs.map (ev sl)).all AVal.argOk = true) (hs : PureSpec P f (xs.map (ev sl)) r) : OpGives P o a w (SRes I ρ m w (r.imp m nx).1 (r.imp m nx).2.1 (r.imp m nx).2.2) := by
  obtain ⟨h1, h2⟩ := okOpds_rep hr xs ys.toList hx
  unfold OpGives
  rw [call_run ho hf]
  refine (hs I w (ys.map a.eval) hi.dom (by simpa using h1) (fun j x hx' => ?_)).mono (fun e w' ⟨v, he, hv⟩ => ⟨v, he, hv.imp hi⟩)
  have h3 := h2 j x hx'
  simp only [List.all_eq_true] at harg
  have h4 := h3.arg (ρ' := fun _ => none) (harg x (List.mem_of_getElem? hx'))
  simpa using h4
theorem s_calr (hi : Inv I ρ m nx w) (hr : RepS I ρ w sl a.tmps) {f : Nat} {xs : List Opd} {ys : Array Operand} {ts : Array TypeId} (ho : o.op = .call { callee := .value (.func f), args := ys, argTypes := ts }) (hf : callB P f = true) (hx : okOpds xs ys.toList = true)
    {r : AVal} {m' : List (Nat × Blk)} {nx' : Nat} (hs : RefSpec P f (xs.map (ev sl)) m nx r m' nx') : OpGives P o a w (SRes I ρ m w r m' nx') := by
  obtain ⟨h1, h2⟩ := okOpds_rep hr xs ys.toList hx
  unfold OpGives
  rw [call_run ho hf]
  refine hs I ρ w (ys.map a.eval) hi (by simpa using h1) (fun j x hx' => ?_)
  simpa using h2 j x hx'
end
end Go.Proofs.Ytnomicnfgdjdeaa.Ab
