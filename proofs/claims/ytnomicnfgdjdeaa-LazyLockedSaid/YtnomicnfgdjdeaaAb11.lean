/- The interpreter is right: what it says of a call is what the machine does, whatever memory, capacities and orders. Part of a layer that interprets Go code over values. No condition. -/
import Derived.Test.YtnomicnfgdjdeaaAb10
namespace Go.Proofs.Ytnomicnfgdjdeaa.Ab
open Go.RowKit

def okCode (P : Program) (nt : Nat) : ACode → Code → Bool
  | .ghost _ c, C => okCode P nt c C
  | .skip, .skip => true
  | .ops none l, .region _ ops false => okSeq P nt ops ops.toList l
  | .ops (some bef) l, .region _ ops true => okDraw P nt ops (l.zipIdx.map fun p => (p.2, p.1)) bef []
  | .opsx bef bad l, .region _ ops true => okDraw P nt ops (l.zipIdx.map fun p => (p.2, p.1)) bef bad
  | .seq a b, .seq A B => okCode P nt a A && okCode P nt b B
  | .cond c a b, .cond C A B => okOpd c C && okCode P nt a A && okCode P nt b B
  | .block i c, .block j C => i == j && okCode P nt c C
  | .loop c, .loop C => okCode P nt c C
  | .exit i, .exit j => i == j
  | .ret, .ret => true
  | _, _ => false
def okRes (P : Program) : List ARes → List ResultVar → Bool
  | [], [] => true
  | .t n :: l, .tmp m :: l' => n == m && okRes P l l'
  | .cell n agg k :: l, .cell m t :: l' => n == m && aggB P t == some agg && szB P t k && okRes P l l'
  | _, _ => false
def okFn (P : Program) (fn : AFn) (F : Func) : Bool :=
  F.ntmps == fn.nt && decide (fn.np ≤ fn.nt) && okRes P fn.res F.results.toList && (match F.body with | some C => okCode P fn.nt fn.body C | none => false)
/-- The interpreter's functions are the program's; what it takes of others is so. -/
structure EnvOk (P : Program) (Γ : Env) : Prop where
  mixed : P.follows .mixedOrders = true
  fn : ∀ f fn, Γ.fn f = some fn → ∃ F, P.funcs[f]? = some F ∧ okFn P fn F = true
  ext : ∀ f args r, Γ.fn f = none → Γ.ext f args = some r → PureSpec P f args r

def AExit.conv : AExit → Exit
  | .normal => .normal
  | .exit id => .exit id
  | .ret => .ret
section
variable {P : Program} {g : Org} {nt : Nat} {df : List Deferred}
/-! ### Ghosts -/
theorem lk_keep (sl : List (Nat × AVal)) (t : Nat) : ∀ (l : List Nat), lk (l.map fun t => (t, lk sl t)) t = lk sl t ∨ lk (l.map fun t => (t, lk sl t)) t = .any
  | [] => .inr rfl
  | i :: l => by
    simp only [List.map_cons, lk]
    split
    · rename_i h; subst h; exact .inl rfl
    · exact lk_keep sl t l
theorem ixOf_spec : ∀ (ids : List Nat) (b i : Nat), ixOf ids b = some i → ids[i]? = some b
  | [], _, _, h => by simp [ixOf] at h
  | c :: l, b, i, h => by
    simp only [ixOf] at h
    split at h
    · rename_i e; simp at h; subst h; subst e; rfl
    · rw [Option.map_eq_some_iff] at h
      obtain ⟨k, hk, rfl⟩ := h
      simpa using ixOf_spec l b k hk
theorem refsOf_spec {sl : List (Nat × AVal)} : ∀ (refs ids : List Nat), refsOf sl refs = some ids → ids.Nodup
  | [], ids, h => by simp [refsOf] at h; subst h; exact List.nodup_nil
  | t :: l, ids, h => by
    simp only [refsOf] at h
    split at h
    · rename_i b r h1 h2
      split at h
      · cases h
      · rename_i hn
        simp only [Option.some.injEq] at h
        subst h
        exact List.nodup_cons.2 ⟨fun hm => hn (List.contains_iff_mem.2 hm), refsOf_spec l r h2⟩
    · cases h
theorem blksOf_spec {m : List (Nat × Blk)} : ∀ (ids : List Nat) (k : Nat) (m' : List (Nat × Blk)), blksOf m k ids = some m' → ∀ i B, mg m' i = some B → ∃ b, k ≤ i ∧ ids[i - k]? = some b ∧ mg m b = some B ∧ noRefE B.es = true
  | [], k, m', h => by simp [blksOf] at h; subst h; intro i B hB; simp [mg] at hB
  | b :: l, k, m', h => by
    simp only [blksOf] at h
    split at h
    · rename_i B r h1 h2
      split at h
      · rename_i hn
        simp only [Option.some.injEq] at h
        subst h
        intro i C hC
        simp only [mg] at hC
        split at hC
        · rename_i e
          subst e
          cases hC
          exact ⟨b, Nat.le_refl _, by simp, h1, hn⟩
        · obtain ⟨c, q1, q2, q3, q4⟩ := blksOf_spec l (k + 1) r h2 i C hC
          refine ⟨c, by omega, ?_, q3, q4⟩
          rw [show i - k = (i - (k + 1)) + 1 by omega]
          simpa using q2
      · cases h
    · cases h
theorem BlkRep.freeρ {I : Nat → Prop} {ρ ρ' : Nat → Option ORep} {w : World} {r : ORep} {B : Blk} (h : BlkRep I ρ w r B) (hn : noRefE B.es = true) : BlkRep I ρ' w r B := by
  obtain ⟨vals, h1, h2⟩ := h.row
  refine ⟨h.len, h.sz, h.ty, h.pos, h.sizes, h.cells, h.out, vals, h1, fun p x hx => (h2 p x hx).free ?_⟩
  simp only [noRefE, List.all_eq_true] at hn
  obtain ⟨e, he, hxe⟩ := List.mem_flatten.1 (List.mem_of_getElem? hx)
  exact hn e he x hxe
theorem lk_map (sl : List (Nat × AVal)) (f : AVal → AVal) (t : Nat) : ∀ (l : List Nat), lk (l.map fun t => (t, f (lk sl t))) t = f (lk sl t) ∨ lk (l.map fun t => (t, f (lk sl t))) t = .any
  | [] => .inr rfl
  | i :: l => by
    simp only [List.map_cons, lk]
    split
    · rename_i h; subst h; exact .inl rfl
    · exact lk_map sl f t l
theorem ghost_rel {gh : Ghost} {s s' : St} {a : Act} {w : World} (h : ghostS gh s = some s') (hr : Rel g nt df s a w) : Rel g nt df s' a w := by
  obtain ⟨I, ρ, r1, r2, r3, r4, r5, r6⟩ := hr
  cases gh with
  | renum slots refs =>
    simp only [ghostS] at h
    split at h
    · rename_i hp
      split at h
      · rename_i ids hids
        split at h
        · rename_i m hm
          simp only [Option.some.injEq] at h
          subst h
          have hnd := refsOf_spec refs ids hids
          have hsp : ∀ i B, mg m i = some B → ∃ b, ids[i]? = some b ∧ mg s.mem b = some B ∧ noRefE B.es = true := fun i B hB => by
            obtain ⟨b, _, q2, q3, q4⟩ := blksOf_spec ids 0 m hm i B hB
            exact ⟨b, by simpa using q2, q3, q4⟩
          let ρ' : Nat → Option ORep := fun i => (ids[i]?).bind ρ
          refine ⟨I, ρ', ⟨r1.dom, fun id hid => ?_, fun i B hB => ?_, fun i j B C u v k h1 h2 h3 h4 h5 h6 => ?_⟩, fun t => ?_, r3, r4, ⟨r5.sub, r5.new, fun id u hu => ?_, fun b ⟨i, B, u, h1, h2, h3⟩ => r5.own b ?_, r5.os, r5.tape, r5.output, r5.size, r5.same⟩, r6⟩
          · simp [ρ', List.getElem?_eq_none hid]
          · obtain ⟨b, q1, q2, q3⟩ := hsp i B hB
            obtain ⟨u, e1, e2⟩ := r1.blk b B q2
            exact ⟨u, by simp [ρ', q1, e1], e2.freeρ q3⟩
          · obtain ⟨b, q1, q2, _⟩ := hsp i B h1
            obtain ⟨c, p1, p2, _⟩ := hsp j C h2
            simp only [ρ', q1, p1, Option.bind_some] at h3 h4
            have hbc := r1.inj b c B C u v k q2 p2 h3 h4 h5 h6
            subst hbc
            have hi := (List.getElem?_eq_some_iff.1 q1).1
            have hj := (List.getElem?_eq_some_iff.1 p1).1
            exact (List.getElem_inj (h₀ := hi) (h₁ := hj) hnd).1 (by rw [(List.getElem?_eq_some_iff.1 q1).2, (List.getElem?_eq_some_iff.1 p1).2])
          · rcases lk_map s.sl (renV ids) t slots with h | h
            · rw [h]
              have hv := r2 t
              generalize lk s.sl t = x at hv ⊢
              cases x with
              | vec b =>
                simp only [renV]
                split
                · rename_i i hi
                  generalize a.tmps.getD t undef = z at hv
                  cases hv with
                  | vec _ u hu => exact .vec i u (by simp [ρ', ixOf_spec ids b i hi, hu])
                · exact .any _
              | ptr b e j =>
                simp only [renV]
                split
                · rename_i i hi
                  generalize a.tmps.getD t undef = z at hv
                  cases hv with
                  | ptr _ _ _ u k hu hk => exact .ptr i e j u k (by simp [ρ', ixOf_spec ids b i hi, hu]) hk
                · exact .any _
              | _ =>
                simp only [renV]
                split
                · rename_i ha; exact hv.arg ha
                · exact .any _
            · rw [h]; exact .any _
          · rw [r6 hp] at hu; cases hu
          · obtain ⟨c, p1, p2, _⟩ := hsp i B h1
            simp only [ρ', p1, Option.bind_some] at h2
            exact ⟨c, B, u, p2, h2, h3⟩
        · cases h
      · cases h
    · cases h
  | keep slots =>
    simp only [ghostS, Option.some.injEq] at h
    subst h
    refine ⟨I, ρ, r1, fun t => ?_, r3, r4, r5, r6⟩
    rcases lk_keep s.sl t slots with h | h
    · rw [h]; exact r2 t
    · rw [h]; exact .any _
  | frz t =>
    simp only [ghostS] at h
    split at h
    · rename_i b hb
      split at h
      · rename_i B hB
        split at h
        · rename_i hn
          simp only [Option.some.injEq] at h
          subst h
          obtain ⟨r, e1, e2⟩ := r1.blk b B hB
          obtain ⟨z1, z2⟩ := r1.drop hB e1
          refine ⟨_, ρ, z1, fun i => ?_, r3, r4, r5.trans z2, r6⟩
          simp only [lk]
          split
          · rename_i e
            subst e
            have hv := r2 t
            rw [hb] at hv
            generalize a.tmps.getD t undef = z at hv
            cases hv with
            | vec _ r' hr' =>
              rw [e1] at hr'
              cases hr'
              obtain ⟨ty, sz, es⟩ := B
              exact e2.frz hn (fun k hk => .inr hk) (fun k hk => .inl hk)
          · exact (r2 i).mono (fun _ h => .inl h) (fun _ _ h => h) (fun _ _ => rfl)
        · cases h
      · cases h
    · cases h

/-! ### Code -/
theorem exists_least {p : Nat → Prop} (h : ∃ n, p n) : ∃ n, p n ∧ ∀ m, p m → n ≤ m := by
  obtain ⟨n, hn⟩ := h
  induction n using Nat.strongRecOn with
  | _ n ih =>
    by_cases hm : ∃ m, m < n ∧ p m
    · obtain ⟨m, h1, h2⟩ := hm
      exact ih m h1 h2
    · refine ⟨n, hn, fun m hp => ?_⟩
      rcases Nat.lt_or_ge m n with h | h
      · exact absurd ⟨m, h, hp⟩ hm
      · exact h
open Classical in
noncomputable def least (p : Nat → Prop) : Nat := if h : ∃ n, p n then Classical.choose (exists_least h) else 0
theorem least_spec {p : Nat → Prop} (h : ∃ n, p n) : p (least p) ∧ ∀ m, p m → least p ≤ m := by
  unfold least
  rw [dif_pos h]
  exact Classical.choose_spec (exists_least h)
theorem then_of {Q : Exit → Act → World → Prop} {next : Act → World → Prop} {e : Exit} {a : Act} {w : World} (h1 : e = .normal → next a w) (h2 : e ≠ .normal → Q e a w) : Exit.then next Q e a w := by
  cases e with
  | normal => exact h1 rfl
  | _ => exact h2 (by simp)
theorem draw_wp {call : CallT} {callr : CallrT} (hmix : P.follows .mixedOrders = true) (hc : CallsOk P call callr) {ops : Array Oper} {id : Nat} {l : List AO} {bef : List (List Nat)} {bad : List (Nat × Nat)} (hok : okDraw P nt ops (l.zipIdx.map fun p => (p.2, p.1)) bef bad = true)
    {s s1 : St} (hbad : apartS s1.sl bad = true) (h1 : steps call callr l s = some s1) {a : Act} {w : World} (hrel : Rel g nt df s a w) :
    Code.wp P (.region id ops true) (fun x a' w' => x = AExit.normal.conv ∧ Rel g nt df s1 a' w') a w := by
  simp only [okDraw, Bool.and_eq_true, beq_iff_eq, List.all_eq_true] at hok
  obtain ⟨⟨⟨⟨k1, k2⟩, k5⟩, k3⟩, k4⟩ := hok
  refine wp_region_any hmix ?_
  have hl : l.length = ops.size := by have := congrArg List.length k3; simpa using this
  have hmap : (l.zipIdx.map fun p => (p.2, p.1)).map (·.2) = l := by
    rw [List.map_map]; simp [Function.comp_def]
  refine any_wp hc k1 ops.size (l.zipIdx.map fun p => (p.2, p.1)) (Array.replicate ops.size false) s s1 a _ (by simpa using hl) (by simp) (by rw [k3]; exact List.nodup_range) (fun i hi => ?_) (fun p hp => ?_) (by rw [k3]; exact List.pairwise_lt_range) (fun i o _ hlist => ?_) k2 k5 hbad (fun p hp => ?_) (by rw [hmap]; exact h1) ?_ (fun a' w' hr => ⟨rfl, hr⟩)
  · simp only [Array.getD_eq_getD_getElem?, Array.getElem?_replicate, hi, if_true, Option.getD_some, true_iff]
    have : i ∈ (l.zipIdx.map fun p => (p.2, p.1)).map (·.1) := by rw [k3]; simpa using hi
    obtain ⟨p, hp, rfl⟩ := List.mem_map.1 this
    exact ⟨p.2, hp⟩
  · have : p.1 ∈ (l.zipIdx.map fun p => (p.2, p.1)).map (·.1) := List.mem_map_of_mem hp
    rw [k3] at this
    simpa using this
  · exfalso
    have : (Array.replicate ops.size false).getD i false = false := by
      simp only [Array.getD_eq_getD_getElem?, Array.getElem?_replicate]
      split <;> rfl
    rw [this] at hlist
    cases hlist
  · have := k4 p hp
    split at this
    · rename_i o ho; exact ⟨o, ho, this⟩
    · cases this
  · obtain ⟨I, ρ, r1, r2, r3, r4, r5, r6⟩ := hrel
    have hev : Evol I ρ s.mem w I ρ s.mem { w with drawn := w.drawn + 1 } := ⟨fun _ h => h, fun _ h => .inl h, fun _ _ h => h, fun _ h => .inl h, rfl, rfl, rfl, Nat.le_refl _, fun _ _ _ => rfl⟩
    exact ⟨I, ρ, ⟨r1.dom, r1.fresh, fun id B hB => by
      obtain ⟨r, e1, e2⟩ := r1.blk id B hB
      exact ⟨r, e1, e2.mono (fun _ h => h) (fun _ _ h => h) (fun _ _ => rfl) (fun k hk => ⟨e2.out k hk, rfl⟩)⟩, r1.inj⟩, r2.mono (fun _ h => h) (fun _ _ h => h) (fun _ _ => rfl), r3, r4, r5.trans hev, r6⟩
/-- What is shown of so many steps of the interpreter. -/
def Sound (P : Program) (Γ : Env) (n : Nat) : Prop :=
  ∀ (nt : Nat) (c : ACode) (C : Code) (s s' : St) (e : AExit), okCode P nt c C = true → exec Γ n c s = some (e, s') → ∀ (g : Org) (df : List Deferred) (a : Act) (w : World), Rel g nt df s a w → C.wp P (fun x a' w' => x = e.conv ∧ Rel g nt df s' a' w') a w
theorem code_sound {Γ : Env} (hΓ : EnvOk P Γ) (n : Nat) (ih : ∀ k, k ≤ n → Sound P Γ k) (hc : CallsOk P (pureWith Γ (exec Γ n)) (callWith Γ (exec Γ n))) : Sound P Γ (n + 1) := by
  intro nt c C s s' e hok hex g df a w hrel
  cases c with
  | ghost gh c =>
    simp only [exec] at hex
    simp only [okCode] at hok
    split at hex
    · rename_i s1 h1
      exact ih n (Nat.le_refl _) nt c C s1 s' e hok hex g df a w (ghost_rel h1 hrel)
    · cases hex
  | skip =>
    cases C <;> simp only [okCode, Bool.false_eq_true] at hok
    simp only [exec, Option.some.injEq, Prod.mk.injEq] at hex
    obtain ⟨rfl, rfl⟩ := hex
    exact wp_skip ⟨rfl, hrel⟩
  | ops dr l =>
    simp only [exec, Option.map_eq_some_iff, Prod.mk.injEq] at hex
    obtain ⟨s1, h1, rfl, rfl⟩ := hex
    cases C with
    | region id ops draw =>
      cases dr with
      | none =>
        cases draw <;> simp only [okCode, Bool.false_eq_true] at hok
        refine wp_region ?_
        have := seq_wp hc (Q := fun x a' w' => x = AExit.normal.conv ∧ Rel g nt df s1 a' w') ops.toList l 0 s s1 a w (fun j o hj => by simpa using hj) hok h1 hrel (fun a' w' hr => ⟨rfl, hr⟩)
        rwa [Array.length_toList, ← List.range_eq_range'] at this
      | some bef =>
        cases draw <;> simp only [okCode, Bool.false_eq_true] at hok
        exact draw_wp hΓ.mixed hc hok rfl h1 hrel
    | _ => cases dr <;> simp [okCode] at hok
  | opsx bef bad l =>
    simp only [exec, Option.map_eq_some_iff, Prod.mk.injEq] at hex
    obtain ⟨s1, h1, rfl, rfl⟩ := hex
    cases C with
    | region id ops draw =>
      cases draw <;> simp only [okCode, Bool.false_eq_true] at hok
      unfold chkS at h1
      split at h1
      · rename_i s2 h2
        split at h1
        · rename_i hb
          simp only [Option.some.injEq] at h1
          subst h1
          exact draw_wp hΓ.mixed hc hok hb h2 hrel
        · cases h1
      · cases h1
    | _ => simp [okCode] at hok
  | seq x y =>
    cases C <;> simp only [okCode, Bool.false_eq_true] at hok
    rename_i X Y
    simp only [Bool.and_eq_true] at hok
    simp only [exec] at hex
    refine wp_seq ?_
    cases hx : exec Γ n x s with
    | none => simp [hx] at hex
    | some p =>
      obtain ⟨e1, s1⟩ := p
      refine wp_mono (ih n (Nat.le_refl _) nt x X s s1 e1 hok.1 hx g df a w hrel) (fun x' a' w' ⟨h1, h2⟩ => then_of (fun hn => ?_) (fun hn => ?_))
      · cases e1 <;> simp only [AExit.conv] at h1 <;> (first | (rw [hn] at h1; cases h1; done) | skip)
        simp only [hx] at hex
        exact ih n (Nat.le_refl _) nt y Y s1 s' e hok.2 hex g df a' w' h2
      · cases e1 with
        | normal => exact absurd h1 hn
        | exit id => simp only [hx, Option.some.injEq, Prod.mk.injEq] at hex; obtain ⟨rfl, rfl⟩ := hex; exact ⟨h1, h2⟩
        | ret => simp only [hx, Option.some.injEq, Prod.mk.injEq] at hex; obtain ⟨rfl, rfl⟩ := hex; exact ⟨h1, h2⟩
  | cond c x y =>
    cases C <;> simp only [okCode, Bool.false_eq_true] at hok
    rename_i C' X Y
    simp only [Bool.and_eq_true] at hok
    simp only [exec] at hex
    split at hex
    · rename_i t ht
      obtain ⟨I, ρ, r1, r2, r3⟩ := hrel
      refine wp_cond (eval_bool r2 hok.1.1 ht) ?_
      cases t
      · exact ih n (Nat.le_refl _) nt y Y s s' e hok.2 hex g df a w ⟨I, ρ, r1, r2, r3⟩
      · exact ih n (Nat.le_refl _) nt x X s s' e hok.1.2 hex g df a w ⟨I, ρ, r1, r2, r3⟩
    · cases hex
  | block id x =>
    cases C <;> simp only [okCode, Bool.false_eq_true] at hok
    rename_i id' X
    simp only [Bool.and_eq_true, beq_iff_eq] at hok
    obtain ⟨rfl, hok⟩ := hok
    simp only [exec] at hex
    refine wp_block ?_
    cases hx : exec Γ n x s with
    | none => simp [hx] at hex
    | some p =>
      obtain ⟨e1, s1⟩ := p
      refine wp_mono (ih n (Nat.le_refl _) nt x X s s1 e1 hok hx g df a w hrel) (fun x' a' w' ⟨h1, h2⟩ => ?_)
      subst h1
      cases e1 with
      | normal => simp only [hx, Option.some.injEq, Prod.mk.injEq] at hex; obtain ⟨rfl, rfl⟩ := hex; exact ⟨rfl, h2⟩
      | ret => simp only [hx, Option.some.injEq, Prod.mk.injEq] at hex; obtain ⟨rfl, rfl⟩ := hex; exact ⟨rfl, h2⟩
      | exit i =>
        simp only [hx, Option.some.injEq, Prod.mk.injEq] at hex
        obtain ⟨rfl, rfl⟩ := hex
        simp only [AExit.conv, Exit.inBlock]
        by_cases hi : i = id
        · simp [hi, h2]
        · simp [hi, h2]
  | loop x =>
    cases C <;> simp only [okCode, Bool.false_eq_true] at hok
    rename_i X
    let Iv : Act → World → Prop := fun a w => ∃ m s, m ≤ n + 1 ∧ exec Γ m (.loop x) s = some (e, s') ∧ Rel g nt df s a w
    let μ : Act → World → Nat := fun a w => least fun m => ∃ s, m ≤ n + 1 ∧ exec Γ m (.loop x) s = some (e, s') ∧ Rel g nt df s a w
    refine wp_loop (I := Iv) (μ := μ) ⟨n + 1, s, Nat.le_refl _, hex, hrel⟩ (fun a w hI => ?_)
    have hμ : ∀ a w (h : Iv a w), ∃ s, μ a w ≤ n + 1 ∧ exec Γ (μ a w) (.loop x) s = some (e, s') ∧ Rel g nt df s a w := by
      intro a w h
      exact (least_spec (p := fun m => ∃ s, m ≤ n + 1 ∧ exec Γ m (.loop x) s = some (e, s') ∧ Rel g nt df s a w) h).1
    have hmin : ∀ a w k s, k ≤ n + 1 → exec Γ k (.loop x) s = some (e, s') → Rel g nt df s a w → μ a w ≤ k := by
      intro a w k s h1 h2 h3
      exact (least_spec (p := fun m => ∃ s, m ≤ n + 1 ∧ exec Γ m (.loop x) s = some (e, s') ∧ Rel g nt df s a w) ⟨k, s, h1, h2, h3⟩).2 k ⟨s, h1, h2, h3⟩
    obtain ⟨s0, m1, m2, m3⟩ := hμ a w hI
    cases hm : μ a w with
    | zero => rw [hm] at m2; simp [exec] at m2
    | succ k =>
      rw [hm] at m1 m2
      simp only [exec] at m2
      cases hx : exec Γ k x s0 with
      | none => simp [hx] at m2
      | some p =>
        obtain ⟨e1, s1⟩ := p
        refine wp_mono (ih k (by omega) nt x X s0 s1 e1 hok hx g df a w m3) (fun x' a' w' ⟨h1, h2⟩ => then_of (fun hn => ?_) (fun hn => ?_))
        · cases e1 <;> simp only [AExit.conv] at h1 <;> (first | (rw [hn] at h1; cases h1; done) | skip)
          simp only [hx] at m2
          have := hmin a' w' k s1 (by omega) m2 h2
          exact ⟨⟨k, s1, by omega, m2, h2⟩, by omega⟩
        · cases e1 with
          | normal => exact absurd h1 hn
          | exit id => simp only [hx, Option.some.injEq, Prod.mk.injEq] at m2; obtain ⟨rfl, rfl⟩ := m2; exact ⟨h1, h2⟩
          | ret => simp only [hx, Option.some.injEq, Prod.mk.injEq] at m2; obtain ⟨rfl, rfl⟩ := m2; exact ⟨h1, h2⟩
  | exit id =>
    cases C <;> simp only [okCode, Bool.false_eq_true, beq_iff_eq] at hok
    subst hok
    simp only [exec, Option.some.injEq, Prod.mk.injEq] at hex
    obtain ⟨rfl, rfl⟩ := hex
    exact wp_exit ⟨rfl, hrel⟩
  | ret =>
    cases C <;> simp only [okCode, Bool.false_eq_true] at hok
    simp only [exec, Option.some.injEq, Prod.mk.injEq] at hex
    obtain ⟨rfl, rfl⟩ := hex
    exact wp_ret ⟨rfl, hrel⟩

/-! ### Functions -/
theorem lk_argSlots : ∀ (args : List AVal) (i t : Nat), lk (argSlots i args) t = if i ≤ t ∧ t < i + args.length then args.getD (t - i) .any else .any
  | [], i, t => by simp [argSlots, lk]
  | v :: l, i, t => by
    simp only [argSlots, lk, List.length_cons]
    split
    · rename_i h; subst h; rw [if_pos (by omega)]; simp
    · rename_i h
      rw [lk_argSlots l (i + 1) t]
      by_cases hc : i + 1 ≤ t ∧ t < i + 1 + l.length
      · rw [if_pos hc, if_pos (by omega)]
        have : t - i = (t - (i + 1)) + 1 := by omega
        rw [this]; simp
      · rw [if_neg hc, if_neg (by omega)]
theorem start_reps {I : Nat → Prop} {ρ : Nat → Option ORep} {w : World} {args : List AVal} {vs : Array Value} (hl : vs.size = args.length) (h : ∀ (j : Nat) x, args[j]? = some x → RepV I ρ w x (vs.getD j undef)) (k : Nat) :
    RepS I ρ w (argSlots 0 args) (vs ++ Array.replicate k undef) := by
  intro t
  rw [lk_argSlots]
  by_cases ht : t < args.length
  · rw [if_pos (by omega)]
    have h1 := h t args[t] (by simp [ht])
    have e1 : args.getD (t - 0) .any = args[t] := by simp [ht]
    have e2 : (vs ++ Array.replicate k undef).getD t undef = vs.getD t undef := by
      simp [Array.getElem?_append_left (show t < vs.size by omega)]
    rw [e1, e2]
    exact h1
  · rw [if_neg (by omega)]
    exact .any _
def resOne (tmps : Array Value) : ResultVar → Sem Value
  | .tmp t => pure (tmps.getD t undef)
  | .cell a t => do loadVar t (← asAddr (tmps.getD a undef))
theorem res_run {I : Nat → Prop} {ρ : Nat → Option ORep} {s : St} {w : World} {tmps : Array Value} (hi : Inv I ρ s.mem s.nx w) (hr : RepS I ρ w s.sl tmps) : ∀ (l : List ARes) (l' : List ResultVar) (vs : List AVal), okRes P l l' = true → resVs s l = some vs →
    ∃ us : List Value, (l'.mapM (resOne tmps)).run P w = .ok us w ∧ us.length = vs.length ∧ ∀ (j : Nat) x, vs[j]? = some x → RepV I ρ w x (us.getD j undef)
  | [], [], vs, _, h => by simp only [resVs, Option.some.injEq] at h; subst h; exact ⟨[], by simp, rfl, by simp⟩
  | [], _ :: _, _, h, _ => by simp [okRes] at h
  | .t n :: l, [], _, h, _ => by simp [okRes] at h
  | .cell .. :: l, [], _, h, _ => by simp [okRes] at h
  | .t n :: l, .cell .. :: l', _, h, _ => by simp [okRes] at h
  | .cell .. :: l, .tmp .. :: l', _, h, _ => by simp [okRes] at h
  | .t n :: l, .tmp m :: l', vs, hok, h => by
    simp only [okRes, Bool.and_eq_true, beq_iff_eq] at hok
    obtain ⟨rfl, hok⟩ := hok
    simp only [resVs, resV] at h
    split at h
    · rename_i v vs' h1 h2
      simp only [Option.some.injEq] at h1 h
      subst h1 h
      obtain ⟨us, e1, e2, e3⟩ := res_run hi hr l l' vs' hok h2
      refine ⟨tmps.getD n undef :: us, by simp only [List.mapM_cons, resOne, Sem.run_bind, Sem.run_pure, Result.andThen_ok, e1], by simp [e2], fun j x hx => ?_⟩
      cases j with
      | zero => simp at hx; subst hx; simpa using hr n
      | succ j => simp at hx; simpa using e3 j x hx
    · cases h
  | .cell n agg k :: l, .cell m t :: l', vs, hok, h => by
    simp only [okRes, Bool.and_eq_true, beq_iff_eq] at hok
    obtain ⟨⟨⟨rfl, k1⟩, k2⟩, hok⟩ := hok
    simp only [resVs] at h
    split at h
    · rename_i v vs' h1 h2
      simp only [Option.some.injEq] at h
      subst h
      obtain ⟨us, e1, e2, e3⟩ := res_run hi hr l l' vs' hok h2
      have hload : ∃ u, (do loadVar t (← asAddr (tmps.getD n undef)) : Sem Value).run P w = .ok u w ∧ RepV I ρ w v u := by
        let o : Oper := { dst := none, op := .load t (.tmp n), type := t, pos := "", after := #[], guard := none }
        have hs : sem (fun _ _ => none) (fun _ _ _ _ => none) (ev s.sl) s.mem s.nx (.ldv (.t n) agg k) = some (v, s.mem, s.nx) := by
          simp only [resV] at h1
          simp only [sem, ev]
          split at h1
          · rename_i b e j hb
            split at h1
            · rename_i B hB
              split at h1
              · rename_i cs hcs
                simp [h1]
              · cases h1
            · cases h1
          · cases h1
        have key := sem_sound (P := P) (o := o) (a := ⟨tmps, []⟩) hi hr (fun _ _ _ h => by cases h) (fun _ _ _ _ _ _ _ h => by cases h) (.ldv (.t n) agg k) (by simp [okOp, o, okOpd, k1, k2]) hs
        have hv := hr n
        simp only [resV] at h1
        split at h1
        · rename_i b e j hb
          rw [hb] at hv
          generalize htm : tmps.getD n undef = tv at hv
          cases hv with
          | ptr _ _ _ r kk q1 q2 =>
            unfold OpGives at key
            have he : (Act.mk tmps []).eval (.tmp n) = .pointer (some ⟨kk, e * r.sz + j, none⟩) := htm
            simp only [execOp, o, he, Instr.loadAt, Instr.sureAddr, Sem.run_bind, Sem.run_pure, Result.andThen_ok] at key
            cases hl : (loadVar t ⟨kk, e * r.sz + j, none⟩).run P w with
            | halt => simp [hl, Result.andThen] at key
            | ok u w' =>
              simp only [hl, Result.andThen_ok] at key
              obtain ⟨B, hB⟩ : ∃ B, mg s.mem b = some B := by
                cases hB : mg s.mem b with
                | none => simp [hB] at h1
                | some B => exact ⟨B, rfl⟩
              simp only [hB] at h1
              split at h1
              · rename_i cs hcs
                obtain ⟨u', f1, f2⟩ : ∃ u', (loadVar t ⟨kk, e * r.sz + j, none⟩).run P w = .ok u' w ∧ RepV I ρ w v u' := by
                  have hbr := hi.get hB q1
                  have hlt := (List.getElem?_eq_some_iff.1 hcs).1
                  obtain ⟨k', cur, g1, g2, g3, g4, _⟩ := hbr.at_ (by intro e'; rw [e'] at hlt; simp at hlt)
                  have hk : kk = k' := by rw [q2] at g1; exact Option.some.inj g1
                  subst hk
                  have hcl : cs.length = B.sz := hbr.sizes cs (List.mem_of_getElem? hcs)
                  have hle : (e + 1) * B.sz ≤ B.es.length * B.sz := Nat.mul_le_mul_right _ hlt
                  rw [Nat.add_mul] at hle
                  rw [hbr.sz]
                  exact load_run (P := P) (I := I) (ρ := ρ) (w := w) (b := kk) (off := e * B.sz + j) k1 k2 (cs := cs.drop j) (vals := fun i => cur.getD (e * B.sz + j + i) undef)
                    (fun i hi' => by
                      simp only [List.length_drop] at hi'
                      have : e * B.sz + j + i < cur.size := by omega
                      rw [cell_of_row w kk _ cur B.ty (0, 0) g2]
                      simp [this])
                    (fun y hy => hbr.cells cs (List.mem_of_getElem? hcs) y (List.mem_of_mem_drop hy))
                    (fun i y hy => by
                      rw [List.getElem?_drop] at hy
                      have hj : j + i < B.sz := by have := (List.getElem?_eq_some_iff.1 hy).1; omega
                      have := g4 (e * B.sz + (j + i)) y (by rw [flat_get B.sz B.es hbr.sizes e (j + i) hj, hcs]; exact hy)
                      rwa [← Nat.add_assoc] at this)
                    h1
                exact ⟨u', by simp [asAddr, f1], f2⟩
              · cases h1
        · cases h1
      obtain ⟨u, f1, f2⟩ := hload
      refine ⟨u :: us, ?_, by simp [e2], fun j x hx => ?_⟩
      · rw [List.mapM_cons, Sem.run_bind, show resOne tmps (.cell n t) = (do loadVar t (← asAddr (tmps.getD n undef))) from rfl, f1]
        simp only [Result.andThen_ok, Sem.run_bind, e1, Sem.run_pure]
      · cases j with
        | zero => simp at hx; subst hx; simpa using f2
        | succ j => simp at hx; simpa using e3 j x hx
    · cases h
theorem results_run {I : Nat → Prop} {ρ : Nat → Option ORep} {s : St} {w : World} {tmps : Array Value} (hi : Inv I ρ s.mem s.nx w) (hr : RepS I ρ w s.sl tmps) {F : Func} {l : List ARes} {vs : List AVal} (hok : okRes P l F.results.toList = true) (h : resVs s l = some vs) :
    ∃ us : List Value, (results F tmps).run P w = .ok (if h : us.length = 1 then us[0] else .tuple us.toArray) w ∧ us.length = vs.length ∧ ∀ (j : Nat) x, vs[j]? = some x → RepV I ρ w x (us.getD j undef) := by
  obtain ⟨us, e1, e2, e3⟩ := res_run hi hr l F.results.toList vs hok h
  refine ⟨us, ?_, e2, e3⟩
  have hres : results F tmps = (do let vs ← F.results.mapM (resOne tmps); pure (if h : vs.size = 1 then vs[0] else .tuple vs)) := by
    unfold results
    congr 1
  rw [hres, Array.mapM_eq_mapM_toList, Sem.run_bind, Sem.run_map, e1]
  simp
theorem tupV_rep {I : Nat → Prop} {ρ : Nat → Option ORep} {w : World} {vs : List AVal} {us : List Value} (hl : us.length = vs.length) (h : ∀ (j : Nat) x, vs[j]? = some x → RepV I ρ w x (us.getD j undef)) : RepV I ρ w (tupV vs) (if h : us.length = 1 then us[0] else .tuple us.toArray) := by
  match vs, us, hl with
  | [], [], _ => exact .tup [] #[] rfl (by simp)
  | [v], [u], _ => simpa [tupV] using h 0 v rfl
  | v :: v' :: vs, u :: u' :: us, hl =>
    simp only [tupV]
    rw [dif_neg (by simp)]
    exact .tup _ _ (by simpa using hl) (fun j x hx => by simpa using h j x hx)
end
end Go.Proofs.Ytnomicnfgdjdeaa.Ab
