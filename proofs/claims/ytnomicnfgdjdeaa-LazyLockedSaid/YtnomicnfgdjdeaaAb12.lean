/- The interpreter is right: the theorem. Part of a layer that interprets Go code over values. No condition. -/
import Derived.Test.YtnomicnfgdjdeaaAb11
namespace Go.Proofs.Ytnomicnfgdjdeaa.Ab
open Go.RowKit

section
variable {P : Program}
theorem outs_get {mem : List (Nat × Blk)} : ∀ (vs os : List AVal), outs mem vs = some os → os.length = vs.length ∧ ∀ (j : Nat) o, os[j]? = some o → ∃ v, vs[j]? = some v ∧ out1 mem v = some o
  | [], os, h => by simp only [outs, Option.some.injEq] at h; subst h; exact ⟨rfl, by simp⟩
  | v :: vs, os, h => by
    simp only [outs] at h
    split at h
    · rename_i o os' h1 h2
      simp only [Option.some.injEq] at h
      subst h
      obtain ⟨e1, e2⟩ := outs_get vs os' h2
      refine ⟨by simp [e1], fun j o' ho => ?_⟩
      cases j with
      | zero => simp at ho; subst ho; exact ⟨v, rfl, h1⟩
      | succ j => simp at ho; obtain ⟨v', q1, q2⟩ := e2 j o' ho; exact ⟨v', by simpa using q1, q2⟩
    · cases h
theorem apart_get : ∀ (vs : List AVal), apart vs = true → ∀ (i j : Nat) b c, i ≠ j → vs[i]? = some (.vec b) → vs[j]? = some (.vec c) → b ≠ c := by
  intro vs
  induction vs with
  | nil => intro _ i j b c _ h; simp at h
  | cons v vs ih =>
    intro h i j b c hij h1 h2
    have htail : apart vs = true := by cases v <;> simp only [apart, Bool.and_eq_true] at h <;> first | exact h | exact h.2
    have hd : ∀ (q : Nat), v = AVal.vec q → ∀ (k d : Nat), vs[k]? = some (AVal.vec d) → q ≠ d := by
      intro q hq k d hk
      subst hq
      simp only [apart, Bool.and_eq_true, List.all_eq_true] at h
      have := h.1 _ (List.mem_of_getElem? hk)
      simpa using this
    cases i with
    | zero =>
      cases j with
      | zero => omega
      | succ j => simp at h1 h2; exact hd b h1 j c h2
    | succ i =>
      cases j with
      | zero => simp at h1 h2; exact (hd c h2 i b h1).symm
      | succ j => simp at h1 h2; exact ih htail i j b c (by omega) h1 h2
/-- What a function leaves, as a result that a pure call hands on. -/
theorem ret_ok {I0 I : Nat → Prop} {ρ : Nat → Option ORep} {m : List (Nat × Blk)} {nx : Nat} {w0 w : World} (hi : Inv I ρ m nx w) (hev : Evol I0 (fun _ => none) [] w0 I ρ m w) {vs os : List AVal} {us : List Value} (hl : us.length = vs.length)
    (hr : ∀ (j : Nat) x, vs[j]? = some x → RepV I ρ w x (us.getD j undef)) (hap : apart vs = true) (ho : outs m vs = some os) : RetOK I0 w0 (tupV os) (if h : us.length = 1 then us[0] else .tuple us.toArray) w := by
  have hno : ∀ b, ¬ Owned (fun _ => none) [] b := fun b ⟨_, _, _, _, h, _⟩ => by cases h
  have hpev : PEv I0 w0 I w := ⟨hev.sub, fun b hb => by rcases hev.new b hb with h | h | h; exact .inl h; exact absurd h (hno b); exact .inr h, hi.dom, hev.os, hev.tape, hev.output, hev.size, fun b hb => hev.same b hb (hno b)⟩
  have hfresh : ∀ b, Owned ρ m b → w0.heap.size ≤ b := fun b hb => by rcases hev.own b hb with h | h; exact absurd h (hno b); exact h
  obtain ⟨ol, og⟩ := outs_get vs os ho
  let reps : Nat → ORep := fun j => match vs[j]? with | some (.vec b) => (ρ b).getD ⟨none, 0, 0, 0, 0⟩ | _ => ⟨none, 0, 0, 0, 0⟩
  have comp : ∀ (j : Nat) x, os[j]? = some x → CompR I w0 w (reps j) x (us.getD j undef) := by
    intro j x hx
    obtain ⟨v, hv, h1⟩ := og j x hx
    have hrep := hr j v hv
    cases v with
    | vec b =>
      simp only [out1] at h1
      split at h1
      · rename_i B hB
        split at h1
        · rename_i hn
          simp only [Option.some.injEq] at h1
          subst h1
          generalize us.getD j undef = u at hrep
          cases hrep with
          | vec _ r hr' =>
            have : reps j = r := by simp [reps, hv, hr']
            rw [this]
            have hbr := hi.get hB hr'
            obtain ⟨ty, sz, es⟩ := B
            exact ⟨rfl, hbr.freeρ hn, hn, fun k hk => hfresh k ⟨b, _, r, hB, hr', hk⟩⟩
        · cases h1
      · cases h1
    | any => simp [out1, AVal.argOk, AVal.noRef] at h1
    | tup => simp [out1, AVal.argOk, AVal.noRef] at h1
    | own => simp [out1, AVal.argOk, AVal.noRef] at h1
    | ptr => simp [out1, AVal.argOk, AVal.noRef] at h1
    | agg cs =>
      simp only [out1] at h1
      split at h1
      · rename_i hn; simp only [Option.some.injEq] at h1; subst h1; exact ⟨hn, hrep.arg hn⟩
      · cases h1
    | func f caps =>
      simp only [out1] at h1
      split at h1
      · rename_i hn; simp only [Option.some.injEq] at h1; subst h1; exact ⟨hn, hrep.arg hn⟩
      · cases h1
    | bool b => simp only [out1, AVal.argOk, AVal.noRef, if_true, Option.some.injEq] at h1; subst h1; exact ⟨rfl, hrep.arg rfl⟩
    | int k n => simp only [out1, AVal.argOk, AVal.noRef, if_true, Option.some.injEq] at h1; subst h1; exact ⟨rfl, hrep.arg rfl⟩
    | str s => simp only [out1, AVal.argOk, AVal.noRef, if_true, Option.some.injEq] at h1; subst h1; exact ⟨rfl, hrep.arg rfl⟩
    | nilp => simp only [out1, AVal.argOk, AVal.noRef, if_true, Option.some.injEq] at h1; subst h1; exact ⟨rfl, hrep.arg rfl⟩
    | list sz es => simp only [out1, AVal.argOk, AVal.noRef, if_true, Option.some.injEq] at h1; subst h1; exact ⟨rfl, hrep.arg rfl⟩
    | fptr cs => simp only [out1, AVal.argOk, AVal.noRef, if_true, Option.some.injEq] at h1; subst h1; exact ⟨rfl, hrep.arg rfl⟩
  have own_vec : ∀ (j : Nat) x, os[j]? = some x → x.isOwn = true → ∃ b B r, vs[j]? = some (.vec b) ∧ mg m b = some B ∧ ρ b = some r ∧ reps j = r := by
    intro j x hx hown
    obtain ⟨v, hv, h1⟩ := og j x hx
    cases v with
    | vec b =>
      simp only [out1] at h1
      split at h1
      · rename_i B hB
        obtain ⟨r, e1, _⟩ := hi.blk b B hB
        exact ⟨b, B, r, hv, hB, e1, by simp [reps, hv, e1]⟩
      · cases h1
    | _ =>
      exfalso
      simp only [out1] at h1
      split at h1
      · simp only [Option.some.injEq] at h1; subst h1; simp [AVal.isOwn] at hown <;> simp_all [AVal.argOk, AVal.noRef]
      · cases h1
  have disj : ∀ (i j : Nat) x y k, i ≠ j → os[i]? = some x → os[j]? = some y → x.isOwn = true → y.isOwn = true → (reps i).blk = some k → (reps j).blk ≠ some k := by
    intro i j x y k hij hx hy h1 h2 h3 h4
    obtain ⟨b, B, r, a1, a2, a3, a4⟩ := own_vec i x hx h1
    obtain ⟨c, C, s, b1, b2, b3, b4⟩ := own_vec j y hy h2
    rw [a4] at h3
    rw [b4] at h4
    exact apart_get vs hap i j b c hij a1 b1 (hi.inj b c B C r s k a2 b2 a3 b3 h3 h4)
  refine ⟨I, reps, hpev, ?_⟩
  match os, us, vs, ol, hl, comp, disj with
  | [], us, [], _, hl, _, _ =>
    have hu : us = [] := List.eq_nil_of_length_eq_zero hl
    subst hu
    exact ⟨#[], rfl, rfl, by simp, by simp⟩
  | [o], us, [v], _, hl, comp, _ =>
    match us, hl with
    | [u], _ =>
      have c0 := comp 0 o rfl
      simp only [List.getD_cons_zero] at c0
      have he : (if h : [u].length = 1 then [u][0] else Value.tuple [u].toArray) = u := by simp
      rw [he]
      cases o with
      | tup ts => exact absurd c0.1 (by simp [AVal.argOk, AVal.noRef])
      | _ => exact c0
  | o :: o' :: os, us, vs, ol, hl, comp, disj =>
    simp only [tupV]
    have : ¬ us.length = 1 := by simp at ol; omega
    rw [dif_neg this]
    exact ⟨us.toArray, rfl, by simp at ol ⊢; omega, fun j x hx => by simpa using comp j x hx, disj⟩

theorem fn_start {fn : AFn} {F : Func} (hok : okFn P fn F = true) : F.ntmps = fn.nt ∧ fn.np ≤ fn.nt ∧ okRes P fn.res F.results.toList = true ∧ ∃ C, F.body = some C ∧ okCode P fn.nt fn.body C = true := by
  simp only [okFn, Bool.and_eq_true, beq_iff_eq, decide_eq_true_eq] at hok
  obtain ⟨⟨⟨h1, h2⟩, h3⟩, h4⟩ := hok
  split at h4
  · rename_i C hC; exact ⟨h1, h2, h3, C, hC, h4⟩
  · cases h4
theorem calls_ok {Γ : Env} (hΓ : EnvOk P Γ) (n : Nat) (hs : Sound P Γ n) : CallsOk P (pureWith Γ (exec Γ n)) (callWith Γ (exec Γ n)) := by
  constructor
  · intro f args r h
    unfold pureWith at h
    split at h
    · rename_i fn hfn
      obtain ⟨F, hF, hok⟩ := hΓ.fn f fn hfn
      obtain ⟨h1, h2, h3, C, hC, h4⟩ := fn_start hok
      split at h
      · rename_i hlen
        split at h
        · cases h
        · rename_i e s hne hex
          split at h
          · rename_i vs hvs
            split at h
            · rename_i hap
              rw [Option.map_eq_some_iff] at h
              obtain ⟨os, hos, rfl⟩ := h
              intro I w us hd hul hargs
              refine calls_of_wp hF hC ?_
              have hinv : Inv I (fun _ => none) [] 0 w := ⟨hd, fun _ _ => rfl, fun id B h => by simp [mg] at h, fun i j B C r s k h => by simp [mg] at h⟩
              have hrel : Rel ⟨I, fun _ => none, [], w⟩ fn.nt [] ⟨argSlots 0 args, [], 0, true⟩ { tmps := us ++ Array.replicate (F.ntmps - us.size) undef, defers := [] } w :=
                ⟨I, fun _ => none, hinv, start_reps hul hargs _, by simp; omega, rfl, Evol.refl _ _ _ _, fun _ => rfl⟩
              refine wp_mono (hs fn.nt fn.body C _ s e h4 hex _ [] _ w hrel) (fun x a' w' ⟨hx, hr⟩ => ?_)
              subst hx
              obtain ⟨I', ρ', r1, r2, r3, r4, r5, r6⟩ := hr
              obtain ⟨zs, z1, z2, z3⟩ := results_run (P := P) (F := F) r1 r2 h3 hvs
              have hret := ret_ok r1 r5 z2 z3 hap hos
              cases e with
              | exit id => exact (hne id rfl).elim
              | normal => exact ⟨r4, _, z1, _, rfl, hret⟩
              | ret => exact ⟨r4, _, z1, _, rfl, hret⟩
            · cases h
          · cases h
        · cases h
      · cases h
    · rename_i hfn
      exact hΓ.ext f args r hfn h
  · intro f args m nx r m' nx' h
    unfold callWith at h
    split at h
    · rename_i fn hfn
      obtain ⟨F, hF, hok⟩ := hΓ.fn f fn hfn
      obtain ⟨h1, h2, h3, C, hC, h4⟩ := fn_start hok
      split at h
      · rename_i hlen
        split at h
        · cases h
        · rename_i e s hne hex
          rw [Option.map_eq_some_iff] at h
          obtain ⟨vs, hvs, he⟩ := h
          simp only [Prod.mk.injEq] at he
          obtain ⟨rfl, rfl, rfl⟩ := he
          intro I ρ w us hinv hul hargs
          refine calls_of_wp hF hC ?_
          have hrel : Rel ⟨I, ρ, m, w⟩ fn.nt [] ⟨argSlots 0 args, m, nx, false⟩ { tmps := us ++ Array.replicate (F.ntmps - us.size) undef, defers := [] } w :=
            ⟨I, ρ, hinv, start_reps hul hargs _, by simp; omega, rfl, Evol.refl _ _ _ _, fun h => by cases h⟩
          refine wp_mono (hs fn.nt fn.body C _ s e h4 hex _ [] _ w hrel) (fun x a' w' ⟨hx, hr⟩ => ?_)
          subst hx
          obtain ⟨I', ρ', r1, r2, r3, r4, r5, r6⟩ := hr
          obtain ⟨zs, z1, z2, z3⟩ := results_run (P := P) (F := F) r1 r2 h3 hvs
          have hret : SRes I ρ m w (tupV vs) s.mem s.nx (if h : zs.length = 1 then zs[0] else .tuple zs.toArray) w' := ⟨I', ρ', r1, r5, tupV_rep z2 z3⟩
          cases e with
          | exit id => exact (hne id rfl).elim
          | normal => exact ⟨r4, _, z1, _, rfl, hret⟩
          | ret => exact ⟨r4, _, z1, _, rfl, hret⟩
        · cases h
      · cases h
    · cases h
/-- THE THEOREM: so many steps of the interpreter, for every function. -/
theorem sound {Γ : Env} (hΓ : EnvOk P Γ) (n : Nat) : Sound P Γ n := by
  induction n using Nat.strongRecOn with
  | _ n ih =>
    cases n with
    | zero => intro nt c C s s' e _ h; simp [exec] at h
    | succ n => exact code_sound hΓ n (fun k hk => ih k (by omega)) (calls_ok hΓ n (ih n (by omega)))
/-- What a call comes to, by the interpreter. -/
def PCall (Γ : Env) (f : Nat) (args : List AVal) (r : AVal) : Prop := ∃ n, pureWith Γ (exec Γ n) f args = some r
theorem PCall.spec {Γ : Env} (hΓ : EnvOk P Γ) {f : Nat} {args : List AVal} {r : AVal} (h : PCall Γ f args r) : PureSpec P f args r := by
  obtain ⟨n, hn⟩ := h
  exact (calls_ok hΓ n (sound hΓ n)).p f args r hn
end
end Go.Proofs.Ytnomicnfgdjdeaa.Ab
