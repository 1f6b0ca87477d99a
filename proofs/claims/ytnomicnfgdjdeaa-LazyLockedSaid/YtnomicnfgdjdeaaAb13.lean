/- What the interpreter comes to, without a count of steps, and the equations by which it is computed. Part of a layer that interprets Go code over values. No condition. -/
import Derived.Test.YtnomicnfgdjdeaaAb12
namespace Go.Proofs.Ytnomicnfgdjdeaa.Ab
open Go.RowKit

abbrev CT := Nat → List AVal → Option AVal
abbrev CR := Nat → List AVal → List (Nat × Blk) → Nat → Option (AVal × List (Nat × Blk) × Nat)
def LeP (c c' : CT) : Prop := ∀ f a r, c f a = some r → c' f a = some r
def LeR (c c' : CR) : Prop := ∀ f a m n r, c f a m n = some r → c' f a m n = some r
theorem semP_mono {c c' : CT} (h : LeP c c') {rd : Opd → AVal} {x : AOp} {v : AVal} (hs : semP c rd x = some v) : semP c' rd x = some v := by
  cases x <;> try exact hs
  rename_i f args
  simp only [semP] at hs ⊢
  split at hs
  · rename_i ha
    rw [if_pos ha]
    rw [Option.map_eq_some_iff] at hs ⊢
    obtain ⟨r, h1, h2⟩ := hs
    exact ⟨r, h _ _ _ h1, h2⟩
  · cases hs
theorem sem_mono {c c' : CT} {d d' : CR} (h : LeP c c') (k : LeR d d') {rd : Opd → AVal} {m : List (Nat × Blk)} {n : Nat} {x : AOp} {v : AVal × List (Nat × Blk) × Nat} (hs : sem c d rd m n x = some v) : sem c' d' rd m n x = some v := by
  have hp : ∀ y : AOp, (semP c rd y).map (fun v => (v, m, n)) = some v → (semP c' rd y).map (fun v => (v, m, n)) = some v := by
    intro y hy
    rw [Option.map_eq_some_iff] at hy ⊢
    obtain ⟨r, h1, h2⟩ := hy
    exact ⟨r, semP_mono h h1, h2⟩
  have hq : ∀ (f : Nat) (xs : List Opd), sem c d rd m n (.calq f xs) = some v → sem c' d' rd m n (.calq f xs) = some v := by
    intro f xs hy
    simp only [sem] at hy ⊢
    split at hy
    · rename_i u m1 n1 h1
      rw [k _ _ _ _ _ h1]
      exact hy
    · cases hy
  cases x <;> first | exact hs | exact hp _ hs | exact hq _ _ hs | skip
  · rename_i f args
    simp only [sem] at hs ⊢
    split at hs
    · rename_i ha
      rw [if_pos ha]
      rw [Option.map_eq_some_iff] at hs ⊢
      obtain ⟨r, h1, h2⟩ := hs
      exact ⟨r, h _ _ _ h1, h2⟩
    · cases hs
  · exact k _ _ _ _ _ hs
theorem step_mono {c c' : CT} {d d' : CR} (h : LeP c c') (k : LeR d d') {o : AO} {s s' : St} (hs : step c d o s = some s') : step c' d' o s = some s' := by
  unfold step at hs ⊢
  split at hs
  · rw [Option.map_eq_some_iff] at hs ⊢
    obtain ⟨r, h1, h2⟩ := hs
    exact ⟨r, sem_mono h k h1, h2⟩
  · exact hs
  · cases hs
theorem steps_mono {c c' : CT} {d d' : CR} (h : LeP c c') (k : LeR d d') : ∀ {l : List AO} {s s' : St}, steps c d l s = some s' → steps c' d' l s = some s'
  | [], _, _, hs => hs
  | o :: l, s, s', hs => by
    simp only [steps] at hs ⊢
    split at hs
    · rename_i s1 h1
      rw [step_mono h k h1]
      exact steps_mono h k hs
    · cases hs
abbrev Ex := ACode → St → Option (AExit × St)
def LeE (c c' : Ex) : Prop := ∀ a s r, c a s = some r → c' a s = some r
theorem pure_mono {Γ : Env} {e e' : Ex} (h : LeE e e') : LeP (pureWith Γ e) (pureWith Γ e') := by
  intro f a r hr
  unfold pureWith at hr ⊢
  split at hr
  · split at hr
    · rename_i fn hfn hl
      rw [if_pos hl]
      split at hr
      · cases hr
      · rename_i x s hx1 hx2
        rw [h _ _ _ hx2]
        cases x with
        | exit i => exact (hx1 i rfl).elim
        | normal => exact hr
        | ret => exact hr
      · cases hr
    · cases hr
  · exact hr
theorem call_mono {Γ : Env} {e e' : Ex} (h : LeE e e') : LeR (callWith Γ e) (callWith Γ e') := by
  intro f a m n r hr
  unfold callWith at hr ⊢
  split at hr
  · split at hr
    · rename_i fn hfn hl
      rw [if_pos hl]
      split at hr
      · cases hr
      · rename_i x s hx1 hx2
        rw [h _ _ _ hx2]
        cases x with
        | exit i => exact (hx1 i rfl).elim
        | normal => exact hr
        | ret => exact hr
      · cases hr
    · cases hr
  · cases hr
theorem chk_mono {bad : List (Nat × Nat)} {x y : Option St} (h : ∀ t, x = some t → y = some t) {s : St} (hs : chkS bad x = some s) : chkS bad y = some s := by
  unfold chkS at hs
  split at hs
  · rename_i t
    rw [h t rfl]
    exact hs
  · cases hs
theorem exec_step {Γ : Env} : ∀ (n : Nat), LeE (exec Γ n) (exec Γ (n + 1))
  | 0 => fun a s r h => by simp [exec] at h
  | n + 1 => by
    intro a s r h
    have ih := exec_step (Γ := Γ) n
    cases a with
    | skip => exact h
    | ops d l =>
      simp only [exec] at h ⊢
      rw [Option.map_eq_some_iff] at h ⊢
      obtain ⟨s', h1, h2⟩ := h
      exact ⟨s', steps_mono (pure_mono ih) (call_mono ih) h1, h2⟩
    | opsx b d l =>
      simp only [exec] at h ⊢
      rw [Option.map_eq_some_iff] at h ⊢
      obtain ⟨s', h1, h2⟩ := h
      exact ⟨s', chk_mono (fun t ht => steps_mono (pure_mono ih) (call_mono ih) ht) h1, h2⟩
    | seq a b =>
      rw [exec] at h ⊢
      split at h
      · rename_i s' h1
        rw [ih _ _ _ h1]
        exact ih _ _ _ h
      · rename_i hn
        rw [ih _ _ _ h]
        obtain ⟨e, s'⟩ := r
        cases e with
        | normal => exact (hn s' h).elim
        | exit i => rfl
        | ret => rfl
    | cond c a b =>
      rw [exec] at h ⊢
      split at h
      · exact ih _ _ _ h
      · cases h
    | block id c =>
      rw [exec] at h ⊢
      split at h
      · rename_i i s' h1
        rw [ih _ _ _ h1]
        exact h
      · rename_i hn
        rw [ih _ _ _ h]
        obtain ⟨e, s'⟩ := r
        cases e with
        | exit i => exact (hn i s' h).elim
        | normal => rfl
        | ret => rfl
    | loop c =>
      rw [exec] at h ⊢
      split at h
      · rename_i s' h1
        rw [ih _ _ _ h1]
        exact ih _ _ _ h
      · rename_i hn
        rw [ih _ _ _ h]
        obtain ⟨e, s'⟩ := r
        cases e with
        | normal => exact (hn s' h).elim
        | exit i => rfl
        | ret => rfl
    | exit id => exact h
    | ret => exact h
    | ghost g c =>
      rw [exec] at h ⊢
      split at h
      · exact ih _ _ _ h
      · cases h
theorem exec_le {Γ : Env} {n m : Nat} (h : n ≤ m) : LeE (exec Γ n) (exec Γ m) := by
  induction h with
  | refl => exact fun _ _ _ h => h
  | step _ ih => exact fun a s r hr => exec_step _ a s r (ih a s r hr)

/-! ### Without a count -/
open Classical in
noncomputable def den (Γ : Env) (c : ACode) (s : St) : Option (AExit × St) := if h : ∃ r n, exec Γ n c s = some r then some h.choose else none
theorem den_iff {Γ : Env} {c : ACode} {s : St} {r : AExit × St} : den Γ c s = some r ↔ ∃ n, exec Γ n c s = some r := by
  unfold den
  constructor
  · intro h
    split at h
    · rename_i hx
      simp only [Option.some.injEq] at h
      subst h
      exact hx.choose_spec
    · cases h
  · intro ⟨n, hn⟩
    have hx : ∃ r n, exec Γ n c s = some r := ⟨r, n, hn⟩
    rw [dif_pos hx]
    obtain ⟨m, hm⟩ := hx.choose_spec
    have h1 := exec_le (Nat.le_max_left n m) _ _ _ hn
    have h2 := exec_le (Nat.le_max_right n m) _ _ _ hm
    rw [h1] at h2
    exact h2.symm
theorem exec_den {Γ : Env} (n : Nat) : LeE (exec Γ n) (den Γ) := fun _ _ _ h => den_iff.2 ⟨n, h⟩
noncomputable def cd (Γ : Env) : CT := pureWith Γ (den Γ)
noncomputable def cr (Γ : Env) : CR := callWith Γ (den Γ)
theorem cd_some {Γ : Env} {f : Nat} {a : List AVal} {r : AVal} (h : cd Γ f a = some r) : ∃ n, pureWith Γ (exec Γ n) f a = some r := by
  unfold cd pureWith at h
  split at h
  · rename_i fn hfn
    split at h
    · rename_i hl
      split at h
      · cases h
      · rename_i x s hx1 hx2
        obtain ⟨n, hn⟩ := den_iff.1 hx2
        refine ⟨n, ?_⟩
        unfold pureWith
        simp only [hfn]
        rw [if_pos hl, hn]
        cases x with
        | exit i => exact (hx1 i rfl).elim
        | normal => exact h
        | ret => exact h
      · cases h
    · cases h
  · rename_i hfn
    exact ⟨0, by unfold pureWith; simp only [hfn]; exact h⟩
theorem cr_some {Γ : Env} {f : Nat} {a : List AVal} {m : List (Nat × Blk)} {k : Nat} {r} (h : cr Γ f a m k = some r) : ∃ n, callWith Γ (exec Γ n) f a m k = some r := by
  unfold cr callWith at h
  split at h
  · rename_i fn hfn
    split at h
    · rename_i hl
      split at h
      · cases h
      · rename_i x s hx1 hx2
        obtain ⟨n, hn⟩ := den_iff.1 hx2
        refine ⟨n, ?_⟩
        unfold callWith
        simp only [hfn]
        rw [if_pos hl, hn]
        cases x with
        | exit i => exact (hx1 i rfl).elim
        | normal => exact h
        | ret => exact h
      · cases h
    · cases h
  · cases h
theorem cd_iff {Γ : Env} {f : Nat} {a : List AVal} {r : AVal} : cd Γ f a = some r ↔ PCall Γ f a r :=
  ⟨cd_some, fun ⟨n, h⟩ => pure_mono (exec_den n) _ _ _ h⟩

theorem sem_some {Γ : Env} {rd : Opd → AVal} {m : List (Nat × Blk)} {k : Nat} {x : AOp} {v} (h : sem (cd Γ) (cr Γ) rd m k x = some v) : ∃ n, sem (pureWith Γ (exec Γ n)) (callWith Γ (exec Γ n)) rd m k x = some v := by
  have hq : ∀ (f : Nat) (xs : List Opd), sem (cd Γ) (cr Γ) rd m k (.calq f xs) = some v → ∃ n, sem (pureWith Γ (exec Γ n)) (callWith Γ (exec Γ n)) rd m k (.calq f xs) = some v := by
    intro f xs hy
    simp only [sem] at hy ⊢
    split at hy
    · rename_i u m1 n1 h1
      obtain ⟨n, hn⟩ := cr_some h1
      refine ⟨n, ?_⟩
      rw [hn]
      exact hy
    · cases hy
  cases x <;> first | exact ⟨0, h⟩ | exact hq _ _ h | skip
  · rename_i f args
    simp only [sem, semP] at h
    rw [Option.map_eq_some_iff] at h
    obtain ⟨r, h1, rfl⟩ := h
    split at h1
    · rename_i ha
      rw [Option.map_eq_some_iff] at h1
      obtain ⟨r', h2, rfl⟩ := h1
      obtain ⟨n, hn⟩ := cd_some h2
      exact ⟨n, by simp only [sem, semP]; rw [if_pos ha, hn]; rfl⟩
    · cases h1
  · rename_i f args
    simp only [sem] at h
    split at h
    · rename_i ha
      rw [Option.map_eq_some_iff] at h
      obtain ⟨r', h2, rfl⟩ := h
      obtain ⟨n, hn⟩ := cd_some h2
      exact ⟨n, by simp only [sem]; rw [if_pos ha, hn]; rfl⟩
    · cases h
  · rename_i f args
    simp only [sem] at h
    obtain ⟨n, hn⟩ := cr_some h
    exact ⟨n, by simp only [sem]; exact hn⟩
theorem step_some {Γ : Env} {o : AO} {s s' : St} (h : step (cd Γ) (cr Γ) o s = some s') : ∃ n, step (pureWith Γ (exec Γ n)) (callWith Γ (exec Γ n)) o s = some s' := by
  unfold step at h
  split at h
  · rename_i hw
    rw [Option.map_eq_some_iff] at h
    obtain ⟨r, h1, rfl⟩ := h
    obtain ⟨n, hn⟩ := sem_some h1
    exact ⟨n, by unfold step; rw [hw]; simp only; rw [hn]; rfl⟩
  · rename_i hw; exact ⟨0, by unfold step; rw [hw]; exact h⟩
  · cases h
theorem steps_some {Γ : Env} : ∀ {l : List AO} {s s' : St}, steps (cd Γ) (cr Γ) l s = some s' → ∃ n, steps (pureWith Γ (exec Γ n)) (callWith Γ (exec Γ n)) l s = some s'
  | [], _, _, h => ⟨0, h⟩
  | o :: l, s, s', h => by
    simp only [steps] at h
    split at h
    · rename_i s1 h1
      obtain ⟨n, hn⟩ := step_some h1
      obtain ⟨k, hk⟩ := steps_some h
      refine ⟨max n k, ?_⟩
      have a := exec_le (Γ := Γ) (Nat.le_max_left n k)
      have b := exec_le (Γ := Γ) (Nat.le_max_right n k)
      simp only [steps]
      rw [step_mono (pure_mono a) (call_mono a) hn]
      exact steps_mono (pure_mono b) (call_mono b) hk
    · cases h

/-! ### The equations -/
def bindN (x : Option (AExit × St)) (k : St → Option (AExit × St)) : Option (AExit × St) :=
  match x with
  | some (.normal, s) => k s
  | r => r
def unBlk (id : Nat) (x : Option (AExit × St)) : Option (AExit × St) :=
  match x with
  | some (.exit i, s) => some (if i = id then .normal else .exit i, s)
  | r => r
def ret1 (x : Option St) : Option (AExit × St) := x.map fun s => (.normal, s)
section
variable {Γ : Env} {s : St}
theorem den_skip : den Γ .skip s = some (.normal, s) := den_iff.2 ⟨1, rfl⟩
theorem den_ret : den Γ .ret s = some (.ret, s) := den_iff.2 ⟨1, rfl⟩
theorem den_exit {i : Nat} : den Γ (.exit i) s = some (.exit i, s) := den_iff.2 ⟨1, rfl⟩
theorem den_ops {d} {l : List AO} : den Γ (.ops d l) s = ret1 (steps (cd Γ) (cr Γ) l s) := by
  refine Option.ext fun r => ?_
  rw [den_iff]
  unfold ret1
  constructor
  · intro ⟨n, h⟩
    cases n with
    | zero => simp [exec] at h
    | succ n =>
      rw [exec] at h
      rw [Option.map_eq_some_iff] at h ⊢
      obtain ⟨s', h1, h2⟩ := h
      exact ⟨s', steps_mono (pure_mono (exec_den n)) (call_mono (exec_den n)) h1, h2⟩
  · intro h
    rw [Option.map_eq_some_iff] at h
    obtain ⟨s', h1, h2⟩ := h
    obtain ⟨n, hn⟩ := steps_some h1
    exact ⟨n + 1, by rw [exec, hn]; simp [h2]⟩
theorem den_opsx {bef : List (List Nat)} {bad : List (Nat × Nat)} {l : List AO} : den Γ (.opsx bef bad l) s = ret1 (chkS bad (steps (cd Γ) (cr Γ) l s)) := by
  refine Option.ext fun r => ?_
  rw [den_iff]
  unfold ret1
  constructor
  · intro ⟨n, h⟩
    cases n with
    | zero => simp [exec] at h
    | succ n =>
      rw [exec] at h
      rw [Option.map_eq_some_iff] at h ⊢
      obtain ⟨s', h1, h2⟩ := h
      exact ⟨s', chk_mono (fun t ht => steps_mono (pure_mono (exec_den n)) (call_mono (exec_den n)) ht) h1, h2⟩
  · intro h
    rw [Option.map_eq_some_iff] at h
    obtain ⟨s', h1, h2⟩ := h
    unfold chkS at h1
    split at h1
    · rename_i t ht
      obtain ⟨n, hn⟩ := steps_some ht
      exact ⟨n + 1, by rw [exec, hn]; simp [chkS, h1, h2]⟩
    · cases h1
theorem den_seq {a b : ACode} : den Γ (.seq a b) s = bindN (den Γ a s) (den Γ b) := by
  refine Option.ext fun r => ?_
  rw [den_iff]
  constructor
  · intro ⟨n, h⟩
    cases n with
    | zero => simp [exec] at h
    | succ n =>
      rw [exec] at h
      split at h
      · rename_i s' h1
        rw [den_iff.2 ⟨n, h1⟩]
        exact den_iff.2 ⟨n, h⟩
      · rename_i hn
        rw [den_iff.2 ⟨n, h⟩]
        obtain ⟨e, s'⟩ := r
        cases e with
        | normal => exact (hn s' h).elim
        | exit i => rfl
        | ret => rfl
  · intro h
    unfold bindN at h
    split at h
    · rename_i s' h1
      obtain ⟨n, hn⟩ := den_iff.1 h1
      obtain ⟨k, hk⟩ := den_iff.1 h
      refine ⟨max n k + 1, ?_⟩
      rw [exec, exec_le (Nat.le_max_left n k) _ _ _ hn]
      exact exec_le (Nat.le_max_right n k) _ _ _ hk
    · rename_i hn
      obtain ⟨n, hn'⟩ := den_iff.1 h
      refine ⟨n + 1, ?_⟩
      rw [exec, hn']
      obtain ⟨e, s'⟩ := r
      cases e with
      | normal => exact (hn s' h).elim
      | exit i => rfl
      | ret => rfl
theorem den_cond {c : Opd} {a b : ACode} {t : Bool} (h : ev s.sl c = .bool t) : den Γ (.cond c a b) s = den Γ (if t then a else b) s := by
  refine Option.ext fun r => ?_
  rw [den_iff, den_iff]
  constructor
  · intro ⟨n, hn⟩
    cases n with
    | zero => simp [exec] at hn
    | succ n => rw [exec, h] at hn; exact ⟨n, hn⟩
  · intro ⟨n, hn⟩
    exact ⟨n + 1, by rw [exec, h]; exact hn⟩
theorem den_block {id : Nat} {c : ACode} : den Γ (.block id c) s = unBlk id (den Γ c s) := by
  refine Option.ext fun r => ?_
  rw [den_iff]
  constructor
  · intro ⟨n, h⟩
    cases n with
    | zero => simp [exec] at h
    | succ n =>
      rw [exec] at h
      split at h
      · rename_i i s' h1
        rw [den_iff.2 ⟨n, h1⟩]
        exact h
      · rename_i hn
        rw [den_iff.2 ⟨n, h⟩]
        obtain ⟨e, s'⟩ := r
        cases e with
        | exit i => exact (hn i s' h).elim
        | normal => rfl
        | ret => rfl
  · intro h
    unfold unBlk at h
    split at h
    · rename_i i s' h1
      obtain ⟨n, hn⟩ := den_iff.1 h1
      exact ⟨n + 1, by rw [exec, hn]; exact h⟩
    · rename_i hn
      obtain ⟨n, hn'⟩ := den_iff.1 h
      refine ⟨n + 1, ?_⟩
      rw [exec, hn']
      obtain ⟨e, s'⟩ := r
      cases e with
      | exit i => exact (hn i s' h).elim
      | normal => rfl
      | ret => rfl
theorem den_loop {c : ACode} : den Γ (.loop c) s = bindN (den Γ c s) (den Γ (.loop c)) := by
  refine Option.ext fun r => ?_
  rw [den_iff]
  constructor
  · intro ⟨n, h⟩
    cases n with
    | zero => simp [exec] at h
    | succ n =>
      rw [exec] at h
      split at h
      · rename_i s' h1
        rw [den_iff.2 ⟨n, h1⟩]
        exact den_iff.2 ⟨n, h⟩
      · rename_i hn
        rw [den_iff.2 ⟨n, h⟩]
        obtain ⟨e, s'⟩ := r
        cases e with
        | normal => exact (hn s' h).elim
        | exit i => rfl
        | ret => rfl
  · intro h
    unfold bindN at h
    split at h
    · rename_i s' h1
      obtain ⟨n, hn⟩ := den_iff.1 h1
      obtain ⟨k, hk⟩ := den_iff.1 h
      refine ⟨max n k + 1, ?_⟩
      rw [exec, exec_le (Nat.le_max_left n k) _ _ _ hn]
      exact exec_le (Nat.le_max_right n k) _ _ _ hk
    · rename_i hn
      obtain ⟨n, hn'⟩ := den_iff.1 h
      refine ⟨n + 1, ?_⟩
      rw [exec, hn']
      obtain ⟨e, s'⟩ := r
      cases e with
      | normal => exact (hn s' h).elim
      | exit i => rfl
      | ret => rfl
def gho (x : Option St) (k : St → Option (AExit × St)) : Option (AExit × St) := match x with | some s => k s | none => none
theorem den_ghost {g : Ghost} {c : ACode} : den Γ (.ghost g c) s = gho (ghostS g s) (den Γ c) := by
  refine Option.ext fun r => ?_
  rw [den_iff]
  unfold gho
  constructor
  · intro ⟨n, h⟩
    cases n with
    | zero => simp [exec] at h
    | succ n =>
      rw [exec] at h
      split at h
      · rename_i s' h1; rw [h1]; exact den_iff.2 ⟨n, h⟩
      · cases h
  · intro h
    split at h
    · rename_i s' h1
      obtain ⟨n, hn⟩ := den_iff.1 h
      exact ⟨n + 1, by rw [exec, h1]; exact hn⟩
    · cases h
end
end Go.Proofs.Ytnomicnfgdjdeaa.Ab
