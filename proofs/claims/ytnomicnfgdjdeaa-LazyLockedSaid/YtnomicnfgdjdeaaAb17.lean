/- A law's row out of what the interpreter says of it. Part of a layer that interprets Go code over values. No condition. -/
import Derived.Test.YtnomicnfgdjdeaaAb16
import Derived.ShutString
import Derived.ChangeOld
namespace Go.Proofs.Ytnomicnfgdjdeaa.Ab
open Go.RowKit Go.ChangeShapes Go.WideShapes Go.ChangeAt

/-- What an argument may be: a value of one cell, or a struct or an array. -/
def ValOk (k : Bool × List Cel) (a : AVal) : Prop := if k.1 then ∃ as, a = .agg as ∧ RowOk k.2 as else RowOk k.2 [a]
def ArgsOk : List (Bool × List Cel) → List AVal → Prop
  | [], [] => True
  | k :: ks, a :: as => ValOk k a ∧ ArgsOk ks as
  | _, _ => False
def valB (P : Program) (t : TypeId) (k : Bool × List Cel) : Bool :=
  celB P 20 t k.2 && (match P.underlying t with | some (.struct _) | some (.array _ _) => k.1 | some (.int _) | some .bool | some (.slice _) => !k.1 | _ => false) && P.readableRec t && decide (t < P.types.size)
def valsB (P : Program) : List TypeId → List (Bool × List Cel) → Bool
  | [], [] => true
  | t :: ts, k :: ks => valB P t k && valsB P ts ks
  | _, _ => false
section
variable {H : Type} {enc : TypeId × Value → H} {P : Program}
theorem open_arg {W : World} {t : TypeId} {v : Value} {d : DataW H} {p : List MemPlace} {k : Bool × List Cel} {base : Nat} (hk : valB P t k = true) (h : DataW.Trod enc P W 0 (fun _ => true) true t v d p)
    (hv : Value.okWide P W .any base t v) (hl : Light P t d) : ∃ a, ValOk k a ∧ RepV (Here W) (fun _ => none) W a v := by
  simp only [valB, Bool.and_eq_true] at hk
  obtain ⟨⟨⟨h1, h2⟩, h3⟩, h4⟩ := hk
  obtain ⟨fuel, hf⟩ := h
  obtain ⟨hlen, as, ha, hra⟩ := open_at fuel 20 t _ _ _ hf h1 hl
  have one : ∀ (hu : k.1 = false) (u : Value), v = u → u.cells = #[u] → ∃ a, ValOk k a ∧ RepV (Here W) (fun _ => none) W a v := by
    intro hu u hv hc
    subst hv
    rw [hc] at hlen hra
    have hal := ha.len
    simp only [List.length_cons, List.length_nil] at hlen
    match as, hal with
    | [], h => simp at h; omega
    | [a], _ => exact ⟨a, by unfold ValOk; rw [hu]; exact ha, by simpa using hra 0 a rfl⟩
    | _ :: _ :: _, h => simp at h; omega
  split at h2
  · rename_i fs ht
    simp only [Value.okWide, ht] at hv
    obtain ⟨cs, rfl, hcs, _⟩ := hv
    simp only [Value.cells] at hlen hra
    exact ⟨.agg as, by unfold ValOk; rw [h2]; exact ⟨as, rfl, ha⟩, .agg as cs (by have := ha.len; simp at hlen; omega) (fun x hx => AVal.isCell_of_noRef (ha.noRef x hx)) (fun j x hx => by simpa using hra j x hx)⟩
  · rename_i n e ht
    simp only [Value.okWide, ht] at hv
    obtain ⟨cs, rfl, hcs, _⟩ := hv
    simp only [Value.cells] at hlen hra
    exact ⟨.agg as, by unfold ValOk; rw [h2]; exact ⟨as, rfl, ha⟩, .agg as cs (by have := ha.len; simp at hlen; omega) (fun x hx => AVal.isCell_of_noRef (ha.noRef x hx)) (fun j x hx => by simpa using hra j x hx)⟩
  · rename_i q ht
    obtain ⟨n, rfl⟩ := okWide_int ht hv
    exact one (by simpa using h2) _ rfl rfl
  · rename_i ht
    obtain ⟨n, rfl⟩ := okWide_bool ht hv
    exact one (by simpa using h2) _ rfl rfl
  · rename_i e ht
    obtain ⟨a, l, c, rfl⟩ := okWide_slice ht hv
    exact one (by simpa using h2) _ rfl rfl
  · cases h2
theorem open_args {W : World} {base : Nat} : ∀ {ts : List TypeId} {ks : List (Bool × List Cel)} {vs : List Value} {ds : List (DataW H)} {p : List MemPlace}, valsB P ts ks = true → DataW.TrodAll enc P W 0 (fun _ => true) true ts vs ds p →
    (∀ (j : Nat) t v, ts[j]? = some t → vs[j]? = some v → Value.okWide P W .any base t v) → (DataW.weightsEach P ts ds).all (· ≤ reachBytes) = true →
    vs.length = ts.length ∧ ds.length = ts.length ∧ ∃ as, ArgsOk ks as ∧ as.length = vs.length ∧ ∀ (j : Nat) x, as[j]? = some x → RepV (Here W) (fun _ => none) W x (vs.getD j undef)
  | [], [], [], [], _, _, _, _, _ => ⟨rfl, rfl, [], trivial, rfl, by simp⟩
  | t :: ts, k :: ks, v :: vs, d :: ds, _, hk, ⟨p, q, h1, h2, _⟩, hv, hl => by
    simp only [valsB, Bool.and_eq_true] at hk
    simp only [DataW.weightsEach, List.all_append, Bool.and_eq_true, List.all_eq_true, decide_eq_true_eq] at hl
    obtain ⟨a, a1, a2⟩ := open_arg hk.1 h1 (hv 0 t v rfl rfl) hl.1
    obtain ⟨l1, l2, as, b1, b2, b3⟩ := open_args hk.2 h2 (fun j t v ht hj => hv (j + 1) t v (by simpa using ht) (by simpa using hj)) (by simp only [List.all_eq_true, decide_eq_true_eq]; exact hl.2)
    refine ⟨by simp [l1], by simp [l2], a :: as, ⟨a1, b1⟩, by simp [b2], fun j x hx => ?_⟩
    cases j with
    | zero => simp at hx; subst hx; simpa using a2
    | succ j => simp at hx; simpa using b3 j x hx
  | [], _ :: _, _, _, _, hk, _, _, _ => by simp [valsB] at hk
  | _ :: _, [], _, _, _, hk, _, _, _ => by simp [valsB] at hk
  | [], [], _ :: _, _, _, _, h, _, _ => h.elim
  | [], [], [], _ :: _, _, _, h, _, _ => h.elim
  | _ :: _, _ :: _, [], _, _, _, h, _, _ => h.elim
  | _ :: _, _ :: _, _ :: _, [], _, _, h, _, _ => h.elim
theorem args_behind {W W' : World} (hlo : laidOutB P = true) (hb : Below W.heap.size W W') : ∀ {ts : List TypeId} {ks : List (Bool × List Cel)} {vs : List Value} {ds : List (DataW H)} {p : List MemPlace}, valsB P ts ks = true → DataW.TrodAll enc P W 0 (fun _ => true) true ts vs ds p →
    ∃ p', DataW.TrodAll enc P W' 0 (fun b => decide (b < W.heap.size)) true ts vs ds p'
  | [], [], [], [], _, _, _ => ⟨[], rfl⟩
  | t :: ts, k :: ks, v :: vs, d :: ds, _, hk, ⟨p, q, h1, h2, _⟩ => by
    simp only [valsB, valB, Bool.and_eq_true, decide_eq_true_eq] at hk
    have hlt : ∀ x ∈ p, x.block < W.heap.size := by
      obtain ⟨n, hn⟩ := h1
      exact DataW.trod_lt n _ _ _ hn
    obtain ⟨p', hp'⟩ := args_behind hlo hb hk.2 h2
    exact ⟨p ++ p', p, p', Below.trod hlo hk.1.1.2 hk.1.2 h1 hb hlt, hp', rfl⟩
  | [], _ :: _, _, _, _, hk, _ => by simp [valsB] at hk
  | _ :: _, [], _, _, _, hk, _ => by simp [valsB] at hk
  | [], [], _ :: _, _, _, _, h => h.elim
  | [], [], [], _ :: _, _, _, h => h.elim
  | _ :: _, _ :: _, [], _, _, _, h => h.elim
  | _ :: _, _ :: _, _ :: _, [], _, _, h => h.elim
/-- The row: where the interpreter answers true, whatever the arguments. -/
theorem law_lifted {C : Checked} {Γ : Env} (hΓ : EnvOk C.prog Γ) {os : Os} {f : FuncId} {fn : Func} {s : ChangeSpec} {dom : List PathCond} {ks : List (Bool × List Cel)} {tb : TypeId}
    (own : ownKnob C.prog.godebug = none) (started : os.Started) (noInit : C.prog.inits.idxOf? f = none) (hfn : C.prog.funcs[f]? = some fn) (hlo : laidOutB C.prog = true)
    (hks : valsB C.prog fn.params.toList ks = true) (hres : fn.resultTypes = #[tb]) (htb : C.prog.underlying tb = some .bool) (hvars : s.vars = [])
    (hs : ∀ ds : List (DataW H), ds.length = fn.params.toList.length → s.fn H ds = { results := [.lit (.bool true)], args := ds })
    (witness : ∃ (w : World) (tape : Tape) (i : Input), w.os = os ∧ (w.forCall tape i).Shaped C.prog ∧ i.vars = [] ∧ Input.okWide C.prog (w.forCall tape i) .any w.heap.size f i ∧
      s.pre6 enc C.prog fn dom false (w.forCall tape i).memory i.args ∧ ({} : Assume).holds C.prog (lone (Frame.enter C.prog f i.args .normal) [] (w.forCall tape i)))
    (hcd : ∀ as, ArgsOk ks as → cd Γ f as = some (.bool true)) :
    ReturnsInHanded {} C os f .any (s.pre6 enc C.prog fn dom false) (s.post enc C.prog fn false true false false) := by
  refine returnsInHanded_of_change_sized (C := C) own started noInit hfn witness ?_
  intro W base args ds gs before hval hW hcnd hsz _
  have hW' := hW
  obtain ⟨p, q, hA, hV, rfl, hfz, hnd⟩ := hW
  rw [hvars] at hV hW'
  have hvt : s.plain.varTypes C.prog = [] := by simp [ChangeSpec.plain, DataSpec.varTypes, hvars]
  obtain ⟨rfl, rfl⟩ := trodVars_none hV
  rw [hvt, List.append_nil, List.append_nil] at hsz
  obtain ⟨l1, l2, as, a1, a2, a3⟩ := open_args hks hA (fun j t v ht hv => hval j t v (by simpa using ht) (by simpa using hv)) hsz
  refine (PCall.spec hΓ (cd_iff.1 (hcd as a1)) (Here W) W args (fun _ h => h) (by simpa using a2.symm) (fun j x hx => by simpa using a3 j x hx)).mono fun e W' ⟨v, he, hret⟩ => ?_
  obtain ⟨I', reps, hev, hcomp⟩ := hret
  obtain ⟨_, hrep⟩ := hcomp
  cases hrep
  have bel := hev.below
  obtain ⟨p', hp'⟩ := args_behind hlo bel hks hA
  refine ⟨_, he, ds, [], p ++ [], [], p', [], hvars ▸ hW', ?_, ?_, ?_, bel.frame _, fun h => by cases h⟩
  · rw [List.append_nil, hs ds (by simpa using l2), hres]
    exact trodAll_mk1 (shut_bool htb true)
  · rw [List.append_nil, hs ds (by simpa using l2)]
    exact hp'
  · rw [List.append_nil, hs ds (by simpa using l2), hvars]
    exact rfl
end
end Go.Proofs.Ytnomicnfgdjdeaa.Ab
