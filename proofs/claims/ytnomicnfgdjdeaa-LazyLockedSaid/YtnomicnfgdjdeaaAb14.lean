/- The rules by which simp computes what the interpreter comes to. Part of a layer that interprets Go code over values. No condition. -/
import Derived.Test.YtnomicnfgdjdeaaAb13
namespace Go.Proofs.Ytnomicnfgdjdeaa.Ab
open Go.RowKit

section
variable {Γ : Env} {s : St} {k : St → Option (AExit × St)}
noncomputable def denIf (Γ : Env) (v : AVal) (a b : ACode) (s : St) : Option (AExit × St) :=
  match v with
  | .bool true => den Γ a s
  | .bool false => den Γ b s
  | _ => none
theorem den_condS {c : Opd} {a b : ACode} : den Γ (.cond c a b) s = denIf Γ (ev s.sl c) a b s := by
  cases h : ev s.sl c with
  | bool t => rw [den_cond h]; cases t <;> rfl
  | _ =>
    refine Option.ext fun r => ?_
    rw [den_iff]
    constructor
    · intro ⟨n, hn⟩
      cases n with
      | zero => simp [exec] at hn
      | succ n => simp [exec, h] at hn
    · intro hr; cases hr
theorem denIf_t {a b : ACode} : denIf Γ (.bool true) a b s = den Γ a s := rfl
theorem denIf_f {a b : ACode} : denIf Γ (.bool false) a b s = den Γ b s := rfl
theorem denIf_any {t : Bool} {a b : ACode} : denIf Γ (.bool t) a b s = if t = true then den Γ a s else den Γ b s := by cases t <;> rfl
theorem bindN_n : bindN (some (.normal, s)) k = k s := rfl
theorem bindN_r : bindN (some (.ret, s)) k = some (.ret, s) := rfl
theorem bindN_e {i : Nat} : bindN (some (.exit i, s)) k = some (.exit i, s) := rfl
theorem wrapI {k : IntKind} {a b : Int} (h : a = b) : AVal.int k a = .int k b := by rw [h]
theorem bindN_if {c : Prop} [Decidable c] {x y : Option (AExit × St)} : bindN (if c then x else y) k = if c then bindN x k else bindN y k := by split <;> rfl
theorem unBlk_n {id : Nat} : unBlk id (some (.normal, s)) = some (.normal, s) := rfl
theorem unBlk_r {id : Nat} : unBlk id (some (.ret, s)) = some (.ret, s) := rfl
theorem unBlk_e {id i : Nat} : unBlk id (some (.exit i, s)) = some (if i = id then .normal else .exit i, s) := rfl
theorem ret1_s : ret1 (some s) = some (.normal, s) := rfl
theorem gho_s : gho (some s) k = k s := rfl
end
/-! ### Calls -/
def finP (res : List ARes) (x : Option (AExit × St)) : Option AVal :=
  match x with
  | some (.exit _, _) => none
  | some (_, s) => match resVs s res with
    | some vs => if apart vs then (outs s.mem vs).map tupV else none
    | none => none
  | none => none
theorem cd_fn {Γ : Env} {f : Nat} {args : List AVal} {fn : AFn} (h : Γ.fn f = some fn) (hl : args.length = fn.np) : cd Γ f args = finP fn.res (den Γ fn.body ⟨argSlots 0 args, [], 0, true⟩) := by
  unfold cd pureWith finP
  rw [h]
  simp only [hl, if_true]
  rfl
theorem cd_ext {Γ : Env} {f : Nat} {args : List AVal} (h : Γ.fn f = none) : cd Γ f args = Γ.ext f args := by
  unfold cd pureWith
  rw [h]
def finR (res : List ARes) (x : Option (AExit × St)) : Option (AVal × List (Nat × Blk) × Nat) :=
  match x with
  | some (.exit _, _) => none
  | some (_, s) => (resVs s res).map fun vs => (tupV vs, s.mem, s.nx)
  | none => none
theorem cr_fn {Γ : Env} {f : Nat} {args : List AVal} {m : List (Nat × Blk)} {nx : Nat} {fn : AFn} (h : Γ.fn f = some fn) (hl : args.length = fn.np) : cr Γ f args m nx = finR fn.res (den Γ fn.body ⟨argSlots 0 args, m, nx, false⟩) := by
  unfold cr callWith finR
  rw [h]
  simp only [hl, if_true]
  rfl
section
variable {s : St} {res : List ARes}
def outP (mem : List (Nat × Blk)) (vs : Option (List AVal)) : Option AVal := match vs with | some vs => if apart vs then (outs mem vs).map tupV else none | none => none
theorem finP_n : finP res (some (.normal, s)) = outP s.mem (resVs s res) := rfl
theorem finP_r : finP res (some (.ret, s)) = outP s.mem (resVs s res) := rfl
theorem finP_if {c : Prop} [Decidable c] {x y : Option (AExit × St)} : finP res (if c then x else y) = if c then finP res x else finP res y := by split <;> rfl
theorem outP_s {m : List (Nat × Blk)} {vs : List AVal} : outP m (some vs) = if apart vs then (outs m vs).map tupV else none := rfl
theorem finR_n : finR res (some (.normal, s)) = (resVs s res).map fun vs => (tupV vs, s.mem, s.nx) := rfl
theorem finR_r : finR res (some (.ret, s)) = (resVs s res).map fun vs => (tupV vs, s.mem, s.nx) := rfl
end
def consO (x : Option AVal) (y : Option (List AVal)) : Option (List AVal) := match x, y with | some v, some vs => some (v :: vs) | _, _ => none
theorem consO_s {v : AVal} {vs : List AVal} : consO (some v) (some vs) = some (v :: vs) := rfl
theorem resVs_nil {s : St} : resVs s [] = some [] := rfl
theorem resVs_cons {s : St} {r : ARes} {l : List ARes} : resVs s (r :: l) = consO (resV s r) (resVs s l) := rfl
theorem resV_t {s : St} {n : Nat} : resV s (.t n) = some (lk s.sl n) := rfl
def cellV (mem : List (Nat × Blk)) (v : AVal) (agg : Bool) (k : Nat) : Option AVal := match v with
  | .ptr b e j => match mg mem b with
    | some B => match B.es[e]? with | some cs => pack agg k (cs.drop j) | none => none
    | none => none
  | _ => none
theorem resV_c {s : St} {n : Nat} {agg : Bool} {k : Nat} : resV s (.cell n agg k) = cellV s.mem (lk s.sl n) agg k := rfl
theorem outs_nil {m : List (Nat × Blk)} : outs m [] = some [] := rfl
theorem outs_cons {m : List (Nat × Blk)} {v : AVal} {l : List AVal} : outs m (v :: l) = consO (out1 m v) (outs m l) := rfl
/-! ### Ghosts -/
def renD (sl : List (Nat × AVal)) (mem : List (Nat × Blk)) (slots : List Nat) (ids : Option (List Nat)) : Option St := match ids with
  | some ids => match blksOf mem 0 ids with
    | some m => some ⟨slots.map fun t => (t, renV ids (lk sl t)), m, ids.length, true⟩
    | none => none
  | none => none
theorem ghost_ren {sl : List (Nat × AVal)} {mem : List (Nat × Blk)} {nx : Nat} {a b : List Nat} : ghostS (.renum a b) ⟨sl, mem, nx, true⟩ = renD sl mem a (refsOf sl b) := rfl
def renE (sl : List (Nat × AVal)) (slots : List Nat) (ids : List Nat) (m : Option (List (Nat × Blk))) : Option St := match m with
  | some m => some ⟨slots.map fun t => (t, renV ids (lk sl t)), m, ids.length, true⟩
  | none => none
theorem renD_s {sl : List (Nat × AVal)} {mem : List (Nat × Blk)} {slots : List Nat} {ids : List Nat} : renD sl mem slots (some ids) = renE sl slots ids (blksOf mem 0 ids) := rfl
theorem renE_s {sl : List (Nat × AVal)} {slots : List Nat} {ids : List Nat} {m : List (Nat × Blk)} : renE sl slots ids (some m) = some ⟨slots.map fun t => (t, renV ids (lk sl t)), m, ids.length, true⟩ := rfl
def consR (x : Option Nat) (y : Option (List Nat)) : Option (List Nat) := match x, y with | some b, some r => if r.contains b then none else some (b :: r) | _, _ => none
theorem consR_s {b : Nat} {r : List Nat} : consR (some b) (some r) = if r.contains b then none else some (b :: r) := rfl
theorem refsOf_nil {sl : List (Nat × AVal)} : refsOf sl [] = some [] := rfl
theorem refsOf_cons {sl : List (Nat × AVal)} {t : Nat} {l : List Nat} : refsOf sl (t :: l) = consR (refOf (lk sl t)) (refsOf sl l) := rfl
theorem refOf_v {b : Nat} : refOf (.vec b) = some b := rfl
theorem refOf_p {b e j : Nat} : refOf (.ptr b e j) = some b := rfl
def consB (i : Nat) (x : Option Blk) (y : Option (List (Nat × Blk))) : Option (List (Nat × Blk)) := match x, y with | some B, some r => if noRefE B.es then some ((i, B) :: r) else none | _, _ => none
theorem consB_s {i : Nat} {B : Blk} {r : List (Nat × Blk)} : consB i (some B) (some r) = if noRefE B.es then some ((i, B) :: r) else none := rfl
theorem blksOf_nil {m : List (Nat × Blk)} {i : Nat} : blksOf m i [] = some [] := rfl
theorem blksOf_cons {m : List (Nat × Blk)} {i b : Nat} {l : List Nat} : blksOf m i (b :: l) = consB i (mg m b) (blksOf m (i + 1) l) := rfl
theorem ghost_keep {sl : List (Nat × AVal)} {mem : List (Nat × Blk)} {nx : Nat} {pr : Bool} {a : List Nat} : ghostS (.keep a) ⟨sl, mem, nx, pr⟩ = some ⟨a.map fun t => (t, lk sl t), mem, nx, pr⟩ := rfl
def frzD (sl : List (Nat × AVal)) (mem : List (Nat × Blk)) (nx : Nat) (pr : Bool) (t : Nat) (v : AVal) : Option St := match v with
  | .vec b => match mg mem b with
    | some B => if noRefE B.es then some ⟨(t, .list B.sz B.es) :: sl, md mem b, nx, pr⟩ else none
    | none => none
  | _ => none
theorem ghost_frz {sl : List (Nat × AVal)} {mem : List (Nat × Blk)} {nx : Nat} {pr : Bool} {t : Nat} : ghostS (.frz t) ⟨sl, mem, nx, pr⟩ = frzD sl mem nx pr t (lk sl t) := rfl
def frzE (sl : List (Nat × AVal)) (mem : List (Nat × Blk)) (nx : Nat) (pr : Bool) (t b : Nat) (B : Option Blk) : Option St := match B with
  | some B => if noRefE B.es then some ⟨(t, .list B.sz B.es) :: sl, md mem b, nx, pr⟩ else none
  | none => none
theorem frzD_v {sl : List (Nat × AVal)} {mem : List (Nat × Blk)} {nx : Nat} {pr : Bool} {t b : Nat} : frzD sl mem nx pr t (.vec b) = frzE sl mem nx pr t b (mg mem b) := rfl
theorem frzE_s {sl : List (Nat × AVal)} {mem : List (Nat × Blk)} {nx : Nat} {pr : Bool} {t b : Nat} {B : Blk} : frzE sl mem nx pr t b (some B) = if noRefE B.es then some ⟨(t, .list B.sz B.es) :: sl, md mem b, nx, pr⟩ else none := rfl
theorem renV_vec {ids : List Nat} {b : Nat} : renV ids (.vec b) = match ixOf ids b with | some i => .vec i | none => .any := rfl
theorem renV_ptr {ids : List Nat} {b e j : Nat} : renV ids (.ptr b e j) = match ixOf ids b with | some i => .ptr i e j | none => .any := rfl
theorem renV_int {ids : List Nat} {k : IntKind} {n : Int} : renV ids (.int k n) = .int k n := rfl
theorem renV_bool {ids : List Nat} {b : Bool} : renV ids (.bool b) = .bool b := rfl
theorem renV_list {ids : List Nat} {n : Nat} {es : List (List AVal)} : renV ids (.list n es) = .list n es := rfl
theorem renV_fptr {ids : List Nat} {cs : List AVal} : renV ids (.fptr cs) = .fptr cs := rfl
theorem renV_agg {ids : List Nat} {cs : List AVal} : renV ids (.agg cs) = if cs.all AVal.noRef then .agg cs else .any := rfl
theorem renV_any {ids : List Nat} : renV ids .any = .any := rfl

/-! ### Operations -/
section
variable {c : CT} {d : CR}
def nxt (c : CT) (d : CR) (o : Option Nat) (l : List AO) (sl : List (Nat × AVal)) (pr : Bool) : Option (AVal × List (Nat × Blk) × Nat) → Option St
  | some (v, m, n) => steps c d l ⟨putS o v sl, m, n, pr⟩
  | none => none
theorem nxt_s {o : Option Nat} {l : List AO} {sl : List (Nat × AVal)} {pr : Bool} {v : AVal} {m : List (Nat × Blk)} {n : Nat} : nxt c d o l sl pr (some (v, m, n)) = steps c d l ⟨putS o v sl, m, n, pr⟩ := rfl
theorem steps_nil {s : St} : steps c d [] s = some s := rfl
theorem steps_go {o : Option Nat} {op : AOp} {l : List AO} {sl : List (Nat × AVal)} {m : List (Nat × Blk)} {n : Nat} {pr : Bool} :
    steps c d (⟨o, none, op⟩ :: l) ⟨sl, m, n, pr⟩ = nxt c d o l sl pr (sem c d (ev sl) m n op) := by
  simp only [steps, step, wantS, nxt]
  cases sem c d (ev sl) m n op <;> rfl
def isB (v : AVal) (b : Bool) : Bool := match v with | .bool c => decide (c = b) | _ => false
def skipsB (v : AVal) : Bool := match v with | .bool _ => true | .tup [] => true | _ => false
theorem isB_b {b c : Bool} : isB (.bool c) b = decide (c = b) := rfl
theorem isB_u {b : Bool} : isB (.tup []) b = false := rfl
theorem skips_b {b : Bool} : skipsB (.bool b) = true := rfl
theorem skips_u : skipsB (.tup []) = true := rfl
theorem steps_guard {o : Option Nat} {t : Nat} {b : Bool} {op : AOp} {l : List AO} {sl : List (Nat × AVal)} {m : List (Nat × Blk)} {n : Nat} {pr : Bool} :
    steps c d (⟨o, some (t, b), op⟩ :: l) ⟨sl, m, n, pr⟩ = if isB (lk sl t) b = true then nxt c d o l sl pr (sem c d (ev sl) m n op) else if skipsB (lk sl t) = true then steps c d l ⟨putS o (.tup []) sl, m, n, pr⟩ else none := by
  simp only [steps, step, wantS, nxt]
  cases lk sl t with
  | bool q =>
    cases q <;> cases b <;> simp [skipsB, isB] <;> cases sem c d (ev sl) m n op <;> rfl
  | tup vs => cases vs <;> simp [skipsB, isB]
  | _ => simp [skipsB, isB]
theorem putS_s {i : Nat} {v : AVal} {sl : List (Nat × AVal)} : putS (some i) v sl = (i, v) :: sl := rfl
theorem putS_n {v : AVal} {sl : List (Nat × AVal)} : putS none v sl = sl := rfl
theorem lk_cons {i t : Nat} {v : AVal} {sl : List (Nat × AVal)} : lk ((i, v) :: sl) t = if i = t then v else lk sl t := rfl
theorem mg_cons {i t : Nat} {v : Blk} {sl : List (Nat × Blk)} : mg ((i, v) :: sl) t = if i = t then some v else mg sl t := rfl
theorem ms_cons {i t : Nat} {v x : Blk} {sl : List (Nat × Blk)} : ms ((i, v) :: sl) t x = if i = t then (i, x) :: sl else (i, v) :: ms sl t x := rfl
theorem md_cons {i t : Nat} {v : Blk} {sl : List (Nat × Blk)} : md ((i, v) :: sl) t = if i = t then md sl t else (i, v) :: md sl t := rfl
theorem md_nil {t : Nat} : md [] t = [] := rfl
theorem ev_t {sl : List (Nat × AVal)} {n : Nat} : ev sl (.t n) = lk sl n := rfl
theorem ev_c {sl : List (Nat × AVal)} {v : AVal} : ev sl (.c v) = v := rfl
theorem ev_f {sl : List (Nat × AVal)} {f : Nat} : ev sl (.f f) = .func f [] := rfl
def P1 (m : List (Nat × Blk)) (n : Nat) (o : Option AVal) : Option (AVal × List (Nat × Blk) × Nat) := o.map fun v => (v, m, n)
theorem P1_s {m : List (Nat × Blk)} {n : Nat} {v : AVal} : P1 m n (some v) = some (v, m, n) := rfl
theorem P1_if {m : List (Nat × Blk)} {n : Nat} {p : Prop} [Decidable p] {x y : Option AVal} : P1 m n (if p then x else y) = if p then P1 m n x else P1 m n y := by split <;> rfl
variable {rd : Opd → AVal} {m : List (Nat × Blk)} {n : Nat}
theorem sem_mov {x : Opd} : sem c d rd m n (.mov x) = some (rd x, m, n) := rfl
def pickS (x a b : AVal) : Option AVal := match x with | .bool t => some (if t then a else b) | _ => none
theorem sem_pick {x a b : Opd} : sem c d rd m n (.pick x a b) = P1 m n (pickS (rd x) (rd a) (rd b)) := rfl
theorem pickS_b {t : Bool} {a b : AVal} : pickS (.bool t) a b = some (if t then a else b) := rfl
def extS (x : AVal) (i : Nat) : Option AVal := match x with | .tup vs => vs[i]? | _ => none
theorem sem_ext {x : Opd} {i : Nat} : sem c d rd m n (.ext x i) = P1 m n (extS (rd x) i) := rfl
theorem extS_t {vs : List AVal} {i : Nat} : extS (.tup vs) i = vs[i]? := rfl
theorem sem_bin {o : BinOp} {x y : Opd} : sem c d rd m n (.bin o x y) = P1 m n (binS o (rd x) (rd y)) := rfl
theorem binS_i {o : BinOp} {k : IntKind} {a b : Int} : binS o (.int k a) (.int k b) = intOp o k a b := by simp [binS]
theorem io_add {k : IntKind} {a b : Int} : intOp .add k a b = some (.int k (k.wrap (a + b))) := rfl
theorem io_sub {k : IntKind} {a b : Int} : intOp .sub k a b = some (.int k (k.wrap (a - b))) := rfl
theorem io_mul {k : IntKind} {a b : Int} : intOp .mul k a b = some (.int k (k.wrap (a * b))) := rfl
theorem io_quo {k : IntKind} {a b : Int} : intOp .quo k a b = if b = 0 then none else some (.int k (k.wrap (a.tdiv b))) := rfl
theorem io_rem {k : IntKind} {a b : Int} : intOp .rem k a b = if b = 0 then none else some (.int k (a.tmod b)) := rfl
theorem io_eql {k : IntKind} {a b : Int} : intOp .eql k a b = some (.bool (decide (a = b))) := by simp [intOp]; rfl
theorem io_neq {k : IntKind} {a b : Int} : intOp .neq k a b = some (.bool (!decide (a = b))) := by simp [intOp, bne]; rfl
theorem io_lss {k : IntKind} {a b : Int} : intOp .lss k a b = some (.bool (decide (a < b))) := rfl
theorem io_leq {k : IntKind} {a b : Int} : intOp .leq k a b = some (.bool (decide (a ≤ b))) := rfl
theorem io_gtr {k : IntKind} {a b : Int} : intOp .gtr k a b = some (.bool (decide (b < a))) := rfl
theorem io_geq {k : IntKind} {a b : Int} : intOp .geq k a b = some (.bool (decide (b ≤ a))) := rfl
theorem sem_eqb {ne : Bool} {x y : Opd} : sem c d rd m n (.eqb ne x y) = P1 m n (eqbS ne (rd x) (rd y)) := rfl
theorem eqbS_b {ne a b : Bool} : eqbS ne (.bool a) (.bool b) = some (.bool (if ne then !(a == b) else a == b)) := rfl
theorem sem_eqs {ne : Bool} {ks : List Bool} {x y : Opd} : sem c d rd m n (.eqs ne ks x y) = P1 m n (eqsS ne ks (rd x) (rd y)) := rfl
def eqR (ne : Bool) (x : Option Bool) : Option AVal := match x with | some r => some (.bool (if ne then !r else r)) | none => none
theorem eqR_s {ne r : Bool} : eqR ne (some r) = some (.bool (if ne then !r else r)) := rfl
theorem eqsS_a {ne : Bool} {ks : List Bool} {a b : List AVal} : eqsS ne ks (.agg a) (.agg b) = eqR ne (eqK ks a b) := rfl
def andO (x y : Option Bool) : Option Bool := match x, y with | some p, some q => some (p && q) | _, _ => none
theorem andO_s {p q : Bool} : andO (some p) (some q) = some (p && q) := rfl
theorem eqK_nil : eqK [] [] [] = some true := rfl
theorem eqK_i {ks : List Bool} {a b : List AVal} {k : IntKind} {x y : Int} : eqK (false :: ks) (.int k x :: a) (.int k y :: b) = andO (some (decide (x = y))) (eqK ks a b) := by simp only [eqK, eqC1, if_true]; rfl
theorem eqK_b {ks : List Bool} {a b : List AVal} {x y : Bool} : eqK (true :: ks) (.bool x :: a) (.bool y :: b) = andO (some (decide (x = y))) (eqK ks a b) := rfl
def notS (x : AVal) : Option AVal := match x with | .bool b => some (.bool (!b)) | _ => none
theorem sem_not {x : Opd} : sem c d rd m n (.notb x) = P1 m n (notS (rd x)) := rfl
theorem notS_b {b : Bool} : notS (.bool b) = some (.bool (!b)) := rfl
def negS (x : AVal) : Option AVal := match x with | .int k n => some (.int k (k.wrap (0 - n))) | _ => none
theorem sem_neg {x : Opd} : sem c d rd m n (.neg x) = P1 m n (negS (rd x)) := rfl
theorem negS_i {k : IntKind} {a : Int} : negS (.int k a) = some (.int k (k.wrap (-a))) := by simp [negS]
def aggO (x : Option (List AVal)) : Option AVal := x.map .agg
theorem aggO_s {l : List AVal} : aggO (some l) = some (.agg l) := rfl
theorem sem_build {z : List AVal} {ps : List (Nat × Nat × Opd)} : sem c d rd m n (.build z ps) = P1 m n (aggO (fillA z (ps.map fun p => (p.1, p.2.1, rd p.2.2)))) := rfl
theorem fillA_nil {cells : List AVal} : fillA cells [] = some cells := rfl
theorem fillA_cons {cells : List AVal} {off sz : Nat} {v : AVal} {r : List (Nat × Nat × AVal)} {cs : List AVal} (h : v.cells? = some cs) (h1 : cs.length = sz) (h2 : off + sz ≤ cells.length) :
    fillA cells ((off, sz, v) :: r) = fillA (cells.take off ++ cs ++ cells.drop (off + sz)) r := by simp [fillA, h, h1, h2]
def fillA1 (cells : List AVal) (off sz : Nat) (v : Option (List AVal)) (r : List (Nat × Nat × AVal)) : Option (List AVal) :=
  match v with
  | some cs => if cs.length = sz ∧ off + sz ≤ cells.length then fillA (cells.take off ++ cs ++ cells.drop (off + sz)) r else none
  | none => none
theorem fillA_c {cells : List AVal} {off sz : Nat} {v : AVal} {r : List (Nat × Nat × AVal)} : fillA cells ((off, sz, v) :: r) = fillA1 cells off sz v.cells? r := rfl
theorem fillA1_s {cells : List AVal} {off sz : Nat} {cs : List AVal} {r : List (Nat × Nat × AVal)} : fillA1 cells off sz (some cs) r = if cs.length = sz ∧ off + sz ≤ cells.length then fillA (cells.take off ++ cs ++ cells.drop (off + sz)) r else none := rfl
def fillE1 (sz : Nat) (es : List (List AVal)) (i : Nat) (v : Option (List AVal)) (r : List (Nat × AVal)) : Option (List (List AVal)) :=
  match v with
  | some cs => if cs.length = sz ∧ i < es.length then fillE sz (es.set i cs) r else none
  | none => none
theorem fillE_nil {sz : Nat} {es : List (List AVal)} : fillE sz es [] = some es := rfl
theorem fillE_c {sz : Nat} {es : List (List AVal)} {i : Nat} {v : AVal} {r : List (Nat × AVal)} : fillE sz es ((i, v) :: r) = fillE1 sz es i v.cells? r := rfl
theorem fillE1_s {sz : Nat} {es : List (List AVal)} {i : Nat} {cs : List AVal} {r : List (Nat × AVal)} : fillE1 sz es i (some cs) r = if cs.length = sz ∧ i < es.length then fillE sz (es.set i cs) r else none := rfl
theorem cells_i {k : IntKind} {a : Int} : AVal.cells? (.int k a) = some [.int k a] := rfl
theorem cells_b {b : Bool} : AVal.cells? (.bool b) = some [.bool b] := rfl
theorem cells_l {k : Nat} {es : List (List AVal)} : AVal.cells? (.list k es) = some [.list k es] := rfl
theorem cells_p {b e j : Nat} : AVal.cells? (.ptr b e j) = some [.ptr b e j] := rfl
theorem cells_n : AVal.cells? .nilp = some [.nilp] := rfl
theorem cells_f {cs : List AVal} : AVal.cells? (.fptr cs) = some [.fptr cs] := rfl
theorem cells_v {b : Nat} : AVal.cells? (.vec b) = some [.vec b] := rfl
theorem cells_a {cs : List AVal} : AVal.cells? (.agg cs) = some cs := rfl
def listO (sz : Nat) (x : Option (List (List AVal))) : Option AVal := match x with | some es => if noRefE es then some (.list sz es) else none | none => none
theorem listO_s {sz : Nat} {es : List (List AVal)} : listO sz (some es) = if noRefE es then some (.list sz es) else none := rfl
theorem sem_bsl {sz : Nat} {z : List AVal} {len : Nat} {ps : List (Nat × Opd)} : sem c d rd m n (.bsl sz z len ps) = P1 m n (listO sz (fillE sz (List.replicate len z) (ps.map fun p => (p.1, rd p.2)))) := rfl
def mklS (bytes : Nat) (zero : List AVal) (x : AVal) : Option AVal := match x with
    | .int .i64 n => if 0 ≤ n ∧ bytes * n ≤ 281474976710656 then some (.list zero.length (List.replicate n.toNat zero)) else none
    | _ => none
theorem sem_mkl {bytes : Nat} {zero : List AVal} {x : Opd} : sem c d rd m n (.mkl bytes zero x) = P1 m n (mklS bytes zero (rd x)) := rfl
theorem mklS_i {bytes : Nat} {zero : List AVal} {a : Int} : mklS bytes zero (.int .i64 a) = if 0 ≤ a ∧ bytes * a ≤ 281474976710656 then some (.list zero.length (List.replicate a.toNat zero)) else none := rfl
def lenS (x : AVal) : Option AVal := match x with | .list _ es => some (.int .i64 es.length) | _ => none
theorem sem_len {x : Opd} : sem c d rd m n (.len x) = P1 m n (lenS (rd x)) := rfl
theorem lenS_l {sz : Nat} {es : List (List AVal)} : lenS (.list sz es) = some (.int .i64 es.length) := rfl
def minS (x y : AVal) : Option AVal := match x, y with | .int k a, .int l b => if k = l then some (.int k (if b < a then b else a)) else none | _, _ => none
def maxS (x y : AVal) : Option AVal := match x, y with | .int k a, .int l b => if k = l then some (.int k (if b > a then b else a)) else none | _, _ => none
theorem sem_min {x y : Opd} : sem c d rd m n (.min2 x y) = P1 m n (minS (rd x) (rd y)) := rfl
theorem sem_max {x y : Opd} : sem c d rd m n (.max2 x y) = P1 m n (maxS (rd x) (rd y)) := rfl
theorem minS_i {k : IntKind} {a b : Int} : minS (.int k a) (.int k b) = some (.int k (min a b)) := by
  simp only [minS, if_true, Option.some.injEq, AVal.int.injEq, true_and]
  split <;> omega
theorem maxS_i {k : IntKind} {a b : Int} : maxS (.int k a) (.int k b) = some (.int k (max a b)) := by
  simp only [maxS, if_true, Option.some.injEq, AVal.int.injEq, true_and]
  split <;> omega
def slfS (sz : Nat) (x : AVal) (lo hi : Option AVal) : Option AVal := match x with
    | .list sz' es =>
      if sz' = sz then match (match hi with | none => some es.length | some v => match v with | .int _ n => if 0 ≤ n ∧ n ≤ es.length then some n.toNat else none | _ => none) with
      | some h => match (match lo with | none => some 0 | some v => match v with | .int _ n => if 0 ≤ n ∧ n ≤ h then some n.toNat else none | _ => none) with
        | some l => some (.list sz ((es.take h).drop l))
        | none => none
      | none => none
      else none
    | _ => none
theorem sem_slf {sz : Nat} {x : Opd} {lo hi : Option Opd} : sem c d rd m n (.slf sz x lo hi) = P1 m n (slfS sz (rd x) (lo.map rd) (hi.map rd)) := by
  cases lo <;> cases hi <;> rfl
theorem slfS_n {sz : Nat} {es : List (List AVal)} : slfS sz (.list sz es) none none = some (.list sz es) := by simp [slfS]
theorem slfS_h {sz : Nat} {es : List (List AVal)} {k : IntKind} {a : Int} : slfS sz (.list sz es) none (some (.int k a)) = if 0 ≤ a ∧ a ≤ es.length then some (.list sz (es.take a.toNat)) else none := by
  simp only [slfS, if_true]
  split <;> simp_all
theorem slfS_l {sz : Nat} {es : List (List AVal)} {k : IntKind} {a : Int} : slfS sz (.list sz es) (some (.int k a)) none = if 0 ≤ a ∧ a ≤ es.length then some (.list sz (es.drop a.toNat)) else none := by
  simp only [slfS, if_true, List.take_length]
  split <;> simp_all
theorem slfS_lh {sz : Nat} {es : List (List AVal)} {k k' : IntKind} {a b : Int} : slfS sz (.list sz es) (some (.int k a)) (some (.int k' b)) = if 0 ≤ a ∧ a ≤ b ∧ b ≤ es.length then some (.list sz ((es.take b.toNat).drop a.toNat)) else none := by
  simp only [slfS, if_true]
  by_cases h1 : 0 ≤ b ∧ b ≤ es.length
  · rw [if_pos h1]
    simp only
    by_cases h2 : 0 ≤ a ∧ a ≤ (b.toNat : Int)
    · rw [if_pos h2, if_pos (by omega)]
    · rw [if_neg h2, if_neg (by omega)]
  · rw [if_neg h1]
    simp only
    rw [if_neg (by omega)]
def ixfS (sz : Nat) (x i : AVal) : Option AVal := match x, i with
    | .list sz' es, .int _ n => if sz' = sz ∧ 0 ≤ n then (match es[n.toNat]? with | some e => some (.fptr e) | none => none) else none
    | _, _ => none
theorem sem_ixf {sz : Nat} {x i : Opd} : sem c d rd m n (.ixf sz x i) = P1 m n (ixfS sz (rd x) (rd i)) := rfl
theorem ixfS_l {sz : Nat} {es : List (List AVal)} {k : IntKind} {a : Int} : ixfS sz (.list sz es) (.int k a) = if 0 ≤ a then (es[a.toNat]?).map .fptr else none := by
  simp only [ixfS, true_and]
  split
  · cases es[a.toNat]? <;> rfl
  · rfl
def fadS (x : AVal) (off : Nat) : Option AVal := match x with
    | .fptr cs => some (.fptr (cs.drop off))
    | .ptr b e j => some (.ptr b e (j + off))
    | _ => none
theorem sem_fad {x : Opd} {off : Nat} : sem c d rd m n (.fad x off) = P1 m n (fadS (rd x) off) := rfl
theorem fadS_f {cs : List AVal} {off : Nat} : fadS (.fptr cs) off = some (.fptr (cs.drop off)) := rfl
theorem fadS_p {b e j off : Nat} : fadS (.ptr b e j) off = some (.ptr b e (j + off)) := rfl
def aixS (x i : AVal) (n sz : Nat) : Option AVal := match x, i with
    | .fptr cs, .int _ m => if 0 ≤ m ∧ m < n then some (.fptr (cs.drop (m.toNat * sz))) else none
    | .ptr b e j, .int _ m => if 0 ≤ m ∧ m < n then some (.ptr b e (j + m.toNat * sz)) else none
    | _, _ => none
theorem sem_aix {x i : Opd} {k sz : Nat} : sem c d rd m n (.aix x i k sz) = P1 m n (aixS (rd x) (rd i) k sz) := rfl
theorem aixS_f {cs : List AVal} {q : IntKind} {a : Int} {k sz : Nat} : aixS (.fptr cs) (.int q a) k sz = if 0 ≤ a ∧ a < k then some (.fptr (cs.drop (a.toNat * sz))) else none := rfl
theorem aixS_p {b e j : Nat} {q : IntKind} {a : Int} {k sz : Nat} : aixS (.ptr b e j) (.int q a) k sz = if 0 ≤ a ∧ a < k then some (.ptr b e (j + a.toNat * sz)) else none := rfl
def ldfS (x : AVal) (agg : Bool) (n : Nat) : Option AVal := match x with | .fptr cs => pack agg n cs | _ => none
theorem sem_ldf {x : Opd} {agg : Bool} {k : Nat} : sem c d rd m n (.ldf x agg k) = P1 m n (ldfS (rd x) agg k) := rfl
theorem ldfS_f {cs : List AVal} {agg : Bool} {k : Nat} : ldfS (.fptr cs) agg k = pack agg k cs := rfl
theorem pack_1 {x : AVal} {cs : List AVal} {k : Nat} : pack false k (x :: cs) = some x := rfl
theorem pack_a {cs : List AVal} {k : Nat} : pack true k cs = if k ≤ cs.length then some (.agg (cs.take k)) else none := rfl
def fldS (x : AVal) (off : Nat) (agg : Bool) (n : Nat) : Option AVal := match x with | .agg cs => pack agg n (cs.drop off) | _ => none
theorem sem_fld {x : Opd} {off : Nat} {agg : Bool} {k : Nat} : sem c d rd m n (.fld x off agg k) = P1 m n (fldS (rd x) off agg k) := rfl
theorem fldS_a {cs : List AVal} {off : Nat} {agg : Bool} {k : Nat} : fldS (.agg cs) off agg k = pack agg k (cs.drop off) := rfl
def nilcS (x : AVal) : Option AVal := match x with | .ptr b e j => some (.ptr b e j) | .fptr cs => some (.fptr cs) | _ => none
theorem sem_nilc {x : Opd} : sem c d rd m n (.nilc x) = P1 m n (nilcS (rd x)) := rfl
theorem nilcS_p {b e j : Nat} : nilcS (.ptr b e j) = some (.ptr b e j) := rfl
theorem nilcS_f {cs : List AVal} : nilcS (.fptr cs) = some (.fptr cs) := rfl
def apfS (sz bytes : Nat) (y : AVal) : Option AVal := match y with | .list sz' es => if sz' = sz ∧ es.length * bytes ≤ 140737488355328 then some (.list sz es) else none | _ => none
theorem sem_apf {sz bytes : Nat} {z : List AVal} {y : Opd} : sem c d rd m n (.apf sz bytes z y) = P1 m n (apfS sz bytes (rd y)) := rfl
theorem apfS_l {sz bytes : Nat} {es : List (List AVal)} : apfS sz bytes (.list sz es) = if es.length * bytes ≤ 140737488355328 then some (.list sz es) else none := by simp [apfS]
def calpS (c : CT) (f : Nat) (vs : List AVal) : Option AVal := if vs.all AVal.argOk then (c f vs).map AVal.frz else none
def frzO (x : Option AVal) : Option AVal := x.map AVal.frz
theorem frzO_s {v : AVal} : frzO (some v) = some v.frz := rfl
theorem sem_calp {f : Nat} {args : List Opd} : sem c d rd m n (.calp f args) = P1 m n (calpS c f (args.map rd)) := rfl
theorem calpS_ok {f : Nat} {vs : List AVal} : calpS c f vs = if vs.all AVal.argOk = true then frzO (c f vs) else none := rfl
theorem frz_tup {vs : List AVal} : AVal.frz (.tup vs) = .tup (vs.map AVal.frz1) := rfl
theorem frz_own {ty sz : Nat} {es : List (List AVal)} : AVal.frz (.own ty sz es) = .list sz es := rfl
theorem frz_int {k : IntKind} {a : Int} : AVal.frz (.int k a) = .int k a := rfl
theorem frz_bool {a : Bool} : AVal.frz (.bool a) = .bool a := rfl
theorem frz_list {sz : Nat} {es : List (List AVal)} : AVal.frz (.list sz es) = .list sz es := rfl
theorem frz_agg {cs : List AVal} : AVal.frz (.agg cs) = .agg cs := rfl
theorem frz1_own {ty sz : Nat} {es : List (List AVal)} : AVal.frz1 (.own ty sz es) = .list sz es := rfl
theorem frz1_int {k : IntKind} {a : Int} : AVal.frz1 (.int k a) = .int k a := rfl
theorem frz1_bool {a : Bool} : AVal.frz1 (.bool a) = .bool a := rfl
theorem frz1_list {sz : Nat} {es : List (List AVal)} : AVal.frz1 (.list sz es) = .list sz es := rfl
theorem frz1_agg {cs : List AVal} : AVal.frz1 (.agg cs) = .agg cs := rfl
theorem argOk_int {k : IntKind} {a : Int} : AVal.argOk (.int k a) = true := rfl
theorem argOk_bool {a : Bool} : AVal.argOk (.bool a) = true := rfl
theorem argOk_list {sz : Nat} {es : List (List AVal)} : AVal.argOk (.list sz es) = true := rfl
theorem argOk_agg {cs : List AVal} : AVal.argOk (.agg cs) = cs.all AVal.noRef := rfl
theorem argOk_func {f : Nat} : AVal.argOk (.func f []) = true := rfl
theorem noRef_int {k : IntKind} {a : Int} : AVal.noRef (.int k a) = true := rfl
theorem noRef_bool {a : Bool} : AVal.noRef (.bool a) = true := rfl
theorem noRef_list {sz : Nat} {es : List (List AVal)} : AVal.noRef (.list sz es) = true := rfl
theorem noRef_fptr {es : List AVal} : AVal.noRef (.fptr es) = true := rfl
theorem noRef_nilp : AVal.noRef .nilp = true := rfl
theorem sem_mkf {f : Nat} {caps : List Opd} : sem c d rd m n (.mkf f caps) = some (.func f (caps.map rd), m, n) := rfl
def boxfS (sz : Nat) (cs : Option (List AVal)) : Option AVal := match cs with | some cs => if cs.length = sz ∧ cs.all AVal.noRef then some (.fptr cs) else none | none => none
theorem sem_boxf {sz : Nat} {x : Opd} : sem c d rd m n (.boxf sz x) = P1 m n (boxfS sz (rd x).cells?) := rfl
theorem boxfS_s {sz : Nat} {cs : List AVal} : boxfS sz (some cs) = if cs.length = sz ∧ cs.all AVal.noRef then some (.fptr cs) else none := rfl
/-! the local store -/
def lenvO (m : List (Nat × Blk)) (n : Nat) (B : Option Blk) : Option (AVal × List (Nat × Blk) × Nat) := B.map fun B => (.int .i64 B.es.length, m, n)
theorem lenvO_s {B : Blk} : lenvO m n (some B) = some (.int .i64 B.es.length, m, n) := rfl
def lenvS (m : List (Nat × Blk)) (n : Nat) (x : AVal) : Option (AVal × List (Nat × Blk) × Nat) := match x with | .vec b => lenvO m n (mg m b) | _ => none
theorem sem_lenv {x : Opd} : sem c d rd m n (.lenv x) = lenvS m n (rd x) := rfl
theorem lenvS_v {b : Nat} : lenvS m n (.vec b) = lenvO m n (mg m b) := rfl
def ixvO (m : List (Nat × Blk)) (n : Nat) (sz b : Nat) (a : Int) (B : Option Blk) : Option (AVal × List (Nat × Blk) × Nat) := match B with
      | some B => if B.sz = sz ∧ 0 ≤ a ∧ a < B.es.length then some (.ptr b a.toNat 0, m, n) else none
      | none => none
theorem ixvO_s {sz b : Nat} {a : Int} {B : Blk} : ixvO m n sz b a (some B) = if B.sz = sz ∧ 0 ≤ a ∧ a < B.es.length then some (.ptr b a.toNat 0, m, n) else none := rfl
def ixvS (m : List (Nat × Blk)) (n : Nat) (sz : Nat) (x i : AVal) : Option (AVal × List (Nat × Blk) × Nat) := match x, i with
    | .vec b, .int _ a => ixvO m n sz b a (mg m b)
    | _, _ => none
theorem sem_ixv {sz : Nat} {x i : Opd} : sem c d rd m n (.ixv sz x i) = ixvS m n sz (rd x) (rd i) := by
  simp only [sem, ixvS]
  cases rd x with
  | vec b =>
    cases rd i with
    | int k a => simp only [ixvO]; cases mg m b <;> rfl
    | _ => rfl
  | _ => rfl
theorem ixvS_v {sz b : Nat} {k : IntKind} {a : Int} : ixvS m n sz (.vec b) (.int k a) = ixvO m n sz b a (mg m b) := rfl
def getO (cs : Option (List AVal)) (agg : Bool) (k j : Nat) : Option AVal := match cs with | some cs => pack agg k (cs.drop j) | none => none
theorem getO_s {cs : List AVal} {agg : Bool} {k j : Nat} : getO (some cs) agg k j = pack agg k (cs.drop j) := rfl
def ldvO (B : Option Blk) (agg : Bool) (k e j : Nat) : Option AVal := match B with | some B => getO B.es[e]? agg k j | none => none
theorem ldvO_s {B : Blk} {agg : Bool} {k e j : Nat} : ldvO (some B) agg k e j = getO B.es[e]? agg k j := rfl
def ldvS (m : List (Nat × Blk)) (x : AVal) (agg : Bool) (k : Nat) : Option AVal := match x with | .ptr b e j => ldvO (mg m b) agg k e j | _ => none
theorem ldvS_p {b e j : Nat} {agg : Bool} {k : Nat} : ldvS m (.ptr b e j) agg k = ldvO (mg m b) agg k e j := rfl
theorem sem_ldv {x : Opd} {agg : Bool} {k : Nat} : sem c d rd m n (.ldv x agg k) = P1 m n (ldvS m (rd x) agg k) := by
  simp only [sem, ldvS]
  cases rd x with
  | ptr b e j =>
    simp only [ldvO]
    cases mg m b with
    | none => rfl
    | some B => simp only [getO]; cases B.es[e]? <;> rfl
  | _ => rfl
theorem cellV_p {b e j : Nat} {agg : Bool} {k : Nat} : cellV m (.ptr b e j) agg k = ldvO (mg m b) agg k e j := by
  simp only [cellV, ldvO]
  cases mg m b <;> rfl
def stO2 (m : List (Nat × Blk)) (n : Nat) (b e j k : Nat) (cs : List AVal) (B : Blk) (old : Option (List AVal)) : Option (AVal × List (Nat × Blk) × Nat) := match old with
  | some old => if cs.length = k ∧ j + k ≤ old.length then some (.any, ms m b ⟨B.ty, B.sz, B.es.set e (old.take j ++ cs ++ old.drop (j + k))⟩, n) else none
  | none => none
theorem stO2_s {b e j k : Nat} {cs : List AVal} {B : Blk} {old : List AVal} : stO2 m n b e j k cs B (some old) = if cs.length = k ∧ j + k ≤ old.length then some (.any, ms m b ⟨B.ty, B.sz, B.es.set e (old.take j ++ cs ++ old.drop (j + k))⟩, n) else none := rfl
def stO1 (m : List (Nat × Blk)) (n : Nat) (b e j k : Nat) (cs : List AVal) (B : Option Blk) : Option (AVal × List (Nat × Blk) × Nat) := match B with | some B => stO2 m n b e j k cs B B.es[e]? | none => none
theorem stO1_s {b e j k : Nat} {cs : List AVal} {B : Blk} : stO1 m n b e j k cs (some B) = stO2 m n b e j k cs B B.es[e]? := rfl
def stS (m : List (Nat × Blk)) (n : Nat) (x : AVal) (y : Option (List AVal)) (k : Nat) : Option (AVal × List (Nat × Blk) × Nat) := match x, y with
  | .ptr b e j, some cs => stO1 m n b e j k cs (mg m b)
  | _, _ => none
theorem stS_p {b e j k : Nat} {cs : List AVal} : stS m n (.ptr b e j) (some cs) k = stO1 m n b e j k cs (mg m b) := rfl
theorem sem_st {x y : Opd} {k : Nat} : sem c d rd m n (.st x y k) = stS m n (rd x) (rd y).cells? k := by
  simp only [sem, stS]
  cases rd x with
  | ptr b e j =>
    cases (rd y).cells? with
    | none => rfl
    | some cs =>
      simp only [stO1]
      cases mg m b with
      | none => rfl
      | some B => simp only [stO2]; cases B.es[e]? <;> rfl
  | _ => rfl
theorem sem_new {ty : Nat} {z : List AVal} : sem c d rd m n (.new ty z) = some (.ptr n 0 0, (n, ⟨ty, z.length, [z]⟩) :: m, n + 1) := rfl
theorem sem_nv {ty sz : Nat} : sem c d rd m n (.nv ty sz) = some (.vec n, (n, ⟨ty, sz, []⟩) :: m, n + 1) := rfl
def boxS (m : List (Nat × Blk)) (n ty sz : Nat) (cs : Option (List AVal)) : Option (AVal × List (Nat × Blk) × Nat) := match cs with | some cs => if cs.length = sz then some (.ptr n 0 0, (n, ⟨ty, sz, [cs]⟩) :: m, n + 1) else none | none => none
theorem sem_box {ty sz : Nat} {x : Opd} : sem c d rd m n (.box ty sz x) = boxS m n ty sz (rd x).cells? := rfl
theorem boxS_s {ty sz : Nat} {cs : List AVal} : boxS m n ty sz (some cs) = if cs.length = sz then some (.ptr n 0 0, (n, ⟨ty, sz, [cs]⟩) :: m, n + 1) else none := rfl
def appO (m : List (Nat × Blk)) (n ty sz bytes sz' b : Nat) (es : List (List AVal)) (B : Option Blk) : Option (AVal × List (Nat × Blk) × Nat) := match B with
      | some B => if B.ty = ty ∧ B.sz = sz ∧ sz' = sz ∧ (B.es.length + es.length) * bytes ≤ 140737488355328 then some (.vec n, (n, ⟨ty, sz, B.es ++ es⟩) :: md m b, n + 1) else none
      | none => none
def appS (m : List (Nat × Blk)) (n ty sz bytes : Nat) (x y : AVal) : Option (AVal × List (Nat × Blk) × Nat) := match x, y with
    | .vec b, .list sz' es => appO m n ty sz bytes sz' b es (mg m b)
    | _, _ => none
theorem sem_app {ty sz bytes : Nat} {z : List AVal} {x y : Opd} : sem c d rd m n (.app ty sz bytes z x y) = appS m n ty sz bytes (rd x) (rd y) := by
  simp only [sem, appS]
  cases rd x with
  | vec b =>
    cases rd y with
    | list sz' es => simp only [appO]; cases mg m b <;> rfl
    | _ => rfl
  | _ => rfl
theorem appS_v {ty sz bytes b sz' : Nat} {es : List (List AVal)} : appS m n ty sz bytes (.vec b) (.list sz' es) = appO m n ty sz bytes sz' b es (mg m b) := rfl
theorem appO_s {ty sz bytes b : Nat} {es es' : List (List AVal)} : appO m n ty sz bytes sz b es (some ⟨ty, sz, es'⟩) = if (es'.length + es.length) * bytes ≤ 140737488355328 then some (.vec n, (n, ⟨ty, sz, es' ++ es⟩) :: md m b, n + 1) else none := by simp [appO]
def appzO (m : List (Nat × Blk)) (n ty sz bytes sz' b : Nat) (es : List (List AVal)) (B : Option Blk) : Option (AVal × List (Nat × Blk) × Nat) := match B with
      | some B => if B.ty = ty ∧ B.sz = sz ∧ sz' = sz ∧ (B.es.length + es.length) * bytes ≤ 140737488355328 ∧ noRefE B.es = true then some (.list sz (B.es ++ es), md m b, n + 1) else none
      | none => none
def appzS (m : List (Nat × Blk)) (n ty sz bytes : Nat) (x y : AVal) : Option (AVal × List (Nat × Blk) × Nat) := match x, y with
    | .vec b, .list sz' es => appzO m n ty sz bytes sz' b es (mg m b)
    | _, _ => none
theorem sem_appz {ty sz bytes : Nat} {z : List AVal} {x y : Opd} : sem c d rd m n (.appz ty sz bytes z x y) = appzS m n ty sz bytes (rd x) (rd y) := by
  simp only [sem, appzS]
  cases rd x with
  | vec b =>
    cases rd y with
    | list sz' es => simp only [appzO]; cases mg m b <;> rfl
    | _ => rfl
  | _ => rfl
theorem appzS_v {ty sz bytes b sz' : Nat} {es : List (List AVal)} : appzS m n ty sz bytes (.vec b) (.list sz' es) = appzO m n ty sz bytes sz' b es (mg m b) := rfl
theorem appzO_s {ty sz bytes b : Nat} {es es' : List (List AVal)} : appzO m n ty sz bytes sz b es (some ⟨ty, sz, es'⟩) = if (es'.length + es.length) * bytes ≤ 140737488355328 ∧ noRefE es' = true then some (.list sz (es' ++ es), md m b, n + 1) else none := by simp [appzO]
def apnS (m : List (Nat × Blk)) (n ty sz bytes : Nat) (y : AVal) : Option (AVal × List (Nat × Blk) × Nat) := match y with
    | .list sz' es => if sz' = sz ∧ es.length * bytes ≤ 140737488355328 then some (.vec n, (n, ⟨ty, sz, es⟩) :: m, n + 1) else none
    | _ => none
theorem sem_apn {ty sz bytes : Nat} {z : List AVal} {y : Opd} : sem c d rd m n (.apn ty sz bytes z y) = apnS m n ty sz bytes (rd y) := rfl
theorem apnS_l {ty sz bytes : Nat} {es : List (List AVal)} : apnS m n ty sz bytes (.list sz es) = if es.length * bytes ≤ 140737488355328 then some (.vec n, (n, ⟨ty, sz, es⟩) :: m, n + 1) else none := by simp [apnS]
def mkvS (m : List (Nat × Blk)) (n ty bytes : Nat) (z : List AVal) (x : AVal) : Option (AVal × List (Nat × Blk) × Nat) := match x with
    | .int .i64 a => if 0 ≤ a ∧ bytes * a ≤ 281474976710656 then some (.vec n, (n, ⟨ty, z.length, List.replicate a.toNat z⟩) :: m, n + 1) else none
    | _ => none
theorem sem_mkv {ty bytes : Nat} {z : List AVal} {x : Opd} : sem c d rd m n (.mkv ty bytes z x) = mkvS m n ty bytes z (rd x) := rfl
theorem mkvS_i {ty bytes : Nat} {z : List AVal} {a : Int} : mkvS m n ty bytes z (.int .i64 a) = if 0 ≤ a ∧ bytes * a ≤ 281474976710656 then some (.vec n, (n, ⟨ty, z.length, List.replicate a.toNat z⟩) :: m, n + 1) else none := rfl
def bsvO (m : List (Nat × Blk)) (n ty sz : Nat) (es : Option (List (List AVal))) : Option (AVal × List (Nat × Blk) × Nat) := match es with
    | some es => some (.vec n, (n, ⟨ty, sz, es⟩) :: m, n + 1)
    | none => none
theorem bsvO_s {ty sz : Nat} {es : List (List AVal)} : bsvO m n ty sz (some es) = some (.vec n, (n, ⟨ty, sz, es⟩) :: m, n + 1) := rfl
theorem sem_bsv {ty sz : Nat} {z : List AVal} {len : Nat} {ps : List (Nat × Opd)} : sem c d rd m n (.bsv ty sz z len ps) = bsvO m n ty sz (fillE sz (List.replicate len z) (ps.map fun p => (p.1, rd p.2))) := rfl
def impO (m : List (Nat × Blk)) (n : Nat) (x : Option AVal) : Option (AVal × List (Nat × Blk) × Nat) := x.map fun r => r.imp m n
theorem impO_s {v : AVal} : impO m n (some v) = some (v.imp m n) := rfl
def calfS (c : CT) (m : List (Nat × Blk)) (n : Nat) (f : Nat) (vs : List AVal) : Option (AVal × List (Nat × Blk) × Nat) := if vs.all AVal.argOk then (c f vs).map fun r => r.imp m n else none
theorem sem_calf {f : Nat} {args : List Opd} : sem c d rd m n (.calf f args) = calfS c m n f (args.map rd) := rfl
theorem calfS_ok {f : Nat} {vs : List AVal} : calfS c m n f vs = if vs.all AVal.argOk = true then impO m n (c f vs) else none := rfl
theorem sem_calr {f : Nat} {args : List Opd} : sem c d rd m n (.calr f args) = d f (args.map rd) m n := rfl
def qrO (m : List (Nat × Blk)) (n : Nat) (x : Option (AVal × List (Nat × Blk) × Nat)) : Option (AVal × List (Nat × Blk) × Nat) := match x with | some (v, m', n') => if n' = n ∧ eqM m' m = true then some (v, m, n) else none | none => none
theorem sem_calq {f : Nat} {args : List Opd} : sem c d rd m n (.calq f args) = qrO m n (d f (args.map rd) m n) := by
  simp only [sem, qrO]
  cases d f (args.map rd) m n with
  | none => rfl
  | some r => rfl
theorem qrO_s {v : AVal} : qrO m n (some (v, m, n)) = some (v, m, n) := by simp [qrO, eqM_refl]
def apzO (m : List (Nat × Blk)) (n ty sz bytes b : Nat) (z : List AVal) (k : Int) (B : Option Blk) : Option (AVal × List (Nat × Blk) × Nat) := match B with
  | some B => if B.ty = ty ∧ B.sz = sz ∧ 0 ≤ k ∧ (B.es.length + k.toNat) * bytes ≤ 140737488355328 then some (.vec n, (n, ⟨ty, sz, B.es ++ List.replicate k.toNat z⟩) :: md m b, n + 1) else none
  | none => none
def apzS (m : List (Nat × Blk)) (n ty sz bytes : Nat) (z : List AVal) (x y : AVal) : Option (AVal × List (Nat × Blk) × Nat) := match x, y with
  | .vec b, .int .i64 k => apzO m n ty sz bytes b z k (mg m b)
  | _, _ => none
theorem sem_apz {ty sz bytes : Nat} {z : List AVal} {x y : Opd} : sem c d rd m n (.apz ty sz bytes z x y) = apzS m n ty sz bytes z (rd x) (rd y) := by
  simp only [sem, apzS]
  cases rd x with
  | vec b =>
    cases rd y with
    | int k q => cases k <;> first | rfl | (simp only [apzO]; cases mg m b <;> rfl)
    | _ => rfl
  | _ => rfl
theorem apzS_v {ty sz bytes b : Nat} {z : List AVal} {k : Int} : apzS m n ty sz bytes z (.vec b) (.int .i64 k) = apzO m n ty sz bytes b z k (mg m b) := rfl
theorem apzO_s {ty sz bytes b : Nat} {z : List AVal} {k : Int} {es : List (List AVal)} : apzO m n ty sz bytes b z k (some ⟨ty, sz, es⟩) = if 0 ≤ k ∧ (es.length + k.toNat) * bytes ≤ 140737488355328 then some (.vec n, (n, ⟨ty, sz, es ++ List.replicate k.toNat z⟩) :: md m b, n + 1) else none := by simp [apzO]
theorem chkS_s {bad : List (Nat × Nat)} {sl : List (Nat × AVal)} {nx : Nat} {pr : Bool} : chkS bad (some ⟨sl, m, nx, pr⟩) = if apartS sl bad = true then some ⟨sl, m, nx, pr⟩ else none := rfl
def neqO (x y : Option Nat) : Bool := match x, y with | some i, some j => i != j | _, _ => false
theorem apartS_nil {sl : List (Nat × AVal)} : apartS sl [] = true := rfl
theorem apartS_cons {sl : List (Nat × AVal)} {a b : Nat} {l : List (Nat × Nat)} : apartS sl ((a, b) :: l) = (neqO (refOf (lk sl a)) (refOf (lk sl b)) && apartS sl l) := rfl
theorem neqO_s {i j : Nat} : neqO (some i) (some j) = (i != j) := rfl
theorem imp_tup {vs : List AVal} : AVal.imp m n (.tup vs) = (.tup (impL m n vs).1, (impL m n vs).2, n + vs.length) := rfl
theorem imp_own {ty sz : Nat} {es : List (List AVal)} : AVal.imp m n (.own ty sz es) = (.vec n, (n, ⟨ty, sz, es⟩) :: m, n + 1) := rfl
theorem impL_nil : impL m n [] = ([], m) := rfl
theorem impL_own {ty sz : Nat} {es : List (List AVal)} {r : List AVal} : impL m n (.own ty sz es :: r) = (.vec n :: (impL ((n, ⟨ty, sz, es⟩) :: m) (n + 1) r).1, (impL ((n, ⟨ty, sz, es⟩) :: m) (n + 1) r).2) := rfl
theorem impL_int {k : IntKind} {a : Int} {r : List AVal} : impL m n (.int k a :: r) = (.int k a :: (impL m (n + 1) r).1, (impL m (n + 1) r).2) := rfl
theorem impL_bool {a : Bool} {r : List AVal} : impL m n (.bool a :: r) = (.bool a :: (impL m (n + 1) r).1, (impL m (n + 1) r).2) := rfl
theorem impL_list {sz : Nat} {es : List (List AVal)} {r : List AVal} : impL m n (.list sz es :: r) = (.list sz es :: (impL m (n + 1) r).1, (impL m (n + 1) r).2) := rfl
theorem impL_agg {cs : List AVal} {r : List AVal} : impL m n (.agg cs :: r) = (.agg cs :: (impL m (n + 1) r).1, (impL m (n + 1) r).2) := rfl
end
/-! ### Results -/
section
variable {m : List (Nat × Blk)}
theorem out1_int {k : IntKind} {a : Int} : out1 m (.int k a) = some (.int k a) := rfl
theorem out1_bool {a : Bool} : out1 m (.bool a) = some (.bool a) := rfl
theorem out1_list {sz : Nat} {es : List (List AVal)} : out1 m (.list sz es) = some (.list sz es) := rfl
theorem out1_agg {cs : List AVal} : out1 m (.agg cs) = if cs.all AVal.noRef then some (.agg cs) else none := rfl
def ownO (B : Option Blk) : Option AVal := match B with | some B => if noRefE B.es then some (.own B.ty B.sz B.es) else none | none => none
theorem out1_vec {b : Nat} : out1 m (.vec b) = ownO (mg m b) := rfl
theorem ownO_s {B : Blk} : ownO (some B) = if noRefE B.es then some (.own B.ty B.sz B.es) else none := rfl
theorem tupV_1 {v : AVal} : tupV [v] = v := rfl
theorem tupV_2 {v w : AVal} {l : List AVal} : tupV (v :: w :: l) = .tup (v :: w :: l) := rfl
theorem apart_nil : apart [] = true := rfl
theorem apart_vec {b : Nat} {l : List AVal} : apart (.vec b :: l) = (l.all (fun | .vec c => b != c | _ => true) && apart l) := rfl
theorem apart_int {k : IntKind} {a : Int} {l : List AVal} : apart (.int k a :: l) = apart l := rfl
theorem apart_bool {a : Bool} {l : List AVal} : apart (.bool a :: l) = apart l := rfl
theorem apart_list {sz : Nat} {es : List (List AVal)} {l : List AVal} : apart (.list sz es :: l) = apart l := rfl
theorem apart_agg {cs : List AVal} {l : List AVal} : apart (.agg cs :: l) = apart l := rfl
theorem argSlots_nil {i : Nat} : argSlots i [] = [] := rfl
theorem argSlots_cons {i : Nat} {v : AVal} {l : List AVal} : argSlots i (v :: l) = (i, v) :: argSlots (i + 1) l := rfl
theorem noRefE_nil : noRefE [] = true := rfl
theorem noRefE_cons {e : List AVal} {l : List (List AVal)} : noRefE (e :: l) = (e.all AVal.noRef && noRefE l) := rfl
theorem noRefE_app {a b : List (List AVal)} : noRefE (a ++ b) = (noRefE a && noRefE b) := by simp [noRefE, List.all_append]
theorem noRefE_map {α : Type} {f : α → List AVal} {l : List α} : noRefE (l.map f) = l.all fun a => (f a).all AVal.noRef := by simp only [noRefE, List.all_map, Function.comp_def]
theorem noRefE_rep {n : Nat} {e : List AVal} : noRefE (List.replicate n e) = (decide (n = 0) || e.all AVal.noRef) := by
  simp only [noRefE, List.all_replicate]
  by_cases h : n = 0 <;> simp [h]
theorem wrap64 {a : Int} (h : -9223372036854775808 ≤ a ∧ a ≤ 9223372036854775807) : IntKind.i64.wrap a = a := by
  obtain ⟨h1, h2⟩ := h
  unfold IntKind.wrap
  simp [IntKind.signed, IntKind.bits]
  omega
end
attribute [simp] sem_calq qrO_s sem_apz apzS_v apzO_s den_opsx chkS_s apartS_nil apartS_cons neqO_s
attribute [simp] den_skip den_ret den_exit den_ops den_seq den_block den_ghost den_condS denIf_t denIf_f bindN_n bindN_r bindN_e unBlk_n unBlk_r unBlk_e ret1_s gho_s
  finP_n finP_r outP_s finR_n finR_r consO_s resVs_nil resVs_cons resV_t resV_c outs_nil outs_cons ghost_ren renD_s renE_s consR_s refsOf_nil refsOf_cons refOf_v refOf_p consB_s blksOf_nil blksOf_cons ghost_keep ghost_frz frzD_v frzE_s
  renV_vec renV_ptr renV_int renV_bool renV_list renV_fptr renV_agg renV_any ixOf nxt_s steps_nil steps_go isB_b isB_u skips_b skips_u steps_guard putS_s putS_n lk_cons mg_cons ms_cons md_cons md_nil ev_t ev_c ev_f P1_s
  sem_mov sem_pick pickS_b sem_ext extS_t sem_bin binS_i io_add io_sub io_mul io_quo io_rem io_eql io_neq io_lss io_leq io_gtr io_geq sem_eqb eqbS_b sem_eqs eqR_s eqsS_a andO_s eqK_nil eqK_i eqK_b sem_not notS_b sem_neg negS_i
  aggO_s sem_build fillA_nil fillA_c fillA1_s fillE_nil fillE_c fillE1_s cells_i cells_b cells_l cells_p cells_n cells_f cells_v cells_a listO_s sem_bsl sem_mkl mklS_i sem_len lenS_l sem_min sem_max minS_i maxS_i
  sem_slf slfS_n slfS_h slfS_l slfS_lh sem_ixf ixfS_l sem_fad fadS_f fadS_p sem_aix aixS_f aixS_p sem_ldf ldfS_f pack_1 pack_a sem_fld fldS_a sem_nilc nilcS_p nilcS_f sem_apf apfS_l frzO_s sem_calp calpS_ok
  frz_tup frz_own frz_int frz_bool frz_list frz_agg frz1_own frz1_int frz1_bool frz1_list frz1_agg argOk_int argOk_bool argOk_list argOk_agg argOk_func noRef_int noRef_bool noRef_list noRef_fptr noRef_nilp sem_mkf sem_boxf boxfS_s
  lenvO_s sem_lenv lenvS_v ixvO_s sem_ixv ixvS_v getO_s ldvO_s ldvS_p sem_ldv cellV_p stO2_s stO1_s stS_p sem_st sem_new sem_nv sem_box boxS_s sem_app appS_v appO_s sem_appz appzS_v appzO_s sem_apn apnS_l sem_mkv mkvS_i bsvO_s sem_bsv impO_s sem_calf calfS_ok sem_calr
  imp_tup imp_own impL_nil impL_own impL_int impL_bool impL_list impL_agg out1_int out1_bool out1_list out1_agg out1_vec ownO_s tupV_1 tupV_2 apart_nil apart_vec apart_int apart_bool apart_list apart_agg argSlots_nil argSlots_cons
  noRefE_nil noRefE_cons noRefE_app noRefE_map noRefE_rep wrap64
end Go.Proofs.Ytnomicnfgdjdeaa.Ab
