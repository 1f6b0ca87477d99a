/- The interpreter over abstract values: operations, code, calls. Part of a layer that interprets Go code over values. No condition. -/
import Derived.Test.YtnomicnfgdjdeaaAb1
namespace Go.Proofs.Ytnomicnfgdjdeaa.Ab

/-! ### Slots and the local store -/
def lk : List (Nat × AVal) → Nat → AVal
  | [], _ => .any
  | (i, v) :: r, t => if i = t then v else lk r t
def mg : List (Nat × Blk) → Nat → Option Blk
  | [], _ => none
  | (i, b) :: r, t => if i = t then some b else mg r t
def ms : List (Nat × Blk) → Nat → Blk → List (Nat × Blk)
  | [], t, c => [(t, c)]
  | (i, b) :: r, t, c => if i = t then (i, c) :: r else (i, b) :: ms r t c
def md : List (Nat × Blk) → Nat → List (Nat × Blk)
  | [], _ => []
  | (i, b) :: r, t => if i = t then md r t else (i, b) :: md r t
structure St where
  sl : List (Nat × AVal)
  mem : List (Nat × Blk)
  nx : Nat
  /-- Is this a pure call, one with a store of its own? -/
  pr : Bool
inductive Opd where
  | t (n : Nat)
  | c (v : AVal)
  | f (g : Nat)
def ev (sl : List (Nat × AVal)) : Opd → AVal
  | .t n => lk sl n
  | .c v => v
  | .f g => .func g []

/-! ### Values -/
/-- What a pure call may be handed. -/
def AVal.argOk : AVal → Bool
  | .agg cs => cs.all AVal.noRef
  | x => x.noRef
def noRefE (es : List (List AVal)) : Bool := es.all fun e => e.all AVal.noRef

/-- '==' of two cells of a kind (true: bools, false: numbers). -/
def eqC1 : Bool → AVal → AVal → Option Bool
  | true, .bool a, .bool b => some (a == b)
  | false, .int k a, .int l b => if k = l then some (a == b) else none
  | _, _, _ => none
def eqK : List Bool → List AVal → List AVal → Option Bool
  | [], [], [] => some true
  | b :: ks, x :: as, y :: bs => match eqC1 b x y, eqK ks as bs with
    | some p, some q => some (p && q)
    | _, _ => none
  | _, _, _ => none
def intOp (op : BinOp) (k : IntKind) (a b : Int) : Option AVal :=
  match op with
  | .add => some (.int k (k.wrap (a + b)))
  | .sub => some (.int k (k.wrap (a - b)))
  | .mul => some (.int k (k.wrap (a * b)))
  | .quo => if b = 0 then none else some (.int k (k.wrap (a.tdiv b)))
  | .rem => if b = 0 then none else some (.int k (a.tmod b))
  | .eql => some (.bool (a == b))
  | .neq => some (.bool (a != b))
  | .lss => some (.bool (decide (a < b)))
  | .leq => some (.bool (decide (a ≤ b)))
  | .gtr => some (.bool (decide (a > b)))
  | .geq => some (.bool (decide (a ≥ b)))
  | _ => none
def binS (op : BinOp) (x y : AVal) : Option AVal :=
  match x, y with
  | .int k a, .int l b => if k = l then intOp op k a b else none
  | _, _ => none
def eqbS (ne : Bool) (x y : AVal) : Option AVal :=
  match x, y with
  | .bool a, .bool b => some (.bool (if ne then !(a == b) else a == b))
  | _, _ => none
def eqsS (ne : Bool) (ks : List Bool) (x y : AVal) : Option AVal :=
  match x, y with
  | .agg as, .agg bs => match eqK ks as bs with | some r => some (.bool (if ne then !r else r)) | none => none
  | _, _ => none

def fillA : List AVal → List (Nat × Nat × AVal) → Option (List AVal)
  | cells, [] => some cells
  | cells, (off, sz, v) :: r => match v.cells? with
    | some cs => if cs.length = sz ∧ off + sz ≤ cells.length then fillA (cells.take off ++ cs ++ cells.drop (off + sz)) r else none
    | none => none
def fillE (sz : Nat) : List (List AVal) → List (Nat × AVal) → Option (List (List AVal))
  | es, [] => some es
  | es, (i, v) :: r => match v.cells? with
    | some cs => if cs.length = sz ∧ i < es.length then fillE sz (es.set i cs) r else none
    | none => none
/-- So many cells as one value. -/
def pack (agg : Bool) (n : Nat) (cs : List AVal) : Option AVal :=
  if agg then (if n ≤ cs.length then some (.agg (cs.take n)) else none) else cs.head?
/-- What a pure call hands back, frozen. -/
def AVal.frz1 : AVal → AVal
  | .own _ sz es => .list sz es
  | x => x
def AVal.frz : AVal → AVal
  | .tup vs => .tup (vs.map AVal.frz1)
  | x => x.frz1
/-- .. and taken into the local store. -/
def imp1 (mem : List (Nat × Blk)) (id : Nat) : AVal → AVal × List (Nat × Blk)
  | .own ty sz es => (.vec id, (id, ⟨ty, sz, es⟩) :: mem)
  | x => (x, mem)
def impL : List (Nat × Blk) → Nat → List AVal → List AVal × List (Nat × Blk)
  | mem, _, [] => ([], mem)
  | mem, id, x :: r => ((imp1 mem id x).1 :: (impL (imp1 mem id x).2 (id + 1) r).1, (impL (imp1 mem id x).2 (id + 1) r).2)
def AVal.imp (mem : List (Nat × Blk)) (nx : Nat) : AVal → AVal × List (Nat × Blk) × Nat
  | .tup vs => (.tup (impL mem nx vs).1, (impL mem nx vs).2, nx + vs.length)
  | x => ((imp1 mem nx x).1, (imp1 mem nx x).2, nx + 1)

/-! ### Are two stores the same? -/
mutual
def eqV : AVal → AVal → Bool
  | .any, .any => true
  | .bool a, .bool b => a == b
  | .int k a, .int l b => k == l && a == b
  | .str a, .str b => a.data.toList == b.data.toList
  | .nilp, .nilp => true
  | .list s es, .list t fs => s == t && eqE es fs
  | .vec a, .vec b => a == b
  | .ptr a b c, .ptr d e f => a == d && b == e && c == f
  | .fptr cs, .fptr ds => eqL cs ds
  | .agg cs, .agg ds => eqL cs ds
  | .tup cs, .tup ds => eqL cs ds
  | .own t s es, .own u r fs => t == u && s == r && eqE es fs
  | .func f cs, .func g ds => f == g && eqL cs ds
  | _, _ => false
def eqL : List AVal → List AVal → Bool
  | [], [] => true
  | a :: as, b :: bs => eqV a b && eqL as bs
  | _, _ => false
def eqE : List (List AVal) → List (List AVal) → Bool
  | [], [] => true
  | a :: as, b :: bs => eqL a b && eqE as bs
  | _, _ => false
end
def eqM : List (Nat × Blk) → List (Nat × Blk) → Bool
  | [], [] => true
  | (i, B) :: as, (j, C) :: bs => i == j && B.ty == C.ty && B.sz == C.sz && eqE B.es C.es && eqM as bs
  | _, _ => false
mutual
theorem eqV_refl : ∀ a, eqV a a = true
  | .any | .bool _ | .int .. | .str _ | .nilp | .vec _ | .ptr .. => by simp [eqV]
  | .list _ es => by simp [eqV, eqE_refl es]
  | .fptr cs => by simp [eqV, eqL_refl cs]
  | .agg cs => by simp [eqV, eqL_refl cs]
  | .tup cs => by simp [eqV, eqL_refl cs]
  | .own _ _ es => by simp [eqV, eqE_refl es]
  | .func _ cs => by simp [eqV, eqL_refl cs]
theorem eqL_refl : ∀ a, eqL a a = true
  | [] => rfl
  | a :: as => by simp [eqL, eqV_refl a, eqL_refl as]
theorem eqE_refl : ∀ a, eqE a a = true
  | [] => rfl
  | a :: as => by simp [eqE, eqL_refl a, eqE_refl as]
end
theorem eqM_refl : ∀ m, eqM m m = true
  | [] => rfl
  | (i, B) :: m => by simp [eqM, eqE_refl, eqM_refl m]
mutual
theorem eqV_sound : ∀ {a b}, eqV a b = true → a = b
  | .any, b, h => by cases b <;> simp_all [eqV]
  | .bool _, b, h => by cases b <;> simp_all [eqV]
  | .int .., b, h => by cases b <;> simp_all [eqV]
  | .str s, b, h => by
    cases b with
    | str t =>
      simp only [eqV, beq_iff_eq] at h
      cases s with | mk d => cases t with | mk d' => simp only at h; rw [Array.toList_inj.1 h]
    | _ => simp [eqV] at h
  | .nilp, b, h => by cases b <;> simp_all [eqV]
  | .vec _, b, h => by cases b <;> simp_all [eqV]
  | .ptr .., b, h => by cases b <;> simp_all [eqV]
  | .list _ es, b, h => by
    cases b with
    | list _ fs => simp only [eqV, Bool.and_eq_true, beq_iff_eq] at h; rw [h.1, eqE_sound h.2]
    | _ => simp [eqV] at h
  | .fptr cs, b, h => by
    cases b with
    | fptr ds => simp only [eqV] at h; rw [eqL_sound h]
    | _ => simp [eqV] at h
  | .agg cs, b, h => by
    cases b with
    | agg ds => simp only [eqV] at h; rw [eqL_sound h]
    | _ => simp [eqV] at h
  | .tup cs, b, h => by
    cases b with
    | tup ds => simp only [eqV] at h; rw [eqL_sound h]
    | _ => simp [eqV] at h
  | .own _ _ es, b, h => by
    cases b with
    | own _ _ fs => simp only [eqV, Bool.and_eq_true, beq_iff_eq] at h; rw [h.1.1, h.1.2, eqE_sound h.2]
    | _ => simp [eqV] at h
  | .func _ cs, b, h => by
    cases b with
    | func _ ds => simp only [eqV, Bool.and_eq_true, beq_iff_eq] at h; rw [h.1, eqL_sound h.2]
    | _ => simp [eqV] at h
theorem eqL_sound : ∀ {a b}, eqL a b = true → a = b
  | [], b, h => by cases b <;> simp_all [eqL]
  | a :: as, b, h => by
    cases b with
    | cons b bs => simp only [eqL, Bool.and_eq_true] at h; rw [eqV_sound h.1, eqL_sound h.2]
    | nil => simp [eqL] at h
theorem eqE_sound : ∀ {a b}, eqE a b = true → a = b
  | [], b, h => by cases b <;> simp_all [eqE]
  | a :: as, b, h => by
    cases b with
    | cons b bs => simp only [eqE, Bool.and_eq_true] at h; rw [eqL_sound h.1, eqE_sound h.2]
    | nil => simp [eqE] at h
end
theorem eqM_sound : ∀ {m n}, eqM m n = true → m = n
  | [], n, h => by cases n <;> simp_all [eqM]
  | (i, B) :: m, n, h => by
    cases n with
    | cons p n =>
      obtain ⟨j, C⟩ := p
      simp only [eqM, Bool.and_eq_true, beq_iff_eq] at h
      obtain ⟨⟨⟨⟨rfl, h1⟩, h2⟩, h3⟩, h4⟩ := h
      rw [eqM_sound h4]
      congr 2
      cases B; cases C
      simp_all
      exact eqE_sound h3
    | nil => simp [eqM] at h

/-! ### Operations -/
inductive AOp where
  -- P: what comes out hangs on the operands alone
  | mov (x : Opd)
  | pick (c a b : Opd)
  | ext (t : Opd) (i : Nat)
  | bin (op : BinOp) (x y : Opd)
  | eqb (ne : Bool) (x y : Opd)
  | eqs (ne : Bool) (ks : List Bool) (x y : Opd)
  | notb (x : Opd)
  | neg (x : Opd)
  | build (zero : List AVal) (parts : List (Nat × Nat × Opd))
  | bsl (sz : Nat) (zero : List AVal) (len : Nat) (parts : List (Nat × Opd))
  | mkl (bytes : Nat) (zero : List AVal) (n : Opd)
  | len (x : Opd)
  | min2 (x y : Opd)
  | max2 (x y : Opd)
  | slf (sz : Nat) (x : Opd) (lo hi : Option Opd)
  | ixf (sz : Nat) (x i : Opd)
  | fad (x : Opd) (off : Nat)
  | aix (x i : Opd) (n sz : Nat)
  | ldf (x : Opd) (agg : Bool) (n : Nat)
  | fld (x : Opd) (off : Nat) (agg : Bool) (n : Nat)
  | nilc (x : Opd)
  | apf (sz bytes : Nat) (zero : List AVal) (y : Opd)
  | calp (f : Nat) (args : List Opd)
  | mkf (f : Nat) (caps : List Opd)
  | boxf (sz : Nat) (x : Opd)
  -- R: it reads the local store
  | lenv (x : Opd)
  | ixv (sz : Nat) (x i : Opd)
  | ldv (x : Opd) (agg : Bool) (n : Nat)
  -- the others
  | st (x y : Opd) (n : Nat)
  | new (ty : TypeId) (zero : List AVal)
  | nv (ty sz : Nat)
  | box (ty : TypeId) (sz : Nat) (x : Opd)
  | app (ty sz bytes : Nat) (zero : List AVal) (x y : Opd)
  | appz (ty sz bytes : Nat) (zero : List AVal) (x y : Opd)
  | apn (ty sz bytes : Nat) (zero : List AVal) (y : Opd)
  | mkv (ty bytes : Nat) (zero : List AVal) (n : Opd)
  | bsv (ty sz : Nat) (zero : List AVal) (len : Nat) (parts : List (Nat × Opd))
  | calf (f : Nat) (args : List Opd)
  | calr (f : Nat) (args : List Opd)
  /-- A call in this store that leaves it as it is. -/
  | calq (f : Nat) (args : List Opd)
  /-- append of so many zeros. -/
  | apz (ty sz bytes : Nat) (zero : List AVal) (x n : Opd)
structure AO where
  d : Option Nat
  g : Option (Nat × Bool)
  op : AOp

/-- The pure ones; 'call': a pure call. -/
def semP (call : Nat → List AVal → Option AVal) (rd : Opd → AVal) : AOp → Option AVal
  | .mov x => some (rd x)
  | .pick c a b => match rd c with | .bool t => some (if t then rd a else rd b) | _ => none
  | .ext t i => match rd t with | .tup vs => vs[i]? | _ => none
  | .bin op x y => binS op (rd x) (rd y)
  | .eqb ne x y => eqbS ne (rd x) (rd y)
  | .eqs ne ks x y => eqsS ne ks (rd x) (rd y)
  | .notb x => match rd x with | .bool b => some (.bool (!b)) | _ => none
  | .neg x => match rd x with | .int k n => some (.int k (k.wrap (0 - n))) | _ => none
  | .build zero parts => (fillA zero (parts.map fun p => (p.1, p.2.1, rd p.2.2))).map .agg
  | .bsl sz zero len parts => match fillE sz (List.replicate len zero) (parts.map fun p => (p.1, rd p.2)) with
    | some es => if noRefE es then some (.list sz es) else none
    | none => none
  | .mkl bytes zero n => match rd n with
    | .int .i64 n => if 0 ≤ n ∧ bytes * n ≤ 281474976710656 then some (.list zero.length (List.replicate n.toNat zero)) else none
    | _ => none
  | .len x => match rd x with | .list _ es => some (.int .i64 es.length) | _ => none
  | .min2 x y => match rd x, rd y with | .int k a, .int l b => if k = l then some (.int k (if b < a then b else a)) else none | _, _ => none
  | .max2 x y => match rd x, rd y with | .int k a, .int l b => if k = l then some (.int k (if b > a then b else a)) else none | _, _ => none
  | .slf sz x lo hi => match rd x with
    | .list sz' es =>
      if sz' = sz then match (match hi with | none => some es.length | some h => match rd h with | .int _ n => if 0 ≤ n ∧ n ≤ es.length then some n.toNat else none | _ => none) with
      | some h => match (match lo with | none => some 0 | some l => match rd l with | .int _ n => if 0 ≤ n ∧ n ≤ h then some n.toNat else none | _ => none) with
        | some l => some (.list sz ((es.take h).drop l))
        | none => none
      | none => none
      else none
    | _ => none
  | .ixf sz x i => match rd x, rd i with
    | .list sz' es, .int _ n => if sz' = sz ∧ 0 ≤ n then (match es[n.toNat]? with | some e => some (.fptr e) | none => none) else none
    | _, _ => none
  | .fad x off => match rd x with
    | .fptr cs => some (.fptr (cs.drop off))
    | .ptr b e j => some (.ptr b e (j + off))
    | _ => none
  | .aix x i n sz => match rd x, rd i with
    | .fptr cs, .int _ m => if 0 ≤ m ∧ m < n then some (.fptr (cs.drop (m.toNat * sz))) else none
    | .ptr b e j, .int _ m => if 0 ≤ m ∧ m < n then some (.ptr b e (j + m.toNat * sz)) else none
    | _, _ => none
  | .ldf x agg n => match rd x with | .fptr cs => pack agg n cs | _ => none
  | .fld x off agg n => match rd x with | .agg cs => pack agg n (cs.drop off) | _ => none
  | .nilc x => match rd x with | .ptr b e j => some (.ptr b e j) | .fptr cs => some (.fptr cs) | _ => none
  | .apf sz bytes _ y => match rd y with | .list sz' es => if sz' = sz ∧ es.length * bytes ≤ 140737488355328 then some (.list sz es) else none | _ => none
  | .calp f args => if (args.map rd).all AVal.argOk then (call f (args.map rd)).map AVal.frz else none
  | .mkf f caps => some (.func f (caps.map rd))
  | .boxf sz x => match (rd x).cells? with | some cs => if cs.length = sz ∧ cs.all AVal.noRef then some (.fptr cs) else none | none => none
  | _ => none

/-- Every operation: its value, the store, the next block's number. 'callr': a call in this store. -/
def sem (call : Nat → List AVal → Option AVal) (callr : Nat → List AVal → List (Nat × Blk) → Nat → Option (AVal × List (Nat × Blk) × Nat))
    (rd : Opd → AVal) (mem : List (Nat × Blk)) (nx : Nat) : AOp → Option (AVal × List (Nat × Blk) × Nat)
  | .lenv x => match rd x with | .vec b => (mg mem b).map fun B => (.int .i64 B.es.length, mem, nx) | _ => none
  | .ixv sz x i => match rd x, rd i with
    | .vec b, .int _ n => match mg mem b with
      | some B => if B.sz = sz ∧ 0 ≤ n ∧ n < B.es.length then some (.ptr b n.toNat 0, mem, nx) else none
      | none => none
    | _, _ => none
  | .ldv x agg n => match rd x with
    | .ptr b e j => match mg mem b with
      | some B => match B.es[e]? with | some cs => (pack agg n (cs.drop j)).map fun v => (v, mem, nx) | none => none
      | none => none
    | _ => none
  | .st x y n => match rd x, (rd y).cells? with
    | .ptr b e j, some cs => match mg mem b with
      | some B => match B.es[e]? with
        | some old => if cs.length = n ∧ j + n ≤ old.length then some (.any, ms mem b ⟨B.ty, B.sz, B.es.set e (old.take j ++ cs ++ old.drop (j + n))⟩, nx) else none
        | none => none
      | none => none
    | _, _ => none
  | .new ty zero => some (.ptr nx 0 0, (nx, ⟨ty, zero.length, [zero]⟩) :: mem, nx + 1)
  | .nv ty sz => some (.vec nx, (nx, ⟨ty, sz, []⟩) :: mem, nx + 1)
  | .box ty sz x => match (rd x).cells? with | some cs => if cs.length = sz then some (.ptr nx 0 0, (nx, ⟨ty, sz, [cs]⟩) :: mem, nx + 1) else none | none => none
  | .app ty sz bytes _ x y => match rd x, rd y with
    | .vec b, .list sz' es => match mg mem b with
      | some B => if B.ty = ty ∧ B.sz = sz ∧ sz' = sz ∧ (B.es.length + es.length) * bytes ≤ 140737488355328 then some (.vec nx, (nx, ⟨ty, sz, B.es ++ es⟩) :: md mem b, nx + 1) else none
      | none => none
    | _, _ => none
  | .appz ty sz bytes _ x y => match rd x, rd y with
    | .vec b, .list sz' es => match mg mem b with
      | some B => if B.ty = ty ∧ B.sz = sz ∧ sz' = sz ∧ (B.es.length + es.length) * bytes ≤ 140737488355328 ∧ noRefE B.es = true then some (.list sz (B.es ++ es), md mem b, nx + 1) else none
      | none => none
    | _, _ => none
  | .apn ty sz bytes _ y => match rd y with
    | .list sz' es => if sz' = sz ∧ es.length * bytes ≤ 140737488355328 then some (.vec nx, (nx, ⟨ty, sz, es⟩) :: mem, nx + 1) else none
    | _ => none
  | .mkv ty bytes zero n => match rd n with
    | .int .i64 n => if 0 ≤ n ∧ bytes * n ≤ 281474976710656 then some (.vec nx, (nx, ⟨ty, zero.length, List.replicate n.toNat zero⟩) :: mem, nx + 1) else none
    | _ => none
  | .bsv ty sz zero len parts => match fillE sz (List.replicate len zero) (parts.map fun p => (p.1, rd p.2)) with
    | some es => some (.vec nx, (nx, ⟨ty, sz, es⟩) :: mem, nx + 1)
    | none => none
  | .calf f args => if (args.map rd).all AVal.argOk then (call f (args.map rd)).map fun r => r.imp mem nx else none
  | .calr f args => callr f (args.map rd) mem nx
  | .calq f args => match callr f (args.map rd) mem nx with
    | some (v, m', n') => if n' = nx ∧ eqM m' mem = true then some (v, mem, nx) else none
    | none => none
  | .apz ty sz bytes zero x n => match rd x, rd n with
    | .vec b, .int .i64 k => match mg mem b with
      | some B => if B.ty = ty ∧ B.sz = sz ∧ 0 ≤ k ∧ (B.es.length + k.toNat) * bytes ≤ 140737488355328 then some (.vec nx, (nx, ⟨ty, sz, B.es ++ List.replicate k.toNat zero⟩) :: md mem b, nx + 1) else none
      | none => none
    | _, _ => none
  | o => (semP call rd o).map fun v => (v, mem, nx)

def putS (d : Option Nat) (v : AVal) (sl : List (Nat × AVal)) : List (Nat × AVal) := match d with | some d => (d, v) :: sl | none => sl
def wantS (g : Option (Nat × Bool)) (sl : List (Nat × AVal)) : Option Bool :=
  match g with
  | none => some true
  | some (t, b) => match lk sl t with | .bool c => some (c == b) | .tup [] => some false | _ => none
/-- One operation. -/
def step (call : Nat → List AVal → Option AVal) (callr : Nat → List AVal → List (Nat × Blk) → Nat → Option (AVal × List (Nat × Blk) × Nat)) (o : AO) (s : St) : Option St :=
  match wantS o.g s.sl with
  | some true => (sem call callr (ev s.sl) s.mem s.nx o.op).map fun r => ⟨putS o.d r.1 s.sl, r.2.1, r.2.2, s.pr⟩
  | some false => some ⟨putS o.d (.tup []) s.sl, s.mem, s.nx, s.pr⟩
  | none => none
def steps (call : Nat → List AVal → Option AVal) (callr : Nat → List AVal → List (Nat × Blk) → Nat → Option (AVal × List (Nat × Blk) × Nat)) : List AO → St → Option St
  | [], s => some s
  | o :: r, s => match step call callr o s with | some s' => steps call callr r s' | none => none

/-! ### Code -/
inductive Ghost where
  /-- Only these slots live on, and the blocks that 'refs' refer to: they are numbered anew. -/
  | renum (slots refs : List Nat)
  /-- Only these slots live on. -/
  | keep (slots : List Nat)
  /-- The slice in this slot is not written any more. -/
  | frz (t : Nat)
inductive ACode where
  | skip
  | ops (draw : Option (List (List Nat))) (l : List AO)
  /-- In an order that is drawn; these slots' blocks are unlike. -/
  | opsx (bef : List (List Nat)) (bad : List (Nat × Nat)) (l : List AO)
  | seq (a b : ACode)
  | cond (c : Opd) (a b : ACode)
  | block (id : Nat) (c : ACode)
  | loop (c : ACode)
  | exit (id : Nat)
  | ret
  | ghost (g : Ghost) (c : ACode)
inductive AExit where
  | normal
  | exit (id : Nat)
  | ret
  deriving DecidableEq
inductive ARes where
  | t (n : Nat)
  | cell (n : Nat) (agg : Bool) (k : Nat)
structure AFn where
  np : Nat
  nt : Nat
  body : ACode
  res : List ARes
structure Env where
  fn : Nat → Option AFn
  ext : Nat → List AVal → Option AVal

def refOf : AVal → Option Nat
  | .vec b => some b
  | .ptr b _ _ => some b
  | _ => none
/-- Where a number stands in a list. -/
def ixOf : List Nat → Nat → Option Nat
  | [], _ => none
  | i :: l, t => if i = t then some 0 else (ixOf l t).map (· + 1)
def renV (ids : List Nat) : AVal → AVal
  | .vec b => match ixOf ids b with | some i => .vec i | none => .any
  | .ptr b e j => match ixOf ids b with | some i => .ptr i e j | none => .any
  | x => if x.argOk then x else .any
def refsOf (sl : List (Nat × AVal)) : List Nat → Option (List Nat)
  | [] => some []
  | t :: l => match refOf (lk sl t), refsOf sl l with | some b, some r => if r.contains b then none else some (b :: r) | _, _ => none
def blksOf (m : List (Nat × Blk)) : Nat → List Nat → Option (List (Nat × Blk))
  | _, [] => some []
  | i, b :: l => match mg m b, blksOf m (i + 1) l with | some B, some r => if noRefE B.es then some ((i, B) :: r) else none | _, _ => none
def ghostS (g : Ghost) (s : St) : Option St :=
  match g with
  | .renum slots refs => if s.pr then
      match refsOf s.sl refs with
      | some ids => match blksOf s.mem 0 ids with
        | some m => some ⟨slots.map fun t => (t, renV ids (lk s.sl t)), m, ids.length, s.pr⟩
        | none => none
      | none => none
    else none
  | .keep slots => some ⟨slots.map fun t => (t, lk s.sl t), s.mem, s.nx, s.pr⟩
  | .frz t => match lk s.sl t with
    | .vec b => match mg s.mem b with
      | some B => if noRefE B.es then some ⟨(t, .list B.sz B.es) :: s.sl, md s.mem b, s.nx, s.pr⟩ else none
      | none => none
    | _ => none

def apartS (sl : List (Nat × AVal)) : List (Nat × Nat) → Bool
  | [] => true
  | (a, b) :: l => (match refOf (lk sl a), refOf (lk sl b) with | some i, some j => i != j | _, _ => false) && apartS sl l
def chkS (bad : List (Nat × Nat)) (x : Option St) : Option St := match x with | some s => if apartS s.sl bad then some s else none | none => none

def resV (s : St) : ARes → Option AVal
  | .t n => some (lk s.sl n)
  | .cell n agg k => match lk s.sl n with
    | .ptr b e j => match mg s.mem b with
      | some B => match B.es[e]? with | some cs => pack agg k (cs.drop j) | none => none
      | none => none
    | _ => none
def resVs (s : St) : List ARes → Option (List AVal)
  | [] => some []
  | r :: l => match resV s r, resVs s l with | some v, some vs => some (v :: vs) | _, _ => none
/-- A result that leaves a pure call. -/
def out1 (mem : List (Nat × Blk)) : AVal → Option AVal
  | .vec b => match mg mem b with | some B => if noRefE B.es then some (.own B.ty B.sz B.es) else none | none => none
  | x => if x.argOk then some x else none
def outs (mem : List (Nat × Blk)) : List AVal → Option (List AVal)
  | [] => some []
  | v :: l => match out1 mem v, outs mem l with | some v, some vs => some (v :: vs) | _, _ => none
/-- No block is handed out twice. -/
def apart : List AVal → Bool
  | [] => true
  | .vec b :: l => l.all (fun | .vec c => b != c | _ => true) && apart l
  | _ :: l => apart l
def tupV : List AVal → AVal
  | [v] => v
  | vs => .tup vs
def argSlots : Nat → List AVal → List (Nat × AVal)
  | _, [] => []
  | i, v :: l => (i, v) :: argSlots (i + 1) l

def pureWith (Γ : Env) (ex : ACode → St → Option (AExit × St)) (f : Nat) (args : List AVal) : Option AVal :=
  match Γ.fn f with
  | some fn =>
    if args.length = fn.np then
      match ex fn.body ⟨argSlots 0 args, [], 0, true⟩ with
      | some (.exit _, _) => none
      | some (_, s) => match resVs s fn.res with
        | some vs => if apart vs then (outs s.mem vs).map tupV else none
        | none => none
      | none => none
    else none
  | none => Γ.ext f args
def callWith (Γ : Env) (ex : ACode → St → Option (AExit × St)) (f : Nat) (args : List AVal) (mem : List (Nat × Blk)) (nx : Nat) : Option (AVal × List (Nat × Blk) × Nat) :=
  match Γ.fn f with
  | some fn =>
    if args.length = fn.np then
      match ex fn.body ⟨argSlots 0 args, mem, nx, false⟩ with
      | some (.exit _, _) => none
      | some (_, s) => (resVs s fn.res).map fun vs => (tupV vs, s.mem, s.nx)
      | none => none
    else none
  | none => none
def exec (Γ : Env) : Nat → ACode → St → Option (AExit × St)
  | 0, _, _ => none
  | n + 1, c, s => match c with
    | .skip => some (.normal, s)
    | .ops _ l => (steps (pureWith Γ (exec Γ n)) (callWith Γ (exec Γ n)) l s).map fun s => (.normal, s)
    | .opsx _ bad l => (chkS bad (steps (pureWith Γ (exec Γ n)) (callWith Γ (exec Γ n)) l s)).map fun s => (.normal, s)
    | .seq a b => match exec Γ n a s with
      | some (.normal, s') => exec Γ n b s'
      | r => r
    | .cond c a b => match ev s.sl c with
      | .bool t => exec Γ n (if t then a else b) s
      | _ => none
    | .block id c => match exec Γ n c s with
      | some (.exit i, s') => some (if i = id then .normal else .exit i, s')
      | r => r
    | .loop c => match exec Γ n c s with
      | some (.normal, s') => exec Γ n (.loop c) s'
      | r => r
    | .exit id => some (.exit id, s)
    | .ret => some (.ret, s)
    | .ghost g c => match ghostS g s with | some s' => exec Γ n c s' | none => none

end Go.Proofs.Ytnomicnfgdjdeaa.Ab
