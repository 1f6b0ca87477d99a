/- What Keys, Make, Words, Word and Begin come to. No condition. -/
import Derived.Test.YtnomicnfgdjdeaaLazyO
namespace Go.Proofs.Ytnomicnfgdjdeaa.Ab
open Go.RowKit
set_option linter.unusedSimpArgs false

def insR (k : Int) : List Int → List Int
  | [] => [k]
  | x :: r => if k < x then k :: x :: r else x :: insR k r
theorem withL_true (k : Int) : ∀ (s o : List Int), withL k s (o, true) = (o ++ s, true)
  | [], o => by simp [withL]
  | x :: r, o => by simp [withL, withL_true k r]
theorem withL_false (k : Int) : ∀ (s o : List Int), (if (withL k s (o, false)).2 then (withL k s (o, false)).1 else (withL k s (o, false)).1 ++ [k]) = o ++ insR k s
  | [], o => by simp [withL, insR]
  | x :: r, o => by
    by_cases h : k < x
    · simp [withL, insR, h, withL_true]
    · have := withL_false k r (o ++ [x])
      simp only [withL, insR, h, and_false, if_false]
      rw [this]
      simp
theorem insS_eq (s : List Int) (k : Int) : insS s k = insR k s := by
  have := withL_false k s []
  simpa [insS] using this
theorem mem_insR (k x : Int) : ∀ (s : List Int), x ∈ insR k s ↔ x = k ∨ x ∈ s
  | [] => by simp [insR]
  | y :: r => by
    simp only [insR]
    split
    · simp
    · simp only [List.mem_cons, mem_insR k x r]
      constructor
      · rintro (h | h | h) <;> simp [h]
      · rintro (h | h | h) <;> simp [h]
theorem sorted_insR (k : Int) : ∀ (s : List Int), s.Pairwise (· < ·) → k ∉ s → (insR k s).Pairwise (· < ·)
  | [], _, _ => by simp [insR]
  | y :: r, h, hk => by
    rw [List.pairwise_cons] at h
    simp only [List.mem_cons, not_or] at hk
    simp only [insR]
    split
    · rename_i hlt
      rw [List.pairwise_cons, List.pairwise_cons]
      refine ⟨fun z hz => ?_, h.1, h.2⟩
      rcases List.mem_cons.1 hz with rfl | hz
      · exact hlt
      · have := h.1 z hz; omega
    · rw [List.pairwise_cons]
      refine ⟨fun z hz => ?_, sorted_insR k r h.2 hk.2⟩
      rcases (mem_insR k z r).1 hz with rfl | hz
      · have := hk.1; omega
      · exact h.1 z hz
theorem SetG.ins {s : List Int} (h : SetG s) {k : Int} (hk : 0 ≤ k ∧ k ≤ 20) (hn : k ∉ s) : SetG (insS s k) := by
  rw [insS_eq]
  refine ⟨sorted_insR k s h.1 hn, fun x hx => ?_⟩
  rcases (mem_insR k x s).1 hx with rfl | hx
  · exact hk
  · exact h.2 x hx
theorem SetG.drop {s : List Int} (h : SetG s) (k : Int) : SetG (dropS s k) :=
  ⟨h.1.sublist List.filter_sublist, fun x hx => h.2 x (List.mem_filter.1 hx).1⟩
theorem SetG.doR {s : List Int} (h : SetG s) {kind k : Int} (hk : 0 ≤ k ∧ k ≤ 20) : SetG (doR s kind k).1 := by
  unfold Ab.doR
  split
  · split
    · exact h
    · rename_i hn; exact h.ins hk hn
  · split
    · split
      · exact h.drop k
      · exact h
    · exact h
theorem pickI_lt (a n : Int) (h : 0 < n) : 0 ≤ pickI a n ∧ pickI a n < n := by
  unfold pickI
  exact ⟨Int.emod_nonneg _ (by omega), Int.emod_lt_of_pos _ h⟩
def keysS (raw : List Int) : List Int := (raw.take 40).foldl (fun s x => (doR s 1 (pickI x 20)).1) []
theorem keysS_ok (raw : List Int) : SetG (keysS raw) := by
  have : ∀ (l : List Int) (s : List Int), SetG s → SetG (l.foldl (fun s x => (doR s 1 (pickI x 20)).1) s) := by
    intro l
    induction l with
    | nil => intro s hs; exact hs
    | cons x l ih => intro s hs; exact ih _ (hs.doR (by have := pickI_lt x 20 (by omega); omega))
  exact this _ _ ⟨List.Pairwise.nil, by simp⟩
theorem keys24_loop (raw : List Int) (hr : ∀ n ∈ raw, i64 n) (hll : raw.length < 100000000000000) : ∀ (k i : Nat), i + k = min raw.length 40 → ∀ (s : List Int) (sl : List (Nat × AVal)) (mem : List (Nat × Blk)) (nx : Nat),
    SetG s → lk sl 0 = .list 1 (ints raw) → lk sl 3 = .list 1 (ints s) → lk sl 4 = .int .i64 i → ∀ R, R = ((raw.take 40).drop i).foldl (fun s x => (doR s 1 (pickI x 20)).1) s → Ends (den Γ (.loop g24l0) ⟨sl, mem, nx, true⟩) fun e sl' _ _ _ => e = .exit 0 ∧ lk sl' 3 = .list 1 (ints R) := by
  intro k
  induction k with
  | zero =>
    intro i hi s sl mem nx hs h0 h3 h4 R hR
    apply Ends_loop
    conv => lhs; lhs; rw [g24l0]
    rw [List.drop_of_length_le (by simp; omega)] at hR
    simp only [List.foldl_nil] at hR
    subst hR
    by_cases hlt : i < raw.length
    · simp (disch := omega) [h0, h3, h4, hlt, decF]
    · simp (disch := omega) [h0, h3, h4, hlt, decF]
  | succ k ih =>
    intro i hi s sl mem nx hs h0 h3 h4 R hR
    have hil : i < raw.length := by omega
    apply Ends_loop
    conv => lhs; lhs; rw [g24l0]
    rw [List.drop_eq_getElem_cons (by simp; omega)] at hR
    simp only [List.foldl_cons, List.getElem_take] at hR
    have hp := pick47 raw[i] 20 (hr _ (List.getElem_mem _)) (by omega)
    have hpl := pickI_lt raw[i] 20 (by omega)
    have hd := do26 s 1 (pickI raw[i] 20) hs (by omega) (by simp)
    simp (disch := omega) [h0, h3, h4, hil, hp, hd, decT]
    refine ih (i + 1) (by omega) _ _ _ _ (hs.doR (kind := 1) (k := pickI raw[i] 20) (by omega)) ?_ ?_ ?_ R hR <;> simp
theorem keys24 (raw : List Int) (hr : ∀ n ∈ raw, i64 n) (hll : raw.length < 100000000000000) : cd Γ 24 [.list 1 (ints raw)] = some (.list 1 (ints (keysS raw))) := by
  rw [call (fn := g24) rfl rfl]
  apply Ends.fin
  simp [g24, g24b]
  refine Ends.blk (keys24_loop raw hr hll (min raw.length 40) 0 (by omega) [] _ _ _ ⟨List.Pairwise.nil, by simp⟩ ?_ ?_ ?_ _ rfl) ?_
  all_goals first | (simp; done) | skip
  rintro e sl mem nx pr ⟨rfl, h3⟩
  simp [h3, keysS]
/-! ### Make -/
def nodesR : Nat → List Int → List Int
  | _, [] => []
  | i, k :: r => [k, if r = [] then 1 else 3 + (i : Int), 0, 0] ++ nodesR (i + 1) r
theorem nodesR_len : ∀ (s : List Int) (i : Nat), (nodesR i s).length = 4 * s.length
  | [], _ => rfl
  | k :: r, i => by simp [nodesR, nodesR_len r]; omega
def headS (s : List Int) : List Int := [-1099511627777, if s = [] then 1 else 2, 0, 0, 1099511627777, 0, 0, 0]
def makeS (s : List Int) (more : Nat) : List Int := headS s ++ nodesR 0 s ++ List.replicate (4 * more) 0
theorem makeS_len (s : List Int) (more : Nat) : (makeS s more).length = 8 + 4 * s.length + 4 * more := by
  simp [makeS, headS, nodesR_len]; omega
theorem make25_loop (s : List Int) (hs : SetG s) (more : Nat) (hmore : more ≤ 40) : ∀ (k i : Nat), i + k = s.length → ∀ (o : List Int) (sl : List (Nat × AVal)) (mem : List (Nat × Blk)) (nx b : Nat),
    o.length = 8 + 4 * i → lk sl 0 = .list 1 (ints s) → lk sl 1 = .int .i64 more → lk sl 7 = .vec b → mg mem b = some ⟨3, 1, ints o⟩ → lk sl 8 = .int .i64 i → ∀ R, R = o ++ nodesR i (s.drop i) → Ends (den Γ (.loop g25l0) ⟨sl, mem, nx, true⟩) fun e sl' mem' _ _ =>
      e = .exit 0 ∧ lk sl' 1 = .int .i64 more ∧ ∃ b, lk sl' 7 = .vec b ∧ mg mem' b = some ⟨3, 1, ints R⟩ := by
  have hlen := hs.len
  intro k
  induction k with
  | zero =>
    intro i hi o sl mem nx b ho h0 h1 h7 hb h8 R hR
    apply Ends_loop
    conv => lhs; lhs; rw [g25l0]
    rw [List.drop_of_length_le (by omega)] at hR
    simp only [nodesR, List.append_nil] at hR
    subst hR
    simp [h0, h1, h7, h8, hb, show i = s.length by omega]
  | succ k ih =>
    intro i hi o sl mem nx b ho h0 h1 h7 hb h8 R hR
    have hil : i < s.length := by omega
    apply Ends_loop
    conv => lhs; lhs; rw [g25l0]
    rw [List.drop_eq_getElem_cons hil] at hR
    simp only [nodesR] at hR
    by_cases h : i + 1 = s.length
    · have h9 : (i : Int) = (s.length : Int) - 1 := by omega
      rw [List.drop_of_length_le (by omega)] at hR
      simp only [if_true, nodesR, List.append_nil] at hR
      simp (disch := omega) [h0, h1, h7, h8, hb, hil, decT, ifT]
      refine ih (i + 1) (by omega) (o ++ [s[i], 1, 0, 0]) _ _ _ 1 (by simp; omega) ?_ ?_ ?_ ?_ ?_ R (by rw [hR, List.drop_of_length_le (by omega)]; simp [nodesR])
      all_goals first | (simp; done) | (simp [lst, cI]; done)
    · have h9 : ¬ (i : Int) = (s.length : Int) - 1 := by omega
      rw [if_neg (by intro hh; have := congrArg List.length hh; simp at this; omega)] at hR
      simp (disch := omega) [h0, h1, h7, h8, hb, hil, decF, ifT]
      refine ih (i + 1) (by omega) (o ++ [s[i], 3 + (i : Int), 0, 0]) _ _ _ 1 (by simp; omega) ?_ ?_ ?_ ?_ ?_ R (by rw [hR]; simp)
      all_goals first | (simp; done) | (simp [lst, cI]; done)
theorem make25 (s : List Int) (hs : SetG s) (more : Nat) (hmore : more ≤ 40) : cd Γ 25 [.list 1 (ints s), .int .i64 more] = some (.tup [.own 3 1 (ints (makeS s more)), .int .i64 0]) := by
  have hlen := hs.len
  have q := right48 s hs
  have hml := makeS_len s more
  have hz : ∀ k, List.replicate k [AVal.int .i64 0] = ints (List.replicate k 0) := fun k => by simp [lst, cI]
  rw [call (fn := g25) rfl rfl]
  apply Ends.fin
  by_cases h : s = []
  · subst h
    simp only [lst_nil] at q
    simp (disch := omega) [g25, g25b, q, decT, decF, ifT, ifF]
    refine Ends.blk (make25_loop [] hs more hmore 0 0 rfl (headS []) _ _ _ 0 rfl ?_ ?_ ?_ ?_ ?_ _ rfl) ?_
    all_goals first | (simp [headS, lst, cI]; done) | skip
    rintro e sl mem nx pr ⟨rfl, h1, b, h7, hb⟩
    simp (disch := omega) [h1, h7, hb, ifT, headS, nodesR, hz, makeS]
    rw [show (4 * (more : Int)).toNat = 4 * more by omega]
  · have hp : 0 < s.length := List.length_pos_iff.2 h
    simp (disch := omega) [g25, g25b, q, decT, decF, ifT, ifF]
    refine Ends.blk (make25_loop s hs more hmore s.length 0 (by omega) (headS s) _ _ _ 0 (by simp [headS]) ?_ ?_ ?_ ?_ ?_ _ rfl) ?_
    all_goals first | (simp [headS, h, lst, cI]; done) | skip
    rintro e sl mem nx pr ⟨rfl, h1, b, h7, hb⟩
    simp (disch := omega) [h1, h7, hb, ifT, nodesR, nodesR_len, hz, makeS, headS]
    rw [show (4 * (more : Int)).toNat = 4 * more by omega]
theorem word18 (m : List Int) (node word : Int) (hm : m.length < 1000000000) (h0 : 0 ≤ node ∧ 0 ≤ word ∧ word ≤ 3) (h : 4 * node + word < m.length) : cd Γ 18 [.list 1 (ints m), .int .i64 node, .int .i64 word] = some (.int .i64 (m.getD (4 * node + word).toNat 0)) := by
  rw [call (fn := g18) rfl rfl]
  have h1 : (4 * node + word).toNat < m.length := by omega
  simp (disch := omega) [g18, g18b, ifT, decT, h1]
structure Pr where
  a : Int
  b : Int
def Pr.c (p : Pr) : List AVal := [.int .i64 p.a, .int .i64 p.b]
def Pr.ok (p : Pr) : Prop := i64 p.a ∧ i64 p.b
theorem Pr.c_len (a : Pr) : a.c.length = 2 := rfl
theorem Pr.c_nr (a : Pr) : a.c.all AVal.noRef = true := rfl
attribute [simp] Pr.c_len Pr.c_nr
def Bnd (m : List Int) : Prop := ∀ n ∈ m, -1099511627777 ≤ n ∧ n ≤ 1099511627777
theorem Bnd.i64 {m : List Int} (h : Bnd m) : ∀ n ∈ m, i64 n := fun n hn => by have := h n hn; unfold Ab.i64; omega
theorem nodesR_bnd : ∀ (s : List Int) (i : Nat), i + s.length ≤ 1000 → (∀ x ∈ s, 0 ≤ x ∧ x ≤ 20) → Bnd (nodesR i s)
  | [], _, _, _ => by simp [nodesR, Bnd]
  | k :: r, i, hi, h => by
    have ih := nodesR_bnd r (i + 1) (by simp at hi; omega) (fun x hx => h x (by simp [hx]))
    have hk := h k (by simp)
    intro n hn
    simp only [nodesR, List.mem_append, List.mem_cons, List.not_mem_nil, or_false] at hn
    simp only [List.length_cons] at hi
    rcases hn with (rfl | rfl | rfl | rfl) | hn
    · omega
    · split <;> omega
    · omega
    · omega
    · exact ih n hn
theorem makeS_bnd {s : List Int} (hs : SetG s) (more : Nat) : Bnd (makeS s more) := by
  intro n hn
  simp only [makeS, List.mem_append] at hn
  rcases hn with (hn | hn) | hn
  · simp only [headS, List.mem_cons, List.not_mem_nil, or_false] at hn
    rcases hn with rfl | rfl | rfl | rfl | rfl | rfl | rfl | rfl
    all_goals first | omega | (split <;> omega)
  · exact nodesR_bnd s 0 (by have := hs.len; omega) hs.2 n hn
  · rw [List.eq_of_mem_replicate hn]; omega
theorem Bnd.set {m : List Int} (h : Bnd m) (j : Nat) {x : Int} (hx : -1099511627777 ≤ x ∧ x ≤ 1099511627777) : Bnd (m.set j x) := by
  intro n hn
  rcases List.mem_or_eq_of_mem_set hn with h1 | h1
  · exact h n h1
  · subst h1; exact hx
theorem words16_loop (ch : List Pr) (hch : ∀ p ∈ ch, p.ok) (hll : ch.length < 1000000000000000) (N : Nat) (hN : 0 < N ∧ N ≤ 1000) : ∀ (k i : Nat), i + k = min ch.length 5 → ∀ (m : List Int) (sl : List (Nat × AVal)) (mem : List (Nat × Blk)) (nx b : Nat),
    m.length = N → Bnd m → lk sl 2 = .list 2 (lst Pr.c ch) → lk sl 7 = .vec b → mg mem b = some ⟨3, 1, ints m⟩ → lk sl 9 = .int .i64 i → Ends (den Γ (.loop g16l0) ⟨sl, mem, nx, true⟩) fun e sl' mem' _ _ =>
      e = .exit 0 ∧ ∃ b, lk sl' 7 = .vec b ∧ ∃ m', mg mem' b = some ⟨3, 1, ints m'⟩ ∧ m'.length = N ∧ Bnd m' := by
  intro k
  induction k with
  | zero =>
    intro i hi m sl mem nx b hm hbd h2 h7 hb h9
    apply Ends_loop
    conv => lhs; lhs; rw [g16l0]
    by_cases hlt : i < ch.length
    · simp (disch := omega) [h2, h7, h9, hb, hlt, decF]
      exact ⟨m, rfl, hm, hbd⟩
    · simp (disch := omega) [h2, h7, h9, hb, hlt, decF]
      exact ⟨m, rfl, hm, hbd⟩
  | succ k ih =>
    intro i hi m sl mem nx b hm hbd h2 h7 hb h9
    have hil : i < ch.length := by omega
    obtain ⟨o1, o2⟩ := hch _ (List.getElem_mem hil)
    apply Ends_loop
    conv => lhs; lhs; rw [g16l0]
    have p1 := pick39 ch[i].a m.length o1 (by omega)
    have p2 := pick39 ch[i].b 12 o2 (by omega)
    have l1 := pickI_lt ch[i].a m.length (by omega)
    have l2 := pickI_lt ch[i].b 12 (by omega)
    obtain ⟨j, hj⟩ : ∃ j : Nat, pickI ch[i].a m.length = j := ⟨(pickI ch[i].a m.length).toNat, by omega⟩
    rw [hj] at p1 l1
    simp (disch := omega) [h2, h7, h9, hb, hil, Pr.c, p1, p2, decT, ifT]
    refine ih (i + 1) (by omega) (m.set j (pickI ch[i].b 12 - 2)) _ _ _ 0 (by simpa using hm) (hbd.set j (by omega)) ?_ ?_ ?_ ?_
    all_goals first | (simp; done) | (simp [lst, Pr.c]; done)
theorem words16 (raw : List Int) (hr : ∀ n ∈ raw, i64 n) (hll : raw.length < 100000000000000) (more : Int) (hmo : i64 more) (ch : List Pr) (hch : ∀ p ∈ ch, p.ok) (hcl : ch.length < 1000000000000000) :
    ∃ m : List Int, cd Γ 16 [.list 1 (ints raw), .int .i64 more, .list 2 (lst Pr.c ch)] = some (.own 3 1 (ints m)) ∧ 8 ≤ m.length ∧ m.length ≤ 200 ∧ Bnd m := by
  have hs := keysS_ok raw
  have hsl := hs.len
  have l1 := pickI_lt more 4 (by omega)
  obtain ⟨j, hj⟩ : ∃ j : Nat, pickI more 4 = j := ⟨(pickI more 4).toNat, by omega⟩
  have q1 := keys24 raw hr hll
  have q2 := pick39 more 4 hmo (by omega)
  rw [hj] at q2 l1
  have q3 := make25 (keysS raw) hs j (by omega)
  have hml := makeS_len (keysS raw) j
  suffices h : ∃ m : List Int, 8 ≤ m.length ∧ m.length ≤ 200 ∧ Bnd m ∧ finP g16.res (den Γ g16.body ⟨argSlots 0 [.list 1 (ints raw), .int .i64 more, .list 2 (lst Pr.c ch)], [], 0, true⟩) = some (.own 3 1 (ints m)) by
    obtain ⟨m, h1, h2, h3, h4⟩ := h
    exact ⟨m, by rw [call (fn := g16) rfl rfl]; exact h4, h1, h2, h3⟩
  have E : Ends (den Γ g16.body ⟨argSlots 0 [.list 1 (ints raw), .int .i64 more, .list 2 (lst Pr.c ch)], [], 0, true⟩) fun e sl mem _ _ => e = .ret ∧ ∃ b, lk sl 6 = .vec b ∧ ∃ m', mg mem b = some ⟨3, 1, ints m'⟩ ∧ m'.length = (makeS (keysS raw) j).length ∧ Bnd m' := by
    simp [g16, g16b, q1, q2, q3]
    refine Ends.blk (words16_loop ch hch hcl (makeS (keysS raw) j).length (by omega) (min ch.length 5) 0 (by omega) (makeS (keysS raw) j) _ _ _ 0 rfl (makeS_bnd hs j) ?_ ?_ ?_ ?_) ?_
    all_goals first | (simp; done) | skip
    rintro e sl mem nx pr ⟨rfl, b, h7, m', hb, h1, h2⟩
    simp [h7, hb]
    exact ⟨m', rfl, h1, h2⟩
  obtain ⟨e, sl, mem, nx, pr, h1, rfl, b, h6, m', hb, h2, h3⟩ := E
  refine ⟨m', by omega, by omega, h3, ?_⟩
  rw [h1]
  simp [g16, h6, hb]
def zeroW : Wk := ⟨0, 0, 0, 0, 0, 0, 0, 0, 0, 0, 0, 0, false, 0⟩
def beginS (kind key thread node : Int) : Wk × Int :=
  if kind < 1 ∨ 3 < kind ∨ key < -1099511627776 ∨ 1099511627776 < key ∨ thread < 0 ∨ 64 ≤ thread ∨ node < 0 then (zeroW, 1)
  else (⟨kind, 0, key, 0, 0, node, thread + 1, 0, 0, 0, 0, 0, false, 0⟩, 0)
set_option maxHeartbeats 2000000 in
theorem begin14 (kind key thread node : Int) : cd Γ 14 [.int .i64 kind, .int .i64 key, .int .i64 thread, .int .i64 node] = some (.tup [.agg (beginS kind key thread node).1.c, .int .i64 (beginS kind key thread node).2]) := by
  rw [call (fn := g14) rfl rfl]
  unfold beginS zeroW
  by_cases h1 : kind < 1
  · simp [g14, g14b, Wk.c, h1]
  by_cases h2 : 3 < kind
  · simp [g14, g14b, Wk.c, h1, h2]
  by_cases h3 : key < -1099511627776
  · simp [g14, g14b, Wk.c, h1, h2, h3]
  by_cases h4 : 1099511627776 < key
  · simp [g14, g14b, Wk.c, h1, h2, h3, h4]
  by_cases h5 : thread < 0
  · simp [g14, g14b, Wk.c, h1, h2, h3, h4, h5]
  by_cases h6 : 64 ≤ thread
  · simp [g14, g14b, Wk.c, h1, h2, h3, h4, h5, h6]
  by_cases h7 : node < 0
  · simp [g14, g14b, Wk.c, h1, h2, h3, h4, h5, h6, h7]
  simp (disch := omega) [g14, g14b, Wk.c, h1, h2, h3, h4, h5, h6, h7]
set_option maxHeartbeats 2000000 in
theorem begin15 (kind key thread node : Int) : cd Γ 15 [.int .i64 kind, .int .i64 key, .int .i64 thread, .int .i64 node] = some (.tup [.agg (beginS kind key thread node).1.c, .int .i64 (beginS kind key thread node).2]) := by
  rw [call (fn := g15) rfl rfl]
  unfold beginS zeroW
  by_cases h1 : kind < 1
  · simp [g15, g15b, Wk.c, h1]
  by_cases h2 : 3 < kind
  · simp [g15, g15b, Wk.c, h1, h2]
  by_cases h3 : key < -1099511627776
  · simp [g15, g15b, Wk.c, h1, h2, h3]
  by_cases h4 : 1099511627776 < key
  · simp [g15, g15b, Wk.c, h1, h2, h3, h4]
  by_cases h5 : thread < 0
  · simp [g15, g15b, Wk.c, h1, h2, h3, h4, h5]
  by_cases h6 : 64 ≤ thread
  · simp [g15, g15b, Wk.c, h1, h2, h3, h4, h5, h6]
  by_cases h7 : node < 0
  · simp [g15, g15b, Wk.c, h1, h2, h3, h4, h5, h6, h7]
  simp (disch := omega) [g15, g15b, Wk.c, h1, h2, h3, h4, h5, h6, h7]
end Go.Proofs.Ytnomicnfgdjdeaa.Ab
