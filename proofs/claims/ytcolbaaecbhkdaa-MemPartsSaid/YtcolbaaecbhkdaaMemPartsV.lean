/- MemParts by the interpreter. No condition. -/
import Derived.Test.YtcolbaaecbhkdaaMemP
namespace Go.Proofs.Ytcolbaaecbhkdaa.Ab
open Go.RowKit
set_option linter.unusedSimpArgs false
theorem do_good {m : List Int} {a : Acc} {j : Nat} (hm : m.length ≤ 50000) (hj : a.at_ = j) (hjm : j < m.length) (ho : a.op = 1 ∨ a.op = 2 ∨ a.op = 3 ∨ a.op = 4) (hw : okW a.new) (hw' : okW (m[j] + a.new)) :
    ∃ (v : Int) (d : Bool), doS m a = (m.set j v, ⟨m[j], d⟩, 0) ∧ ∀ (m' : List Int), m'.length ≤ 50000 → ∀ (hjm' : j < m'.length), m'[j] = m[j] → doS m' a = (m'.set j v, ⟨m[j], d⟩, 0) := by
  rcases ho with ho | ho | ho | ho
  · refine ⟨m[j], true, by rw [do_load hm ho hj hjm]; simp, fun m' hm' hjm' e => ?_⟩
    rw [do_load hm' ho hj hjm', ← e]; simp
  · refine ⟨a.new, true, do_store hm ho hj hjm hw, fun m' hm' hjm' e => ?_⟩
    rw [do_store hm' ho hj hjm' hw, e]
  · by_cases hc : m[j] = a.old
    · refine ⟨a.new, true, do_cas_t hm ho hj hjm hw hc, fun m' hm' hjm' e => ?_⟩
      rw [do_cas_t hm' ho hj hjm' hw (e.trans hc), e]
    · refine ⟨m[j], false, by rw [do_cas_f hm ho hj hjm hc]; simp, fun m' hm' hjm' e => ?_⟩
      rw [do_cas_f hm' ho hj hjm' (by rw [e]; exact hc), ← e]; simp
  · refine ⟨m[j] + a.new, true, do_add hm ho hj hjm hw', fun m' hm' hjm' e => ?_⟩
    rw [do_add hm' ho hj hjm' (by rw [e]; exact hw'), e]
/-- Two accesses to unlike words. -/
theorem two_ok (x y : Acc) (i j : Nat) (hx : Good 2 x) (hy : Good 4 y) (hi : x.at_ = i) (hi2 : i < 2) (hj : y.at_ = j) (hj2 : 2 ≤ j ∧ j < 4) :
    okRun [0, 1, 2, 3, 0] [x, y] ∧ okRun [0, 1, 2, 3, 0] [y, x] ∧ memN [0, 1, 2, 3, 0] [x, y] = memN [0, 1, 2, 3, 0] [y, x] ∧ (memN [0, 1, 2, 3, 0] [y, x]).length = 5 ∧ ∃ p q, fndN [0, 1, 2, 3, 0] [x, y] = [p, q] ∧ fndN [0, 1, 2, 3, 0] [y, x] = [q, p] := by
  have hs : Small 5 3 [0, 1, 2, 3, 0] := ⟨rfl, by simp⟩
  generalize [(0 : Int), 1, 2, 3, 0] = m at hs
  have hl := hs.1
  have b1 := hs.2 (m[i]'(by omega)) (List.getElem_mem _)
  have b2 := hs.2 (m[j]'(by omega)) (List.getElem_mem _)
  obtain ⟨x1, _, _, _, x5⟩ := hx
  obtain ⟨y1, _, _, _, y5⟩ := hy
  obtain ⟨v, d, e1, f1⟩ := do_good (m := m) (a := x) (j := i) (by omega) hi (by omega) x1 (by unfold okW; omega) (by unfold okW; omega)
  obtain ⟨u, c, e2, f2⟩ := do_good (m := m) (a := y) (j := j) (by omega) hj (by omega) y1 (by unfold okW; omega) (by unfold okW; omega)
  have g1 := f1 (m.set j u) (by simp; omega) (by simp; omega) (by rw [List.getElem_set_ne (by omega)])
  have g2 := f2 (m.set i v) (by simp; omega) (by simp; omega) (by rw [List.getElem_set_ne (by omega)])
  refine ⟨⟨by rw [e1], by rw [e1]; exact ⟨by rw [g2], trivial⟩⟩, ⟨by rw [e2], by rw [e2]; exact ⟨by rw [g1], trivial⟩⟩, ?_, ?_, ⟨m[i]'(by omega), d⟩, ⟨m[j]'(by omega), c⟩, ?_, ?_⟩
  · simp only [memN, e1, e2, g1, g2]
    exact List.set_comm _ _ (by omega)
  · simp only [memN, e2, g1]; simp [hl]
  · simp only [fndN, e1, g2]
  · simp only [fndN, e2, g1]
theorem parts6 (raw : List Raw) (hll : raw.length < 1000000000000000) (hr : ∀ a ∈ raw, a.ok) (at_ : Int) (hat : i64 at_) (one two : Raw) (h1 : one.ok) (h2 : two.ok) : cd Γ 6 [.list 4 (lst Raw.cs raw), .int .i64 at_, .agg one.cs, .agg two.cs] = some (.bool true) := by
  rw [call (fn := g6) rfl rfl]
  apply Ends.fin
  have ha := accs16 5 (by unfold i64; omega) raw hll hr
  have hgood : ∀ a ∈ (raw.take 40).map (accOf 5), Good 5 a := by
    intro a h
    obtain ⟨r, _, rfl⟩ := List.mem_map.1 h
    exact accOf_good 5 (by omega) r
  have hlen : ((raw.take 40).map (accOf 5)).length ≤ 40 := by simp; omega
  generalize (raw.take 40).map (accOf 5) = l at ha hgood hlen
  have hz : Small 5 3 [0, 1, 2, 3, 0] := ⟨rfl, by simp⟩
  have pk := pick12 at_ (l.length + 1) hat (by omega)
  have qk := pickI_lt at_ (l.length + 1) (by omega)
  generalize pickI at_ (l.length + 1) = kk at pk qk
  obtain ⟨k, rfl⟩ : ∃ k : Nat, kk = k := ⟨kk.toNat, by omega⟩
  have hall : ∀ a ∈ l, a.ok := fun a h => good_ok (by omega) (hgood a h)
  obtain ⟨hok, hsm⟩ := small_run (by omega) l _ 3 hz (by omega) (by omega) hgood
  have hsplit : l = l.take k ++ l.drop k := (List.take_append_drop k l).symm
  have hok2 := hok
  rw [hsplit, okRun_app] at hok2
  have hm2 : memN (memN [0, 1, 2, 3, 0] (l.take k)) (l.drop k) = memN [0, 1, 2, 3, 0] l := by rw [← memN_app, ← hsplit]
  have hf2 : fndN [0, 1, 2, 3, 0] l = fndN [0, 1, 2, 3, 0] (l.take k) ++ fndN (memN [0, 1, 2, 3, 0] (l.take k)) (l.drop k) := by rw [← fndN_app, ← hsplit]
  obtain ⟨_, hsm1⟩ := small_run (by omega) (l.take k) _ 3 hz (by omega) (by simp; omega) (fun a h => hgood a (List.mem_of_mem_take h))
  have hz5 : ints [0, 1, 2, 3, 0] = [[AVal.int .i64 0], [.int .i64 1], [.int .i64 2], [.int .i64 3], [.int .i64 0]] := rfl
  have pa := play17 [0, 1, 2, 3, 0] l (by simp) (by simp [i64]) (by omega) hall
  have pb := play17 [0, 1, 2, 3, 0] (l.take k) (by simp) (by simp [i64]) (by simp; omega) (fun a h => hall a (List.mem_of_mem_take h))
  have pc := play17 (memN [0, 1, 2, 3, 0] (l.take k)) (l.drop k) (by have := hsm1.1; omega) (fun n hn => by have := hsm1.2 n hn; simp at this; unfold i64; omega) (by simp; omega) (fun a h => hall a (List.mem_of_mem_drop h))
  rw [run_ok _ _ _ hok] at pa
  rw [run_ok _ _ _ hok2.1] at pb
  rw [run_ok _ _ _ hok2.2, hm2] at pc
  simp only [playV, List.nil_append] at pa pb pc
  have hdropF : (fndN [0, 1, 2, 3, 0] l).drop k = fndN (memN [0, 1, 2, 3, 0] (l.take k)) (l.drop k) := by
    have hk : (fndN [0, 1, 2, 3, 0] (l.take k)).length = k := by rw [fndN_len]; simp; omega
    rw [hf2, List.drop_append_of_le_length (by omega), List.drop_of_length_le (by omega), List.nil_append]
  have hfl := fndN_len l [0, 1, 2, 3, 0]
  have hc15 := ints15 (memN [0, 1, 2, 3, 0] l) (memN [0, 1, 2, 3, 0] l) (by have := hsm.1; omega)
  have hs19 := found19 (fndN (memN [0, 1, 2, 3, 0] (l.take k)) (l.drop k)) (fndN (memN [0, 1, 2, 3, 0] (l.take k)) (l.drop k)) (by rw [fndN_len]; simp; omega)
  rw [← hdropF] at pc hs19
  generalize memN [0, 1, 2, 3, 0] (l.take k) = m1 at pb pc
  generalize fndN [0, 1, 2, 3, 0] (l.take k) = F1 at pb
  generalize memN [0, 1, 2, 3, 0] l = A at pa pc hc15
  generalize fndN [0, 1, 2, 3, 0] l = F at pa pc hs19 hfl
  rw [hz5] at pa pb
  -- the two
  have hx2 := accs16 2 (by unfold i64; omega) [one, two] (by simp) (by simp [h1, h2])
  have gx := accOf_good 2 (by omega) one
  have gy := accOf_good 2 (by omega) two
  simp only [List.take_succ_cons, List.take_nil, List.map_cons, List.map_nil] at hx2
  generalize accOf 2 one = x at hx2 gx
  generalize accOf 2 two = y at hx2 gy
  obtain ⟨i, hi⟩ : ∃ i : Nat, x.at_ = i := ⟨x.at_.toNat, by have := gx.2.1; omega⟩
  obtain ⟨j, hj⟩ : ∃ j : Nat, y.at_ = j := ⟨y.at_.toNat, by have := gy.2.1; omega⟩
  have gy' : Good 4 ⟨y.op, y.at_ + 2, y.old, y.new⟩ := by obtain ⟨q1, q2, q3, q4, q5⟩ := gy; exact ⟨q1, by simp only; omega, by simp only; omega, q4, q5⟩
  obtain ⟨k1, k2, k3, k5, p, q, k6, k7⟩ := two_ok x ⟨y.op, y.at_ + 2, y.old, y.new⟩ i (j + 2) gx gy' hi (by have := gx.2.2.1; omega) (by simp only; omega) (by have := gy.2.2.1; omega)
  have hxo := good_ok (by omega) gx
  have hyo := good_ok (by omega) gy'
  have px := play17 [0, 1, 2, 3, 0] [x, ⟨y.op, y.at_ + 2, y.old, y.new⟩] (by simp) (by simp [i64]) (by simp) (by simp [hxo, hyo])
  have py := play17 [0, 1, 2, 3, 0] [⟨y.op, y.at_ + 2, y.old, y.new⟩, x] (by simp) (by simp [i64]) (by simp) (by simp [hxo, hyo])
  rw [run_ok _ _ _ k1, k3, k6] at px
  rw [run_ok _ _ _ k2, k7] at py
  have hd15 := ints15 (memN [0, 1, 2, 3, 0] [⟨y.op, y.at_ + 2, y.old, y.new⟩, x]) (memN [0, 1, 2, 3, 0] [⟨y.op, y.at_ + 2, y.old, y.new⟩, x]) (by omega)
  generalize memN [0, 1, 2, 3, 0] [⟨y.op, y.at_ + 2, y.old, y.new⟩, x] = M at px py hd15
  simp only [playV, List.nil_append, hz5] at px py
  have hyb := gy.2.2.1
  simp only [lst, List.map_cons, List.map_nil] at hx2 px py
  rw [show List.map cI M = ints M from rfl] at px py
  obtain ⟨pv, pd⟩ := p
  obtain ⟨qv, qd⟩ := q
  have hcd1 : cd Γ 16 [.list 4 [one.cs, two.cs], .int .i64 2] = some (.own 25 4 [x.c, y.c]) := hx2
  clear hx2
  simp only [Acc.c, Fnd.c, Raw.cs] at px py hcd1
  simp (maxSteps := 400000) (disch := omega) [g6, g6b, awake11, ha, pk, pa, pb, pc, hfl, hc15, hs19, hd15, px, py, decT, decF, ifT, hcd1, Acc.c, Fnd.c, Raw.cs]
theorem parts_cd (vs : List AVal) (h : ArgsOk [kRs, kI, kR, kR] vs) : cd Γ 6 vs = some (.bool true) := by
  obtain ⟨a, b, c, d, rfl, ha, hb, hc, hd⟩ := args4 h
  obtain ⟨l, rfl, h1, hl⟩ := arg_raws ha
  obtain ⟨n, rfl, hn⟩ := arg_int hb
  obtain ⟨x, rfl, hx⟩ := arg_raw hc
  obtain ⟨y, rfl, hy⟩ := arg_raw hd
  exact parts6 l (by omega) hl n hn x y hx hy
end Go.Proofs.Ytcolbaaecbhkdaa.Ab
