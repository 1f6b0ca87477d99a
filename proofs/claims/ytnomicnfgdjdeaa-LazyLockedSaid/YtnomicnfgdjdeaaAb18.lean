/- What slices.Clone answers, whatever the memory. Part of a layer that interprets Go code over values. No condition. -/
import Derived.Test.YtnomicnfgdjdeaaAb12
import Derived.Lib.SliceRun
namespace Go.Proofs.Ytnomicnfgdjdeaa.Ab
open Go.RowKit

def cloneA0 (ty sz : Nat) : ACode := .seq (.ops none [⟨some 2, none, .nv ty sz⟩]) .ret
def cloneA1 (ty sz bytes : Nat) (zero : List AVal) : ACode := .seq (.ops none [⟨some 5, none, .bsv ty sz zero 0 []⟩, ⟨some 6, none, .mov (.t 0)⟩, ⟨some 7, none, .app ty sz bytes zero (.t 5) (.t 6)⟩, ⟨some 2, none, .mov (.t 7)⟩]) .ret
def cloneB (P : Program) (F : Func) (ty sz bytes : Nat) (zero : List AVal) (t : TypeId) : Bool :=
  F.ntmps == 8 && okRes P [.t 2] F.results.toList && (match P.underlying t with | some (.slice _) => true | _ => false) && match F.body with
  | some (.seq R0 (.seq (.seq (.region _ ops false) (.cond (.tmp 4) B0 .skip)) B1)) =>
    okCode P 8 (.ops none [⟨some 2, none, .mov (.c (.list sz []))⟩]) R0 && okCode P 8 (cloneA0 ty sz) B0 && okCode P 8 (cloneA1 ty sz bytes zero) B1 &&
    match ops.toList with
    | [o1, o2] => okAO P 8 ops o1 ⟨some 3, none, .mov (.t 0)⟩ && o2.guard.isNone && o2.dst == some 4 && (match o2.op with | .binOp .eql t' (.tmp 3) (.const (.slice none 0 0)) _ => t' == t | _ => false)
    | _ => false
  | _ => false
def Γ0 : Env := ⟨fun _ => none, fun _ _ => none⟩
theorem Γ0_ok {P : Program} (h : P.follows .mixedOrders = true) : EnvOk P Γ0 := ⟨h, fun _ _ h => (by cases h), fun _ _ _ _ h => (by cases h)⟩
theorem clone_spec {P : Program} {f : Nat} {F : Func} {ty sz bytes t : Nat} {zero : List AVal} (hmix : P.follows .mixedOrders = true) (hF : P.funcs[f]? = some F) (hB : cloneB P F ty sz bytes zero t = true) {es : List (List AVal)}
    (hes : es.length * bytes ≤ 140737488355328) : PureSpec P f [.list sz es] (.own ty sz es) := by
  simp only [cloneB, Bool.and_eq_true, beq_iff_eq] at hB
  obtain ⟨⟨⟨hnt, hres⟩, hsl⟩, hbody⟩ := hB
  split at hbody
  · rename_i R0 rid ops B0 B1 hC
    simp only [Bool.and_eq_true] at hbody
    obtain ⟨⟨⟨k0, k1⟩, k2⟩, k3⟩ := hbody
    split at k3
    · rename_i o1 o2 hops
      simp only [Bool.and_eq_true, beq_iff_eq] at k3
      obtain ⟨⟨⟨ko1, kg⟩, kd⟩, ko2⟩ := k3
      split at ko2
      · rename_i t' u hop
        simp only [beq_iff_eq] at ko2
        subst ko2
        split at hsl
        · rename_i el ht
          intro I w us hd hul hargs
          have hnr : noRefE es = true := by
            have h0 := hargs 0 _ rfl
            generalize us.getD 0 undef = u at h0
            cases h0 with
            | list _ _ A cap vals g1 g2 g3 g4 g5 =>
              simp only [noRefE, List.all_eq_true]
              exact g3
          refine calls_of_wp hF hC ?_
          have hinv : Inv I (fun _ => none) [] 0 w := ⟨hd, fun _ _ => rfl, fun id B h => by simp [mg] at h, fun i j B C r s k h => by simp [mg] at h⟩
          have hrel : Rel ⟨I, fun _ => none, [], w⟩ 8 [] ⟨argSlots 0 [.list sz es], [], 0, true⟩ { tmps := us ++ Array.replicate (F.ntmps - us.size) undef, defers := [] } w :=
            ⟨I, fun _ => none, hinv, start_reps hul hargs _, by simp at hul ⊢; omega, rfl, Evol.refl _ _ _ _, fun _ => rfl⟩
          have S := sound (Γ0_ok hmix) 5
          have hsz1 : ops.size = 2 := by have := congrArg List.length hops; simpa using this
          have he1 : ops[0]? = some o1 := by rw [← Array.getElem?_toList, hops]; rfl
          have he2 : ops[1]? = some o2 := by rw [← Array.getElem?_toList, hops]; rfl
          have main : Code.wp P (.seq R0 (.seq (.seq (.region rid ops false) (.cond (.tmp 4) B0 .skip)) B1)) (fun x a' w' => x = .ret ∧ ∃ (s' : St) (b : Nat), lk s'.sl 2 = .vec b ∧ mg s'.mem b = some ⟨ty, sz, es⟩ ∧ Rel ⟨I, fun _ => none, [], w⟩ 8 [] s' a' w') { tmps := us ++ Array.replicate (F.ntmps - us.size) undef, defers := [] } w := by
            refine wp_seq ?_
            refine wp_mono (S 8 _ R0 _ _ .normal k0 rfl _ [] _ w hrel) (fun x a1 w1 ⟨hx, hr⟩ => then_of (fun _ => ?_) (fun hn => absurd hx hn))
            refine wp_seq (wp_seq (wp_region ?_))
            rw [hsz1, show List.range 2 = [0, 1] from rfl, wpOps_cons]
            have hc0 : CallsOk P (fun _ _ => none) (fun _ _ _ _ => none) := ⟨fun _ _ _ h => (by cases h), fun _ _ _ _ _ _ _ h => (by cases h)⟩
            refine step_wp hc0 hr he1 ko1 (s' := ⟨[(3, .list sz es), (2, .list sz []), (0, .list sz es)], [], 0, true⟩) rfl (fun a2 w2 hr2 => ?_)
            rw [wpOps_cons]
            unfold wpOp
            simp only [he2]
            have hw : Region.wanted o2 (yielded ops a2.tmps) = true := by
              unfold Region.wanted
              have : o2.guard = none := by simpa using kg
              rw [this]
            rw [hw]
            simp only [if_true]
            refine .inl ?_
            obtain ⟨I2, ρ2, r1, r2, r3, r4, r5, r6⟩ := hr2
            have h3 := r2 3
            simp only [lk] at h3
            rw [if_pos trivial] at h3
            generalize hv3 : a2.tmps.getD 3 undef = v3 at h3
            cases h3 with
            | list _ _ A cap vals g1 g2 g3 g4 g5 =>
              have run : (execOp a2.eval o2).run P w2 = .ok (.value (.bool A.isNone)) w2 := by
                have e3 : a2.eval (.tmp 3) = .slice A es.length cap := by
                  rw [← hv3]; rfl
                have e4 : a2.eval (.const (.slice none 0 0)) = .slice none 0 0 := rfl
                have hg : (eqGuard .eql t' (.tmp 3) (.const (.slice none 0 0)) (.slice A es.length cap) (.slice none 0 0)).run P w2 = .ok () w2 := rfl
                simp [execOp, hop, e3, e4, hg, Go.Lib.run_eql_slice_nil w2 _ el A es.length cap 0 0 ht]
              refine (OpGives.of_run (R := fun v w' => v = .bool A.isNone ∧ w' = w2) run ⟨rfl, rfl⟩).wp (fun v w' hvw => ?_)
              obtain ⟨hv, hw'⟩ := hvw
              subst hv
              rw [hw']
              have hdst : ∀ t, o2.dst = some t → t < a2.tmps.size := by intro q h; rw [kd] at h; cases h; show 4 < a2.tmps.size; rw [r3]; decide
              have hr3 : Rel ⟨I, fun _ => none, [], w⟩ 8 [] ⟨[(4, .bool A.isNone), (3, .list sz es), (2, .list sz []), (0, .list sz es)], [], 0, true⟩ (a2.put o2.dst (.bool A.isNone)) w2 :=
                ⟨I2, ρ2, r1, by have := r2.put o2.dst hdst (v := .bool A.isNone) (x := .bool A.isNone) (.bool _); rw [kd] at this ⊢; exact this, by rw [put_size]; exact r3, by rw [put_defers]; exact r4, r5, r6⟩
              refine then_of (fun _ => ?_) (fun hn => absurd rfl hn)
              cases hA : A.isNone with
              | true =>
                rw [hA] at hr3
                have ⟨I4, ρ4, r1', r2', r3'⟩ := hr3
                have hes0 : es = [] := by
                  by_cases hne : es = []
                  · exact hne
                  · obtain ⟨a, ha, _⟩ := g4 hne
                    subst ha; cases hA
                subst hes0
                refine wp_cond (eval_bool (x := .t 4) r2' rfl rfl) ?_
                refine wp_mono (S 8 _ B0 _ _ .ret k1 rfl _ [] _ _ hr3) (fun x a' w' ⟨hx, hr⟩ => then_of (fun hn => by rw [hn] at hx; cases hx) (fun _ => ⟨hx, ⟨[(2, .vec 0), (4, .bool true), (3, .list sz []), (2, .list sz []), (0, .list sz [])], [(0, ⟨ty, sz, []⟩)], 1, true⟩, 0, rfl, rfl, hr⟩))
              | false =>
                rw [hA] at hr3
                have ⟨I4, ρ4, r1', r2', r3'⟩ := hr3
                refine wp_cond (eval_bool (x := .t 4) r2' rfl rfl) ?_
                refine wp_skip (then_of (fun _ => ?_) (fun hn => absurd rfl hn))
                have hex : exec Γ0 5 (cloneA1 ty sz bytes zero) ⟨[(4, .bool false), (3, .list sz es), (2, .list sz []), (0, .list sz es)], [], 0, true⟩ =
                    some (.ret, ⟨[(2, .vec 1), (7, .vec 1), (6, .list sz es), (5, .vec 0), (4, .bool false), (3, .list sz es), (2, .list sz []), (0, .list sz es)], [(1, ⟨ty, sz, es⟩)], 2, true⟩) := by
                  simp [cloneA1, exec, steps, step, wantS, sem, semP, ev, lk, putS, fillE, mg, md, hes]
                refine wp_mono (S 8 _ B1 _ _ .ret k2 hex _ [] _ _ hr3) (fun x a' w' ⟨hx, hr⟩ => ⟨hx, _, 1, rfl, rfl, hr⟩)
          refine wp_mono main (fun x a' w' ⟨hx, s', b, hs1, hs2, hr⟩ => ?_)
          subst hx
          obtain ⟨I', ρ', r1, r2, r3, r4, r5, r6⟩ := hr
          have hvs : resVs s' [.t 2] = some [.vec b] := by simp [resVs, resV, hs1]
          obtain ⟨zs, z1, z2, z3⟩ := results_run (P := P) (F := F) r1 r2 hres hvs
          have hret := ret_ok r1 r5 z2 z3 rfl (os := [.own ty sz es]) (by simp [outs, out1, hs2, hnr])
          exact ⟨r4, _, z1, _, rfl, hret⟩
        · cases hsl
      · cases ko2
    · cases k3
  · cases hbody
end Go.Proofs.Ytnomicnfgdjdeaa.Ab
