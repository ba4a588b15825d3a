/- RebalanceLeast: for every Turn the law returns true, and the input reads behind the call as it read before. No condition. -/
import Derived.Test.YtbikpfccdcblfaaRows
import Derived.Test.YtbikpfccdcblfaaKf
import Derived.Test.YtbikpfccdcblfaaKd
import Derived.OpenShut
import Derived.ShutString
namespace Go.Proofs.Ytbikpfccdcblfaa.Eng
open Go Go.Proofs Go.ChangeShapes Go.WideShapes Go.ChangeAt Go.RowKit
set_option linter.unusedVariables false
set_option linter.unusedSimpArgs false

theorem own1 : ownKnob Try.prog.godebug = none := by kernel_rfl
theorem laidOut1 : laidOutB Try.prog = true := by kernel_rfl
theorem bytes53 : Try.prog.bytesOf 53 = 32 := by kernel_rfl
theorem bytes3 : Try.prog.bytesOf 3 = 8 := by kernel_rfl
theorem fine_of {c : D30} (h : FitD Try.prog T30 c) : Fine c := by
  obtain ⟨_, _, _, _, _, _, _, _, _, _, _, _, _, _, _, _, _, _, _, _, _, _, ⟨h1, h2⟩, _⟩ := h
  have hr := reachBytes_lt
  have h47 : (2 : Nat) ^ 47 = 140737488355328 := rfl
  refine ⟨?_, fun x hx => ?_⟩
  · rw [bytes53] at h1
    show (nodesOf c).length ≤ _
    have h1 : (nodesOf c).length * 32 ≤ reachBytes := h1
    omega
  · obtain ⟨_, ⟨h3, _⟩, _⟩ := h2 x hx
    rw [bytes3] at h3
    have h3 : x.2.1.length * 8 ≤ reachBytes := h3
    omega
set_option maxRecDepth 100000 in
theorem pure4 (xs : DataL [T33]) (h : FitL Try.prog [T33] xs) : (T4f.sp big).run xs Dh.empty fun r _ => r.1 = true := by
  obtain ⟨v, u⟩ := xs
  have key := T4_ok (v := v) (fine_of h.1.1) (fine_of h.1.2.1) (K := fun r => r = true) rfl
  exact key
def zeroC : List Value := .string ⟨#[]⟩ :: (List.replicate 21 (.int .i64 0) ++ [.slice none 0 0])
set_option maxRecDepth 100000 in
theorem lifted4 (os : Os) (started : os.Started) (H : Type) (enc : TypeId × Value → H) :
    ReturnsInHanded {} Try.checked os 4 .any (Rows.rebalanceLeastSpec.pre6 enc Try.prog Try.f4 Rows.rebalanceLeastRow.domain false) (Rows.rebalanceLeastSpec.post enc Try.prog Try.f4 false true false false) := by
  refine returnsInHanded_of_change_sized (C := Try.checked) own1 started (by kernel_rfl) Try.func4
    (ChangeSpec.witness6 (enc := enc) (C := Try.checked) false ⟨#[], #[.agg ⟨zeroC ++ (zeroC ++ [.slice none 0 0])⟩], []⟩ 8 (by kernel_rfl) (by kernel_rfl) (by kernel_rfl) (by kernel_rfl)) ?_
  intro W base args ds gs before hval0 hW hcnd hsz0 _
  have hsz : (DataW.weightsEach Try.prog (Try.f4.params.toList ++ Rows.rebalanceLeastSpec.plain.varTypes Try.prog) (ds ++ gs)).all (· ≤ reachBytes) = true := hsz0
  have hW' := hW
  obtain ⟨p, q, hA0, hV, rfl, hfz, hnd⟩ := hW
  have hA : DataW.TrodAll enc Try.prog W 0 (fun _ => true) true Try.f4.params.toList args.toList ds p := hA0
  obtain ⟨rfl, rfl⟩ := trodVars_none hV
  have hw : ∀ n ∈ DataW.weightsEach Try.prog Try.f4.params.toList ds, n ≤ reachBytes := fun n hn => by
    have e : Try.f4.params.toList ++ Rows.rebalanceLeastSpec.plain.varTypes Try.prog = Try.f4.params.toList := by kernel_rfl
    rw [e, List.append_nil] at hsz
    exact of_decide_eq_true (List.all_eq_true.1 hsz n hn)
  have wk := law_calls (P := Try.prog) (W := W) Try.func4 (by kernel_rfl) (by kernel_rfl) T4f.ok (by kernel_rfl) pure4 hA hw hval0
  rw [Try.params4] at hA
  obtain ⟨v0, vs0, d0, ds0, p0, q0, hargs, rfl, rfl, h0, r0⟩ := trodAll_cons hA
  obtain ⟨rfl, rfl, rfl⟩ := trodAll_nil r0
  obtain rfl : args = #[v0] := by cases args; simp_all
  have k0 := h0
  have lt0 : ∀ x ∈ p0, x.block < W.heap.size := by obtain ⟨m, hm⟩ := k0; exact DataW.trod_lt m _ _ _ hm
  clear hA0 hval0 hsz0 hsz
  refine wk.mono fun e W' ⟨he, bel⟩ => ?_
  subst he
  exact ⟨_, rfl, _, _, _, [], _, [], hW', trodAll_mk1 (shut_bool Try.underlying4 _), (trodAll_cons_mk (Below.trod laidOut1 (by kernel_rfl) (of_decide_eq_true (by kernel_rfl)) k0 bel lt0) trodAll_mk0), rfl, bel.frame _, fun h => by cases h⟩
theorem rebalanceLeast_over : Rows.rebalanceLeastRow.holds Try.pinned (OpenSpec.ofChange Rows.rebalanceLeastSpec) :=
  OpenClaim.holds_of_wide 4 Try.f4 rfl rfl rfl rfl rfl rfl rfl ⟨rfl, rfl, rfl, rfl, rfl⟩ rfl rfl rfl rfl rfl (by kernel_rfl) Try.func4 (by kernel_rfl)
    (of_decide_eq_true (by kernel_rfl)) (by unfold Func.isWrapper; first | (rw [if_pos (by decide +kernel)]; kernel_rfl) | (rw [if_neg (by decide +kernel)]; exact ⟨rfl, rfl⟩))
    (fun os started H enc _ => lifted4 os started H enc)
end Go.Proofs.Ytbikpfccdcblfaa.Eng
namespace Go.Proofs.Ytbikpfccdcblfaa
theorem rebalanceLeast_holds : Rows.RebalanceLeastSaid := Eng.rebalanceLeast_over
#print axioms rebalanceLeast_holds
end Go.Proofs.Ytbikpfccdcblfaa
