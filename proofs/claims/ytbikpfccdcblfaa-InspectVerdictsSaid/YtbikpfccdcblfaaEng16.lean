/- The engine, part 16: from what is known of a function to its calls. -/
import Derived.Test.YtbikpfccdcblfaaEng15
namespace Go.Proofs.Ytbikpfccdcblfaa.Eng
open Go Go.RowKit
set_option linter.unusedVariables false
set_option linter.unusedSimpArgs false
theorem SpOK.calls {P : Program} {G : Nat} {k : FuncId} {sp : Sp} (h : SpOK P G k sp) {fn : Func} (hf : P.funcs[k]? = some fn) (hb : fn.body.isSome = true) (hn : (fn.name == "runtime.NumGoroutine") = false)
    {args : List Value} {H : Hp} {K : Value → Hp → Prop} (hr : sp.run args H K) {ρ : Ren} {B : Nat} {w : World} {args' : Array Value} (r : Rep P G ρ B H w.heap) (hv : VRs ρ args args'.toList) :
    Calls P k args' w fun e w' => ∃ v, e = .returned v ∧ Post P G ρ B w K v w' := by
  have := h.sound args H K hr ρ B w args' r hv
  have hb' : fn.body.isNone = false := by
    cases hx : fn.body with
    | none => rw [hx] at hb; cases hb
    | some _ => rfl
  unfold Gives at this
  simp only [callFunc, Sem.run_bind, run_program, Result.andThen_ok, hf, hn, hb'] at this
  exact this
/-- Nothing is known of the heap. -/
theorem Rep.empty (P : Program) (w : World) : Rep P 0 (fun _ => none) w.heap.size ⟨fun _ => none, 0⟩ w.heap :=
  ⟨Nat.le_refl _, ⟨Nat.le_refl _, fun g hg => absurd hg (Nat.not_lt_zero _)⟩, fun _ _ => rfl, fun _ _ h => (by cases h), fun _ _ _ _ _ _ h => (by cases h)⟩
/-- One more row of cells that the call may read. -/
theorem Rep.see {P : Program} {G : Nat} {ρ : Ren} {B : Nat} {H : Hp} {h : Array Obj} (r : Rep P G ρ B H h) {b o : Nat} {e : TypeId} {cs : List Value} {C : Array Value} {e' : TypeId} {fz : Nat × Nat}
    (hb : h[b]? = some (.cells C e' fz)) (hlt : b < B) (hc : CellsR ρ ⟨b, o, 0, 0, false⟩ cs C) : Rep P G (ρ.add H.next ⟨b, o, 0, 0, false⟩) B (H.new (.cells false e cs)) h := by
  have hnone := r.dom H.next (Nat.le_refl _)
  have hext := Ren.add_ext (ρ := ρ) (⟨b, o, 0, 0, false⟩ : Loc) hnone
  refine ⟨r.base, ⟨Nat.le_succ_of_le r.glob.1, fun g hg => ?_⟩, fun b2 hb2 => ?_, fun b2 o2 h2 => ?_, fun b1 b2 l1 l2 o1 o2 h1 h2 k1 k2 hm hne => ?_⟩
  · obtain ⟨l', a, b'⟩ := r.glob.2 g hg
    exact ⟨l', hext _ _ a, b'⟩
  · have hb' : H.next + 1 ≤ b2 := hb2
    unfold Ren.add; rw [if_neg (by omega)]; exact r.dom b2 (by omega)
  · simp only [Hp.new] at h2
    split at h2
    · rename_i e1; subst e1; cases h2
      exact ⟨_, Ren.add_self _ _ _, C, e', fz, hb, fun i v hv => let ⟨v', a, b, c⟩ := hc i v hv; ⟨v', a, b.mono hext, c⟩, fun h => by cases h⟩
    · obtain ⟨l', a, b'⟩ := r.obj b2 o2 h2
      exact ⟨l', hext _ _ a, b'.mono hext⟩
  · simp only [Hp.new] at h1 h2
    have low : ∀ (o : AObj) (l : Loc), ObjR P ρ B l h o → o.mut = true → B ≤ l.blk := fun o l ho hm => by
      cases o with
      | cells own e cs => obtain ⟨_, _, _, _, _, h3⟩ := ho; exact (h3 hm).1
      | map kt es => obtain ⟨_, _, _, h3, _⟩ := ho; exact h3
    split at h1
    · rename_i e1
      cases h1
      cases hm
    · obtain ⟨l', a, ho⟩ := r.obj b1 o1 h1
      rw [hext _ _ a] at k1; cases k1
      split at h2
      · rename_i e2
        subst e2
        rw [Ren.add_self] at k2; cases k2
        have := low _ _ ho hm
        show l1.blk ≠ b
        omega
      · obtain ⟨l'', a', ho'⟩ := r.obj b2 o2 h2
        rw [hext _ _ a'] at k2; cases k2
        exact r.sep b1 b2 _ _ o1 o2 h1 h2 a a' hm hne
end Go.Proofs.Ytbikpfccdcblfaa.Eng
