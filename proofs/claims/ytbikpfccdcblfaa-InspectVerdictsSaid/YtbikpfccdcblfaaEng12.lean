/- The engine, part 12: what is known of a function; each operation as the walk runs it. -/
import Derived.Test.YtbikpfccdcblfaaEng11
namespace Go.Proofs.Ytbikpfccdcblfaa.Eng
open Go Go.RowKit
set_option linter.unusedVariables false
set_option linter.unusedSimpArgs false

/-- What a call of function k does. -/
def Gives (P : Program) (k : FuncId) (args : Array Value) (w : World) (R : Value → World → Prop) : Prop :=
  match (callFunc k args).run P w with
  | .ok (.value v) w' => R v w'
  | .ok (.enter f as) w' => Calls P f as w' fun e w'' => ∃ v, e = .returned v ∧ R v w''
  | _ => False
/-- A summary that is true of the function. -/
structure SpOK (P : Program) (G : Nat) (k : FuncId) (sp : Sp) : Prop where
  quiet : sp.quiet = true → ∀ (args : List Value) (H : Hp) (K : Value → Hp → Prop), sp.run args H K → ∃ v, K v H ∧ ∀ K' : Value → Hp → Prop, K' v H → sp.run args H K'
  sound : ∀ (args : List Value) (H : Hp) (K : Value → Hp → Prop), sp.run args H K → ∀ (ρ : Ren) (B : Nat) (w : World) (args' : Array Value), Rep P G ρ B H w.heap → VRs ρ args args'.toList → Gives P k args' w (Post P G ρ B w K)

/-- What an operation does. -/
def Run (P : Program) (a : Act) (o : Oper) (w : World) (R : Value → World → Prop) : Prop :=
  match (execOp a.eval o).run P w with
  | .ok (.value v) w' => R v w'
  | .ok .skip w' => R undef w'
  | .ok (.enter f as) w' => Calls P f as w' fun e w'' => ∃ v, e = .returned v ∧ R v w''
  | _ => False
theorem Run.wp {P : Program} {a : Act} {o : Oper} {w : World} {R : Value → World → Prop} {next : Act → World → Prop} {Q : Exit → Act → World → Prop} (h : Run P a o w R)
    (hk : ∀ v w', R v w' → next (a.put o.dst v) w') : o.wp P a w next Q := by
  unfold Run at h
  unfold Oper.wp
  generalize (execOp a.eval o).run P w = res at h ⊢
  cases res with
  | halt x w' => exact h.elim
  | ok nx w' =>
    cases nx <;> first | exact h.elim | exact hk _ _ h | skip
    rename_i f as
    refine Calls.mono h fun e w'' he => ?_
    obtain ⟨v, rfl, hr⟩ := he
    exact hk _ _ hr

variable {P : Program} {G : Nat} {ρ : Ren} {B : Nat} {H : Hp} {w : World} {n : Nat} {σ : Env} {a : Act}
theorem run_value {o : Oper} {s : Sem Value} {v : Value} {w' : World} {R : Value → World → Prop} (ho : execOp a.eval o = (do pure (Next.value (← s)))) (hs : s.run P w = .ok v w') (hr : R v w') : Run P a o w R := by
  unfold Run
  rw [ho]
  simp only [Sem.run_bind, hs, Result.andThen_ok, Sem.run_pure]
  exact hr
theorem run_unit {o : Oper} {s : Sem Unit} {w' : World} {R : Value → World → Prop} (ho : execOp a.eval o = (do s; pure Next.skip)) (hs : s.run P w = .ok () w') (hr : R undef w') : Run P a o w R := by
  unfold Run
  rw [ho]
  simp only [Sem.run_bind, hs, Result.andThen_ok, Sem.run_pure]
  exact hr
theorem undef_VR (ρ : Ren) : VR ρ undef undef := .tuple rfl (fun i v v' h => by simp at h)
theorem arr_one {xs : Array Value} {x : Value} {r : List Value} (h : xs.toList = x :: r) (hr : r = []) : xs = #[x] := by
  subst hr; exact Array.ext' h
theorem builtinK_ok (r : Rep P G ρ B H w.heap) {b : Builtin} {ts : Array TypeId} {ty : TypeId} {cs : Array Bool} {vs : List Value} {args : Array Value} {K : Value → Hp → Prop} (hv : VRs ρ vs args.toList) (h : builtinK P b ts.toList vs H K) :
    ∃ s : Sem Value, builtin b ts ty cs args = (do pure (Next.value (← s))) ∧ ∃ v' w', s.run P w = .ok v' w' ∧ Post P G ρ B w K v' w' := by
  unfold builtinK at h
  split at h
  · rename_i t x hts
    obtain ⟨x', r1, hx, h1, h2⟩ := hv.cons_left
    have ha := arr_one hx h2.nil_left
    have ht : ts = #[t] := Array.ext' hts
    obtain ⟨v, hk, hp, hr⟩ := lenK_ok (ty := ty) r h1 h
    subst ha; subst ht
    exact ⟨_, rfl, v, w, hr, Post.still r hk (plain_VR hp ρ)⟩
  · rename_i t t2 s x hts
    obtain ⟨s', r1, hx, h1, h2⟩ := hv.cons_left
    obtain ⟨x', r2, hy, h3, h4⟩ := h2.cons_left
    have ha : args = #[s', x'] := Array.ext' (by rw [hx, hy, h4.nil_left])
    have ht : ts = #[t, t2] := Array.ext' hts
    obtain ⟨v', w', hr, hp⟩ := appendK_ok (ty := ty) r h1 h3 h
    subst ha; subst ht
    exact ⟨_, rfl, v', w', hr, hp⟩
  · rename_i t t2 d s hts
    obtain ⟨s', r1, hx, h1, h2⟩ := hv.cons_left
    obtain ⟨x', r2, hy, h3, h4⟩ := h2.cons_left
    have ha : args = #[s', x'] := Array.ext' (by rw [hx, hy, h4.nil_left])
    have ht : ts = #[t, t2] := Array.ext' hts
    obtain ⟨v', w', hr, hp⟩ := copyK_ok (ty := ty) r h1 h3 h
    subst ha; subst ht
    exact ⟨_, rfl, v', w', hr, hp⟩
  · obtain ⟨v, hk, hp, hr⟩ := maxK_ok (ts := ts) (ty := ty) hv h
    exact ⟨_, rfl, v, w, by simpa using hr w, Post.still r hk (plain_VR hp ρ)⟩
  · obtain ⟨v, hk, hp, hr⟩ := maxK_ok (ts := ts) (ty := ty) hv h
    exact ⟨_, rfl, v, w, by simpa using hr w, Post.still r hk (plain_VR hp ρ)⟩
  · rename_i t t2 m k hts
    obtain ⟨s', r1, hx, h1, h2⟩ := hv.cons_left
    obtain ⟨x', r2, hy, h3, h4⟩ := h2.cons_left
    have ha : args = #[s', x'] := Array.ext' (by rw [hx, hy, h4.nil_left])
    obtain ⟨w', H', hr, hrep, hb, hk⟩ := deleteK_ok (ty := ty) r h1 h3 h (ts := ts) (by rw [← Array.getElem?_toList, hts]; rfl)
    subst ha
    exact ⟨_, rfl, _, w', hr, ρ, _, H', hk, .refl ρ, undef_VR ρ, hrep, hb⟩
  · exact h.elim
theorem parts_toList (ps : Array (Nat × Operand)) (a : Act) : (ps.map fun (i, x) => (i, a.eval x)).toList = ps.toList.map fun (i, x) => (i, a.eval x) := by simp
set_option maxHeartbeats 4000000 in
theorem op_ok {c : Cfg} (hT : ∀ k sp, c.T k = some sp → SpOK c.P c.G k sp) {o : Oper} {draw : Bool} {K : Value → Hp → Prop} (r : Rep c.P c.G ρ B H w.heap) {E : Operand → Option Value} (hE : ∀ x v, E x = some v → VR ρ v (a.eval x)) (h : opK c draw o.op E H K) :
    Run c.P a o w (Post c.P c.G ρ B w K) := by
  obtain ⟨dst, op, type, pos, after, guard⟩ := o
  simp only at h
  cases op <;> try exact h.elim
  case move x =>
    obtain ⟨v, hv, hk⟩ := optP_elim h
    exact Post.still r hk (hE _ _ hv)
  case assign x =>
    obtain ⟨v, hv, hk⟩ := optP_elim h
    exact Post.still r hk (hE _ _ hv)
  case pick t x y =>
    simp only [opK] at h
    split at h
    · rename_i ht
      have := (hE _ _ ht).bool_inv
      obtain ⟨v, hv, hk⟩ := optP_elim h
      unfold Run; simp only [execOp, this, asBool, Sem.run_bind, Sem.run_pure, Result.andThen_ok, if_true]
      exact Post.still r hk (hE _ _ hv)
    · rename_i ht
      have := (hE _ _ ht).bool_inv
      obtain ⟨v, hv, hk⟩ := optP_elim h
      unfold Run; simp only [execOp, this, asBool, Sem.run_bind, Sem.run_pure, Result.andThen_ok]
      exact Post.still r hk (hE _ _ hv)
    · exact h.elim
  case alloc e =>
    obtain ⟨z, hz, hk⟩ := optP_elim h
    obtain ⟨i, hi, hz', hzc⟩ := zeroOf_elim hz
    refine run_value (s := Instr.alloc e true (.tuple #[])) rfl (v := .pointer (some ⟨w.heap.size, 0, none⟩)) (w' := w.alloc (.cells z.cells e)) ?_ (box_ok r (const_VR hzc ρ) (const_one hzc) hk)
    simp [Instr.alloc, run_zeroValue hz, newVar, newRow, Result.andThen]
  case box e x =>
    obtain ⟨v, hv, h1⟩ := optP_elim h
    obtain ⟨h2, hk⟩ := allOne_elim h1
    refine run_value (s := Instr.box e (a.eval x)) rfl (v := .pointer (some ⟨w.heap.size, 0, none⟩)) (w' := w.alloc (.cells (a.eval x).cells e)) ?_ (box_ok r (hE _ _ hv) h2 hk)
    simp [Instr.box, newVar, newRow, Result.andThen]
  case build t ps =>
    obtain ⟨vs, hvs, h1⟩ := optP_elim h
    obtain ⟨z, hz, h2⟩ := optP_elim h1
    obtain ⟨pl, hpl, h3⟩ := optP_elim h2
    obtain ⟨cs, hcs, hk⟩ := optP_elim h3
    obtain ⟨p1, p2⟩ := partsL_ok hE hvs
    obtain ⟨cs', q1, q2⟩ := build_ok (ps := ps.map fun (i, x) => (i, a.eval x)) hz hpl (by rw [parts_toList]; exact p1) (by rw [parts_toList]; exact p2) hcs
    exact run_value (s := Instr.build t (ps.map fun (i, x) => (i, a.eval x))) rfl (q2 w) (Post.still r hk (.agg q1.1 q1.2))
  case buildSlice t m ps =>
    obtain ⟨vs, hvs, h1⟩ := optP_elim h
    split at h1
    · rename_i e ht
      obtain ⟨z, hz, h2⟩ := optP_elim h1
      obtain ⟨g1, h3⟩ := gd_elim h2
      obtain ⟨g2, h4⟩ := gd_elim h3
      obtain ⟨cs, hcs, h5⟩ := optP_elim h4
      obtain ⟨g3, hk⟩ := allOne_elim h5
      obtain ⟨p1, p2⟩ := partsL_ok hE hvs
      obtain ⟨v', w', q1, q2⟩ := buildSlice_ok (ps := ps.map fun (i, x) => (i, a.eval x)) r ht hz (Nat.eq_of_beq_eq_true g1) (Nat.le_of_ble_eq_true g2) (by rw [parts_toList]; exact p1) (by rw [parts_toList]; exact p2) hcs g3 hk
      exact run_value (s := Instr.buildSlice t m (ps.map fun (i, x) => (i, a.eval x))) rfl q1 q2
    · exact h1.elim
  case load t x =>
    simp only [opK] at h
    split at h
    · rename_i p hp
      obtain ⟨ad, rfl, h1⟩ := optP_elim h
      obtain ⟨l, hl, hs, hev⟩ := (hE _ _ hp).ptr_some
      obtain ⟨v, v', q1, q2, q3⟩ := loadK_ok r hl h1
      refine run_value (s := Instr.loadAt t (a.eval x)) rfl ?_ (Post.still r q3 q2)
      rw [hev]; simp [Instr.loadAt, Instr.sureAddr, q1]
    · exact h.elim
  case store t x y =>
    simp only [opK] at h
    split at h
    · rename_i p hp
      obtain ⟨ad, rfl, h1⟩ := optP_elim h
      obtain ⟨v, hv, h2⟩ := optP_elim h1
      obtain ⟨l, hl, hs, hev⟩ := (hE _ _ hp).ptr_some
      obtain ⟨w', H', q1, q2, q3, q4⟩ := storeK_ok r hl (hE _ _ hv) h2
      refine run_unit (s := Instr.storeAt t (a.eval x) (a.eval y)) rfl (w' := w') ?_ ⟨ρ, undef, H', q4, .refl ρ, undef_VR ρ, q2, q3⟩
      rw [hev]; simp [Instr.storeAt, Instr.sureAddr, q1]
    · exact h.elim
  case nilCheck x =>
    simp only [opK] at h
    split at h
    · rename_i p hp
      obtain ⟨ad, rfl, hk⟩ := optP_elim h
      have hv := (hE _ _ hp)
      obtain ⟨l, hl, hs, hev⟩ := hv.ptr_some
      unfold Run; simp only [execOp, hev, Sem.run_pure]
      rw [hev] at hv
      exact Post.still r hk hv
    · rename_i f x1 x2 hp
      have hv := (hE _ _ hp)
      obtain ⟨y1, y2, hev, _, _⟩ := hv.func_inv
      unfold Run; simp only [execOp, hev, Sem.run_pure]
      rw [hev] at hv
      exact Post.still r h hv
    · exact h.elim
  case binOp op t x y u =>
    obtain ⟨v1, hv1, h1⟩ := optP_elim h
    obtain ⟨v2, hv2, h2⟩ := optP_elim h1
    obtain ⟨v, q1, q2, q3⟩ := binopK_ok (X := x) (Y := y) (fun e => isConst_eval e a) (fun e => isConst_eval e a) (hE _ _ hv1) (hE _ _ hv2) h2
    exact run_value (s := do eqGuard op t x y (a.eval x) (a.eval y); binOp op t (a.eval x) (a.eval y)) rfl (q3 w) (Post.still r q1 (plain_VR q2 ρ))
  case unOp op t x =>
    simp only [opK] at h
    split at h
    · rename_i hx
      have hev := (hE _ _ hx).int_inv
      exact run_value (s := Op.unary .neg (a.eval x)) rfl (by rw [hev]; simp [Op.unary, Op.intArith]) (Post.still r h (.int _ _))
    · rename_i k m hx
      have hev := (hE _ _ hx).int_inv
      obtain ⟨v, hv, hk⟩ := optP_elim h
      have hp : plainV v = true := by simp [Op.intBits, semPure, pure] at hv; subst hv; rfl
      refine run_value (s := Op.unary .xor (a.eval x)) rfl (v := v) (w' := w) ?_ (Post.still r hk (plain_VR hp ρ))
      rw [hev]
      have := semPure_run (P := c.P) (w := w) hv
      cases hs : k.signed <;> simp only [hs] at this <;> simpa [Op.unary, hs] using this
    · rename_i b hx
      have hev := (hE _ _ hx).bool_inv
      exact run_value (s := Op.unary .not (a.eval x)) rfl (by rw [hev]; simp [Op.unary]) (Post.still r h (.bool _))
    · exact h.elim
  case convert s d x =>
    obtain ⟨v, hv, h1⟩ := optP_elim h
    obtain ⟨v', w', q1, q2⟩ := convertK_ok r (hE _ _ hv) h1
    exact run_value (s := convert s d (a.eval x)) rfl q1 q2
  case makeInterface t x =>
    obtain ⟨v, hv, h1⟩ := optP_elim h
    obtain ⟨d, hd, h2⟩ := optP_elim h1
    obtain ⟨hi, hk⟩ := gd_elim h2
    refine run_value (s := Instr.makeInterface t (a.eval x)) rfl (v := .iface t (a.eval x)) (w' := w) ?_ (Post.still r hk (.iface (hE _ _ hv)))
    simp only [Instr.makeInterface, Sem.run_bind, run_underlying hd, Result.andThen_ok]
    cases d <;> first | rfl | (simp [isIface, hd] at hi)
  case makeFunc fn xs ys =>
    obtain ⟨v1, hv1, h1⟩ := optP_elim h
    obtain ⟨v2, hv2, hk⟩ := optP_elim h1
    have e1 := argsL_ok hE hv1
    have e2 := argsL_ok hE hv2
    refine run_value (s := Instr.makeFunc fn (xs.map a.eval) (ys.map a.eval)) rfl (v := .func fn (xs.map a.eval) (ys.map a.eval)) (w' := w) rfl (Post.still r hk (.func ?_ ?_ ?_ ?_))
    · simpa using e1.1
    · simpa using e1.2
    · simpa using e2.1
    · simpa using e2.2
  case makeMap t x =>
    simp only [opK] at h
    split at h
    · rename_i ht
      refine run_value (s := Instr.makeMap t none) rfl (v := .map (some w.heap.size)) (w' := w.alloc (.map #[] 0)) ?_ (makeMap_ok r h)
      simp [Instr.makeMap]
    · rename_i y ht
      split at h
      · rename_i k m hy
        have hev := (hE _ _ hy).int_inv
        refine run_value (s := Instr.makeMap t (some (a.eval y))) rfl (v := .map (some w.heap.size)) (w' := w.alloc (.map #[] 0)) ?_ (makeMap_ok r h)
        simp [Instr.makeMap, run_underlying ht, hev, asInt, asIntOf, Result.andThen]
      · exact h.elim
    · exact h.elim
  case makeSlice t x y =>
    obtain ⟨v1, hv1, h1⟩ := optP_elim h
    obtain ⟨v2, hv2, h2⟩ := optP_elim h1
    obtain ⟨v', w', q1, q2⟩ := makeSliceK_ok r (hE _ _ hv1) (hE _ _ hv2) h2
    exact run_value (s := Instr.makeSlice t (a.eval x) (a.eval y)) rfl q1 q2
  case slice t x lo hi mx =>
    simp only [opK] at h
    split at h
    · obtain ⟨v, hv, h1⟩ := optP_elim h
      obtain ⟨u, u', q1, q2, q3⟩ := sliceK_ok hE (hE _ _ hv) h1
      exact run_value (s := Instr.sliceAt t (a.eval x) (lo.map a.eval) (hi.map a.eval) none) rfl q3 (Post.still r q1 q2)
    · exact h.elim
  case fieldAddr t x f =>
    obtain ⟨v, hv, h1⟩ := optP_elim h
    obtain ⟨u, u', q1, q2, q3⟩ := fieldAddrK_ok (hE _ _ hv) h1
    exact run_value (s := Instr.fieldAt t (a.eval x) f) rfl (q3 w) (Post.still r q1 q2)
  case field t x f =>
    simp only [opK] at h
    split at h
    · rename_i cs fd hx hf
      obtain ⟨cs', hev, hcs⟩ := (hE _ _ hx).agg_inv
      obtain ⟨v, v', q1, q2, q3⟩ := partK_ok hcs h
      obtain ⟨fs, hu, hfs⟩ := fieldOf_elim hf
      refine run_value (s := Instr.field t (a.eval x) f) rfl (v := v') (w' := w) ?_ (Post.still r q1 q2)
      rw [hev]
      simp [Instr.field, run_underlying hu, hfs, asAgg, q3, Result.andThen]
    · exact h.elim
  case indexAddr t x i =>
    obtain ⟨v, hv, h1⟩ := optP_elim h
    obtain ⟨j, hj, h2⟩ := optP_elim h1
    obtain ⟨u, u', q1, q2, q3⟩ := indexAddrK_ok (hE _ _ hv) (hE _ _ hj) h2
    exact run_value (s := Instr.indexAt t (a.eval x) (a.eval i)) rfl (q3 w) (Post.still r q1 q2)
  case index t x i =>
    obtain ⟨v, hv, h1⟩ := optP_elim h
    obtain ⟨j, hj, h2⟩ := optP_elim h1
    obtain ⟨u, u', q1, q2, q3⟩ := indexK_ok (hE _ _ hv) (hE _ _ hj) h2
    exact run_value (s := Instr.index t (a.eval x) (a.eval i)) rfl (q3 w) (Post.still r q1 q2)
  case lookup t m k ok =>
    obtain ⟨v, hv, h1⟩ := optP_elim h
    obtain ⟨j, hj, h2⟩ := optP_elim h1
    obtain ⟨u, u', q1, q2, q3⟩ := lookupK_ok r (hE _ _ hv) (hE _ _ hj) h2
    exact run_value (s := Instr.lookup t (a.eval m) (a.eval k) ok) rfl q3 (Post.still r q1 q2)
  case mapUpdate t m k v =>
    obtain ⟨v1, hv1, h1⟩ := optP_elim h
    obtain ⟨v2, hv2, h2⟩ := optP_elim h1
    obtain ⟨v3, hv3, h3⟩ := optP_elim h2
    obtain ⟨w', H', q1, q2, q3, q4⟩ := updateK_ok r (hE _ _ hv1) (hE _ _ hv2) (hE _ _ hv3) h3
    exact run_unit (s := Instr.mapUpdate t (a.eval m) (a.eval k) (a.eval v)) rfl q1 ⟨ρ, undef, H', q4, .refl ρ, undef_VR ρ, q2, q3⟩
  case insert t m k v =>
    obtain ⟨v1, hv1, h1⟩ := optP_elim h
    obtain ⟨v2, hv2, h2⟩ := optP_elim h1
    obtain ⟨v3, hv3, h3⟩ := optP_elim h2
    obtain ⟨w', H', q1, q2, q3, q4⟩ := updateK_ok r (hE _ _ hv1) (hE _ _ hv2) (hE _ _ hv3) h3
    exact run_unit (s := Instr.mapUpdate t (a.eval m) (a.eval k) (a.eval v)) rfl q1 ⟨ρ, undef, H', q4, .refl ρ, undef_VR ρ, q2, q3⟩
  case extract x i =>
    simp only [opK] at h
    split at h
    · rename_i vs hx
      obtain ⟨vs', hev, hvs⟩ := (hE _ _ hx).tuple_inv
      obtain ⟨v, hv, hk⟩ := optP_elim h
      obtain ⟨v', q1, q2⟩ := hvs.get hv
      refine run_value (s := Instr.extract (a.eval x) i) rfl (v := v') (w' := w) ?_ (Post.still r hk q2)
      have : vs'[i]? = some v' := by simpa using q1
      rw [hev]; simp [Instr.extract, this]
    · exact h.elim
  case call cl =>
    obtain ⟨callee, xs, ts⟩ := cl
    cases callee with
    | invoke _ _ => exact h.elim
    | builtin b =>
      obtain ⟨vs, hvs, h1⟩ := optP_elim h
      have hargs := argsL_ok hE hvs
      obtain ⟨s, hs, v', w', q1, q2⟩ := builtinK_ok (ty := type) (cs := xs.map fun | .const _ => true | _ => false) (args := xs.map a.eval) r (by simpa using hargs) h1
      refine run_value (s := s) ?_ q1 q2
      simp only [execOp, resolve, invoke, pure_bind]
      exact hs
    | value f =>
      obtain ⟨vs, hvs, h1⟩ := optP_elim h
      have hargs := argsL_ok hE hvs
      split at h1
      · rename_i k x1 x2 hf
        obtain ⟨y1, y2, hev, e1, e2⟩ := (hE _ _ hf).func_inv
        split at h1
        · rename_i sp hsp
          obtain ⟨_, h2⟩ := gd_elim h1
          have hg := (hT k sp hsp).sound _ _ _ h2 ρ B w (y1 ++ xs.map a.eval ++ y2) r (by simpa using (e1.append hargs).append e2)
          unfold Run
          simp only [execOp, resolve, hev, Deferred.ofValue, invoke, pure_bind]
          unfold Gives at hg
          generalize (callFunc k (y1 ++ xs.map a.eval ++ y2)).run c.P w = res at hg ⊢
          cases res with
          | halt _ _ => exact hg
          | ok nx _ => cases nx <;> first | exact hg | exact hg.elim
        · exact h1.elim
      · exact h1.elim
end Go.Proofs.Ytbikpfccdcblfaa.Eng
