/- Functions of the program over typed data, printed by lift.py out of the translation; each is tied to its code by the kernel. -/
import Derived.Test.YtbikpfccdcblfaaKd
import Derived.Test.YtbikpfccdcblfaaProg
import Derived.KernelRfl
namespace Go.Proofs.Ytbikpfccdcblfaa.Eng
open Go Go.Proofs
set_option linter.unusedVariables false
set_option maxRecDepth 100000
def TryΓ : Nat → Ty := fun _ => .unit
abbrev T57 : Ty := (.prod (.int .i64) (.prod (.int .i64) (.prod (.int .i64) (.prod (.int .i64) .unit))))
abbrev D57 : Type := Int × Int × Int × Int × Unit
abbrev T54 : Ty := (.prod .str (.prod .str .unit))
abbrev D54 : Type := (List UInt8) × (List UInt8) × Unit
abbrev T52 : Ty := (.prod (.int .i64) (.prod (.sl false 3 (.int .i64)) .unit))
abbrev D52 : Type := Int × (List Int) × Unit
abbrev T30 : Ty := (.prod .str (.prod (.int .i64) (.prod (.int .i64) (.prod (.int .i64) (.prod (.int .i64) (.prod (.int .i64) (.prod (.int .i64) (.prod (.int .i64) (.prod (.int .i64) (.prod (.int .i64) (.prod (.int .i64) (.prod (.int .i64) (.prod (.int .i64) (.prod (.int .i64) (.prod (.int .i64) (.prod (.int .i64) (.prod (.int .i64) (.prod (.int .i64) (.prod (.int .i64) (.prod (.int .i64) (.prod (.int .i64) (.prod (.int .i64) (.prod (.sl false 53 T52) .unit)))))))))))))))))))))))
abbrev D30 : Type := (List UInt8) × Int × Int × Int × Int × Int × Int × Int × Int × Int × Int × Int × Int × Int × Int × Int × Int × Int × Int × Int × Int × Int × (List D52) × Unit
abbrev T33 : Ty := (.prod T30 (.prod T30 (.prod (.sl false 55 T54) .unit)))
abbrev D33 : Type := D30 × D30 × (List D54) × Unit
abbrev T49 : Ty := (.prod (.int .i64) (.prod (.int .i64) .unit))
abbrev D49 : Type := Int × Int × Unit
abbrev T72 : Ty := (.prod .str (.prod (.int .i64) (.prod (.int .i64) (.prod .fn .unit))))
abbrev D72 : Type := (List UInt8) × Int × Int × (Option Nat) × Unit
abbrev T44 : Ty := (.prod (.int .i64) (.prod (.int .i64) (.prod (.int .i64) (.prod (.int .i64) (.prod (.int .i64) .unit)))))
abbrev D44 : Type := Int × Int × Int × Int × Int × Unit
/-! granary/granarylaw22.num -/
namespace T10f
def tab (N : Nat) (k : Nat) : Option (TSp TryΓ) := lk k []
def P (N : Nat) (a0 : Int) (K : Int → Prop) : Prop :=
  K a0
def sp (N : Nat) : TSp TryΓ := ⟨false, [(.int .i64)], [(.int .i64)], fun xs S K => P N xs.1 (fun r0 => K (r0, ()) S), false⟩
def spk (N : Nat) : TSp TryΓ := ⟨false, [(.int .i64)], [(.int .i64)], fun xs S K => P N xs.1 (fun r0 => K (r0, ()) S), true⟩
noncomputable def cfg (N : Nat) : TCfg TryΓ := ⟨Try.prog, tab N, (fun k => (lk k []).getD .unit), (fun k => lk k []), (fun k => lk k []),
  (fun k => lk k []), (fun k => lk k []), some ⟨[(2, some ((.int .i64), [8]))], [], [], [2]⟩, (fun k => lk k []), [], memN [], (fun k => lk k [])⟩
theorem main (N : Nat) (xs : DataL (sp N).ps) (S : Dh TryΓ) (K : DataL (sp N).rs → Dh TryΓ → Prop) :
    fnT (cfg N) Try.f10 (sp N).ps (sp N).rs xs S K = (sp N).run xs S K := by kernel_rfl
theorem tabs : TabsT (cfg big) 4 (bodyOf Try.f10) := tabsT (c := cfg big) [] [] rfl rfl trivial trivial
theorem ok : TOK Try.prog 10 (sp big) := tok_of_eq (c := cfg big) (fn := Try.f10) (funsT [] rfl trivial) trivial (by kernel_rfl) Try.func10 (by kernel_rfl) (by kernel_rfl) (by kernel_rfl) tabs rfl rfl (main big)
theorem okk : TOK Try.prog 10 (spk big) := tok_keep ok
end T10f
/-! granary/granarylaw23.num -/
namespace T12f
def tab (N : Nat) (k : Nat) : Option (TSp TryΓ) := lk k []
def P (N : Nat) (a0 : Int) (K : Int → Prop) : Prop :=
  K a0
def sp (N : Nat) : TSp TryΓ := ⟨false, [(.int .i64)], [(.int .i64)], fun xs S K => P N xs.1 (fun r0 => K (r0, ()) S), false⟩
def spk (N : Nat) : TSp TryΓ := ⟨false, [(.int .i64)], [(.int .i64)], fun xs S K => P N xs.1 (fun r0 => K (r0, ()) S), true⟩
noncomputable def cfg (N : Nat) : TCfg TryΓ := ⟨Try.prog, tab N, (fun k => (lk k []).getD .unit), (fun k => lk k []), (fun k => lk k []),
  (fun k => lk k []), (fun k => lk k []), some ⟨[(2, some ((.int .i64), [8]))], [], [], [2]⟩, (fun k => lk k []), [], memN [], (fun k => lk k [])⟩
theorem main (N : Nat) (xs : DataL (sp N).ps) (S : Dh TryΓ) (K : DataL (sp N).rs → Dh TryΓ → Prop) :
    fnT (cfg N) Try.f12 (sp N).ps (sp N).rs xs S K = (sp N).run xs S K := by kernel_rfl
theorem tabs : TabsT (cfg big) 4 (bodyOf Try.f12) := tabsT (c := cfg big) [] [] rfl rfl trivial trivial
theorem ok : TOK Try.prog 12 (sp big) := tok_of_eq (c := cfg big) (fn := Try.f12) (funsT [] rfl trivial) trivial (by kernel_rfl) Try.func12 (by kernel_rfl) (by kernel_rfl) (by kernel_rfl) tabs rfl rfl (main big)
theorem okk : TOK Try.prog 12 (spk big) := tok_keep ok
end T12f
/-! granary/granarylaw23.placeOf -/
namespace T15f
def tab (N : Nat) (k : Nat) : Option (TSp TryΓ) := lk k []
abbrev sx0 : List (Nat × Sh) := []
abbrev vx0 : List (Nat × Ty) := []
abbrev sr : List (Nat × Sh) := [(4, .d (.int .i64) [8])]
abbrev vr : List (Nat × Ty) := []
def b2 (N : Nat) (a0 : List Int) (a1 : Int) (a5 : Int) (again : Int → Prop) (kx0 : Prop) (kr : Int → Prop) : Prop :=
  (match (decide (a5 < (((a0.length : Nat) : Int))) : Bool) with
  | true => (gd (decide (0 ≤ a5) && decide (a5 < ((a0.length : Nat) : Int))) <|
  optP (a0[a5.toNat]?) fun v1 =>
  (match (decide (v1 = a1) : Bool) with
  | true => kr a5
  | false => let x2 : Int := IntKind.i64.wrap (a5 + 1)
  again x2))
  | false => kx0)
def l2 (N : Nat) (a0 : List Int) (a1 : Int) : Nat → Int → (Prop) → (Int → Prop) → Prop
  | 0, _, _, _ => False
  | m + 1, a5, kx0, kr => b2 N a0 a1 a5 (fun a5 => l2 N a0 a1 m a5 kx0 kr) kx0 kr
abbrev sl2 : List (Nat × Sh) := [(0, .d (.sl false 3 (.int .i64)) [8]), (1, .d (.int .i64) [8]), (5, .d (.int .i64) [8])]
abbrev vl2 : List (Nat × Ty) := []
def fl2 (N m : Nat) (x : ShD sl2) (y : VD vl2) (S : Dh TryΓ) (K : Ex → TS → Dh TryΓ → Prop) : Prop := l2 N x.1 x.2.1 m x.2.2.1 (K (.exit 0) (stOf sx0 vx0 () ()) S) (fun o4 => K .ret (stOf sr vr (o4, ()) ()) S)
def P (N : Nat) (a0 : List Int) (a1 : Int) (K : Int → Prop) : Prop :=
  l2 N a0 a1 N 0
      (K (-1))
      (fun y3 =>
  K y3)
def sp (N : Nat) : TSp TryΓ := ⟨false, [(.sl false 3 (.int .i64)), (.int .i64)], [(.int .i64)], fun xs S K => P N xs.1 xs.2.1 (fun r0 => K (r0, ()) S), false⟩
def spk (N : Nat) : TSp TryΓ := ⟨false, [(.sl false 3 (.int .i64)), (.int .i64)], [(.int .i64)], fun xs S K => P N xs.1 xs.2.1 (fun r0 => K (r0, ()) S), true⟩
noncomputable def cfg (N : Nat) : TCfg TryΓ := ⟨Try.prog, tab N, (fun k => (lk k []).getD .unit), (fun k => lk k [(2, fragT sl2 vl2 (fl2 N N))]), (fun k => lk k []),
  (fun k => lk k [(2, ⟨[(0, some ((.sl false 3 (.int .i64)), [8])), (1, some ((.int .i64), [8])), (5, some ((.int .i64), [8]))], [], [], []⟩)]), (fun k => lk k [(0, ⟨[], [], [], []⟩)]), some ⟨[(4, some ((.int .i64), [8]))], [], [], [4]⟩, (fun k => lk k []), [], memN [], (fun k => lk k [])⟩
noncomputable def cl2 : Code := sub [1, 0, 1, 0, 0] (bodyOf Try.f15)
theorem be2 (N : Nat) (rec : TS → Dh TryΓ → Prop) (K : Ex → TS → Dh TryΓ → Prop) (x : ShD sl2) (y : VD vl2) (S : Dh TryΓ) :
    evT (cfg N) 19 cl2 (stOf sl2 vl2 x y) S (roundT (fun st S => rec (cutAtT (cfg N) cl2 st) S) K) = b2 N x.1 x.2.1 x.2.2.1 (fun a5 => rec (stOf sl2 vl2 (x.1, x.2.1, a5, ()) ()) S) (K (.exit 0) (stOf sx0 vx0 () ()) S) (fun o4 => K .ret (stOf sr vr (o4, ()) ()) S) := by kernel_rfl
theorem le2 (N : Nat) (K : Ex → TS → Dh TryΓ → Prop) (S : Dh TryΓ) : ∀ (m : Nat) (x : ShD sl2) (y : VD vl2), loopT (cutAtT (cfg N) cl2) (fun st S K => evT (cfg N) 19 cl2 st S K) m (stOf sl2 vl2 x y) S K = fl2 N m x y S K := by
  intro m
  induction m with
  | zero => intros; rfl
  | succ m ih =>
    intro x y
    exact Eq.trans (be2 N (fun st S => loopT (cutAtT (cfg N) cl2) (fun st S K => evT (cfg N) 19 cl2 st S K) m st S K) K x y S) (Eq.trans (congrArg (fun ag => b2 N x.1 x.2.1 x.2.2.1 ag (K (.exit 0) (stOf sx0 vx0 () ()) S) (fun o4 => K .ret (stOf sr vr (o4, ()) ()) S)) (funext fun a5 => ih (x.1, x.2.1, a5, ()) ())) (by kernel_rfl))
theorem main (N : Nat) (xs : DataL (sp N).ps) (S : Dh TryΓ) (K : DataL (sp N).rs → Dh TryΓ → Prop) :
    fnT (cfg N) Try.f15 (sp N).ps (sp N).rs xs S K = (sp N).run xs S K := by kernel_rfl
theorem tabs : TabsT (cfg big) 19 (bodyOf Try.f15) := tabsT (c := cfg big) [(2, fragT sl2 vl2 (fl2 big big))] [] rfl rfl ⟨⟨cl2, by kernel_rfl, loopTie (f := fl2 big) (le2 big) big⟩, trivial⟩ trivial
theorem ok : TOK Try.prog 15 (sp big) := tok_of_eq (c := cfg big) (fn := Try.f15) (funsT [] rfl trivial) trivial (by kernel_rfl) Try.func15 (by kernel_rfl) (by kernel_rfl) (by kernel_rfl) tabs rfl rfl (main big)
theorem okk : TOK Try.prog 15 (spk big) := tok_keep ok
end T15f
/-! granary/granarylaw23.order -/
namespace T18f
def tab (N : Nat) (k : Nat) : Option (TSp TryΓ) := lk k []
def P (N : Nat)  (K : D57 → Prop) : Prop :=
  K (3, 0, 1048576, 2, ())
def sp (N : Nat) : TSp TryΓ := ⟨false, [], [T57], fun xs S K => P N (fun r0 => K (r0, ()) S), false⟩
def spk (N : Nat) : TSp TryΓ := ⟨false, [], [T57], fun xs S K => P N (fun r0 => K (r0, ()) S), true⟩
noncomputable def cfg (N : Nat) : TCfg TryΓ := ⟨Try.prog, tab N, (fun k => (lk k [(0, T57), (1, T57)]).getD .unit), (fun k => lk k []), (fun k => lk k []),
  (fun k => lk k []), (fun k => lk k []), some ⟨[(0, none)], [0], [], []⟩, (fun k => lk k []), [], memN [], (fun k => lk k [])⟩
theorem main (N : Nat) (xs : DataL (sp N).ps) (S : Dh TryΓ) (K : DataL (sp N).rs → Dh TryΓ → Prop) :
    fnT (cfg N) Try.f18 (sp N).ps (sp N).rs xs S K = (sp N).run xs S K := by kernel_rfl
theorem tabs : TabsT (cfg big) 2 (bodyOf Try.f18) := tabsT (c := cfg big) [] [] rfl rfl trivial trivial
theorem ok : TOK Try.prog 18 (sp big) := tok_of_eq (c := cfg big) (fn := Try.f18) (funsT [] rfl trivial) trivial (by kernel_rfl) Try.func18 (by kernel_rfl) (by kernel_rfl) (by kernel_rfl) tabs rfl rfl (main big)
theorem okk : TOK Try.prog 18 (spk big) := tok_keep ok
end T18f
/-! granary/ring.within -/
namespace T21f
def tab (N : Nat) (k : Nat) : Option (TSp TryΓ) := lk k []
def P (N : Nat) (a0 : Int) (a1 : Int) (a2 : Int) (K : Bool → Prop) : Prop :=
  (match (decide (a1 ≤ a0) : Bool) with
  | true => K (decide (a0 ≤ a2))
  | false => K false)
def sp (N : Nat) : TSp TryΓ := ⟨false, [(.int .i64), (.int .i64), (.int .i64)], [.bool], fun xs S K => P N xs.1 xs.2.1 xs.2.2.1 (fun r0 => K (r0, ()) S), false⟩
def spk (N : Nat) : TSp TryΓ := ⟨false, [(.int .i64), (.int .i64), (.int .i64)], [.bool], fun xs S K => P N xs.1 xs.2.1 xs.2.2.1 (fun r0 => K (r0, ()) S), true⟩
noncomputable def cfg (N : Nat) : TCfg TryΓ := ⟨Try.prog, tab N, (fun k => (lk k []).getD .unit), (fun k => lk k []), (fun k => lk k []),
  (fun k => lk k []), (fun k => lk k []), some ⟨[(6, some (.bool, [8]))], [], [], [6]⟩, (fun k => lk k []), [], memN [], (fun k => lk k [])⟩
theorem main (N : Nat) (xs : DataL (sp N).ps) (S : Dh TryΓ) (K : DataL (sp N).rs → Dh TryΓ → Prop) :
    fnT (cfg N) Try.f21 (sp N).ps (sp N).rs xs S K = (sp N).run xs S K := by kernel_rfl
theorem tabs : TabsT (cfg big) 15 (bodyOf Try.f21) := tabsT (c := cfg big) [] [] rfl rfl trivial trivial
theorem ok : TOK Try.prog 21 (sp big) := tok_of_eq (c := cfg big) (fn := Try.f21) (funsT [] rfl trivial) trivial (by kernel_rfl) Try.func21 (by kernel_rfl) (by kernel_rfl) (by kernel_rfl) tabs rfl rfl (main big)
theorem okk : TOK Try.prog 21 (spk big) := tok_keep ok
end T21f
/-! granary/ring.round -/
namespace T22f
def tab (N : Nat) (k : Nat) : Option (TSp TryΓ) := lk k []
abbrev sx1 : List (Nat × Sh) := [(0, .d (.sl false 3 (.int .i64)) [8]), (1, .d (.int .i64) [8]), (2, .d (.int .i64) [8]), (7, .d (.sl true 3 (.int .i64)) [1, 7]), (8, .d (.int .i64) [8])]
abbrev vx1 : List (Nat × Ty) := []
abbrev sx2 : List (Nat × Sh) := [(0, .d (.sl false 3 (.int .i64)) [8]), (1, .d (.int .i64) [8]), (2, .d (.int .i64) [8]), (7, .d (.sl true 3 (.int .i64)) [1, 7]), (8, .d (.int .i64) [8]), (9, .d (.int .i64) [8])]
abbrev vx2 : List (Nat × Ty) := []
abbrev sx0 : List (Nat × Sh) := [(7, .d (.sl true 3 (.int .i64)) [1, 7])]
abbrev vx0 : List (Nat × Ty) := []
def b7 (N : Nat) (a0 : List Int) (a1 : Int) (a2 : Int) (a7 : List Int) (a8 : Int) (a9 : Int) (a30 : List Int) (a31 : Int) (a32 : Int) (again : Int → Prop) (kx1 : Prop) (kx2 : Prop) : Prop :=
  (match (decide (a32 < a31) : Bool) with
  | true => (gd (decide (0 ≤ a32) && decide (a32 < ((a30.length : Nat) : Int))) <|
  optP (a30[a32.toNat]?) fun v3 =>
  (gd (decide (0 ≤ v3) && decide (v3 < ((a0.length : Nat) : Int))) <|
  optP (a0[v3.toNat]?) fun v4 =>
  (gd (decide (0 ≤ a9) && decide (a9 < ((a0.length : Nat) : Int))) <|
  optP (a0[a9.toNat]?) fun v5 =>
  (match (decide (v4 = v5) : Bool) with
  | true => kx1
  | false => let x6 : Int := IntKind.i64.wrap (a32 + 1)
  again x6))))
  | false => kx2)
def l7 (N : Nat) (a0 : List Int) (a1 : Int) (a2 : Int) (a7 : List Int) (a8 : Int) (a9 : Int) (a30 : List Int) (a31 : Int) : Nat → Int → (Prop) → (Prop) → Prop
  | 0, _, _, _ => False
  | m + 1, a32, kx1, kx2 => b7 N a0 a1 a2 a7 a8 a9 a30 a31 a32 (fun a32 => l7 N a0 a1 a2 a7 a8 a9 a30 a31 m a32 kx1 kx2) kx1 kx2
abbrev sl7 : List (Nat × Sh) := [(0, .d (.sl false 3 (.int .i64)) [8]), (1, .d (.int .i64) [8]), (2, .d (.int .i64) [8]), (7, .d (.sl true 3 (.int .i64)) [1, 7]), (8, .d (.int .i64) [8]), (9, .d (.int .i64) [8]), (30, .d (.sl true 3 (.int .i64)) [1, 7]), (31, .d (.int .i64) [8]), (32, .d (.int .i64) [8])]
abbrev vl7 : List (Nat × Ty) := []
def fl7 (N m : Nat) (x : ShD sl7) (y : VD vl7) (S : Dh TryΓ) (K : Ex → TS → Dh TryΓ → Prop) : Prop := l7 N x.1 x.2.1 x.2.2.1 x.2.2.2.1 x.2.2.2.2.1 x.2.2.2.2.2.1 x.2.2.2.2.2.2.1 x.2.2.2.2.2.2.2.1 m x.2.2.2.2.2.2.2.2.1 (K (.exit 1) (stOf sx1 vx1 (x.1, x.2.1, x.2.2.1, x.2.2.2.1, x.2.2.2.2.1, ()) ()) S) (K (.exit 2) (stOf sx2 vx2 (x.1, x.2.1, x.2.2.1, x.2.2.2.1, x.2.2.2.2.1, x.2.2.2.2.2.1, ()) ()) S)
def b3 (N : Nat) (a0 : List Int) (a1 : Int) (a2 : Int) (a7 : List Int) (a8 : Int) (again : (List Int) → Int → Prop) (kx0 : (List Int) → Prop) : Prop :=
  (match (decide (a8 < (((a0.length : Nat) : Int))) : Bool) with
  | true => (match (decide ((((a7.length : Nat) : Int)) < a2) : Bool) with
  | true => let x1 : Int := IntKind.i64.wrap (a1 + a8)
  (gd (!decide ((((a0.length : Nat) : Int)) = 0)) <|
  let x2 : Int := x1.tmod (((a0.length : Nat) : Int))
  l7 N a0 a1 a2 a7 a8 x2 a7 ((a7.length : Nat) : Int) N 0
      (let x3 : Int := IntKind.i64.wrap (a8 + 1)
  again a7 x3)
      ((gd (decide ((a7.length + ([x2] : List Int).length) * 8 ≤ room)) <|
  let l4 : List Int := a7 ++ ([x2])
  let x5 : Int := IntKind.i64.wrap (a8 + 1)
  again l4 x5)))
  | false => kx0 a7)
  | false => kx0 a7)
def l3 (N : Nat) (a0 : List Int) (a1 : Int) (a2 : Int) : Nat → (List Int) → Int → ((List Int) → Prop) → Prop
  | 0, _, _, _ => False
  | m + 1, a7, a8, kx0 => b3 N a0 a1 a2 a7 a8 (fun a7 a8 => l3 N a0 a1 a2 m a7 a8 kx0) kx0
abbrev sl3 : List (Nat × Sh) := [(0, .d (.sl false 3 (.int .i64)) [8]), (1, .d (.int .i64) [8]), (2, .d (.int .i64) [8]), (7, .d (.sl true 3 (.int .i64)) [1, 7]), (8, .d (.int .i64) [8])]
abbrev vl3 : List (Nat × Ty) := []
def fl3 (N m : Nat) (x : ShD sl3) (y : VD vl3) (S : Dh TryΓ) (K : Ex → TS → Dh TryΓ → Prop) : Prop := l3 N x.1 x.2.1 x.2.2.1 m x.2.2.2.1 x.2.2.2.2.1 (fun o7 => K (.exit 0) (stOf sx0 vx0 (o7, ()) ()) S)
def P (N : Nat) (a0 : List Int) (a1 : Int) (a2 : Int) (K : (List Int) → Prop) : Prop :=
  l3 N a0 a1 a2 N [] 0
      (fun y6 =>
  K y6)
def sp (N : Nat) : TSp TryΓ := ⟨false, [(.sl false 3 (.int .i64)), (.int .i64), (.int .i64)], [(.sl false 3 (.int .i64))], fun xs S K => P N xs.1 xs.2.1 xs.2.2.1 (fun r0 => K (r0, ()) S), false⟩
def spk (N : Nat) : TSp TryΓ := ⟨false, [(.sl false 3 (.int .i64)), (.int .i64), (.int .i64)], [(.sl false 3 (.int .i64))], fun xs S K => P N xs.1 xs.2.1 xs.2.2.1 (fun r0 => K (r0, ()) S), true⟩
noncomputable def cfg (N : Nat) : TCfg TryΓ := ⟨Try.prog, tab N, (fun k => (lk k [(48, (.sl true 3 (.int .i64))), (49, (.sl true 3 (.int .i64)))]).getD .unit), (fun k => lk k [(7, fragT sl7 vl7 (fl7 N N)), (3, fragT sl3 vl3 (fl3 N N))]), (fun k => lk k []),
  (fun k => lk k [(3, ⟨[(0, some ((.sl false 3 (.int .i64)), [8])), (1, some ((.int .i64), [8])), (2, some ((.int .i64), [8])), (7, some ((.sl true 3 (.int .i64)), [1, 7])), (8, some ((.int .i64), [8]))], [], [(7, [1, 7])], []⟩), (7, ⟨[(0, some ((.sl false 3 (.int .i64)), [8])), (1, some ((.int .i64), [8])), (2, some ((.int .i64), [8])), (7, some ((.sl true 3 (.int .i64)), [1, 7])), (8, some ((.int .i64), [8])), (9, some ((.int .i64), [8])), (30, some ((.sl true 3 (.int .i64)), [1, 7])), (31, some ((.int .i64), [8])), (32, some ((.int .i64), [8]))], [], [(7, [1, 7])], []⟩)]), (fun k => lk k [(0, ⟨[(7, some ((.sl true 3 (.int .i64)), [1, 7]))], [], [(7, [1, 7])], []⟩), (1, ⟨[(0, some ((.sl false 3 (.int .i64)), [8])), (1, some ((.int .i64), [8])), (2, some ((.int .i64), [8])), (7, some ((.sl true 3 (.int .i64)), [1, 7])), (8, some ((.int .i64), [8]))], [], [(7, [1, 7])], []⟩), (2, ⟨[(0, some ((.sl false 3 (.int .i64)), [8])), (1, some ((.int .i64), [8])), (2, some ((.int .i64), [8])), (7, some ((.sl true 3 (.int .i64)), [1, 7])), (8, some ((.int .i64), [8])), (9, some ((.int .i64), [8]))], [], [(7, [1, 7])], []⟩)]), some ⟨[(6, some ((.sl false 3 (.int .i64)), [8]))], [], [], [6]⟩, (fun k => lk k []), [], memN [], (fun k => lk k [])⟩
noncomputable def cl7 : Code := sub [1, 0, 1, 1, 0, 1, 0, 0, 1, 0, 0, 1, 0, 1, 0, 0] (bodyOf Try.f22)
theorem be7 (N : Nat) (rec : TS → Dh TryΓ → Prop) (K : Ex → TS → Dh TryΓ → Prop) (x : ShD sl7) (y : VD vl7) (S : Dh TryΓ) :
    evT (cfg N) 51 cl7 (stOf sl7 vl7 x y) S (roundT (fun st S => rec (cutAtT (cfg N) cl7 st) S) K) = b7 N x.1 x.2.1 x.2.2.1 x.2.2.2.1 x.2.2.2.2.1 x.2.2.2.2.2.1 x.2.2.2.2.2.2.1 x.2.2.2.2.2.2.2.1 x.2.2.2.2.2.2.2.2.1 (fun a32 => rec (stOf sl7 vl7 (x.1, x.2.1, x.2.2.1, x.2.2.2.1, x.2.2.2.2.1, x.2.2.2.2.2.1, x.2.2.2.2.2.2.1, x.2.2.2.2.2.2.2.1, a32, ()) ()) S) (K (.exit 1) (stOf sx1 vx1 (x.1, x.2.1, x.2.2.1, x.2.2.2.1, x.2.2.2.2.1, ()) ()) S) (K (.exit 2) (stOf sx2 vx2 (x.1, x.2.1, x.2.2.1, x.2.2.2.1, x.2.2.2.2.1, x.2.2.2.2.2.1, ()) ()) S) := by kernel_rfl
theorem le7 (N : Nat) (K : Ex → TS → Dh TryΓ → Prop) (S : Dh TryΓ) : ∀ (m : Nat) (x : ShD sl7) (y : VD vl7), loopT (cutAtT (cfg N) cl7) (fun st S K => evT (cfg N) 51 cl7 st S K) m (stOf sl7 vl7 x y) S K = fl7 N m x y S K := by
  intro m
  induction m with
  | zero => intros; rfl
  | succ m ih =>
    intro x y
    exact Eq.trans (be7 N (fun st S => loopT (cutAtT (cfg N) cl7) (fun st S K => evT (cfg N) 51 cl7 st S K) m st S K) K x y S) (Eq.trans (congrArg (fun ag => b7 N x.1 x.2.1 x.2.2.1 x.2.2.2.1 x.2.2.2.2.1 x.2.2.2.2.2.1 x.2.2.2.2.2.2.1 x.2.2.2.2.2.2.2.1 x.2.2.2.2.2.2.2.2.1 ag (K (.exit 1) (stOf sx1 vx1 (x.1, x.2.1, x.2.2.1, x.2.2.2.1, x.2.2.2.2.1, ()) ()) S) (K (.exit 2) (stOf sx2 vx2 (x.1, x.2.1, x.2.2.1, x.2.2.2.1, x.2.2.2.2.1, x.2.2.2.2.2.1, ()) ()) S)) (funext fun a32 => ih (x.1, x.2.1, x.2.2.1, x.2.2.2.1, x.2.2.2.2.1, x.2.2.2.2.2.1, x.2.2.2.2.2.2.1, x.2.2.2.2.2.2.2.1, a32, ()) ())) (by kernel_rfl))
noncomputable def cl3 : Code := sub [1, 0, 1, 1, 0, 1, 0, 0] (bodyOf Try.f22)
theorem be3 (N : Nat) (rec : TS → Dh TryΓ → Prop) (K : Ex → TS → Dh TryΓ → Prop) (x : ShD sl3) (y : VD vl3) (S : Dh TryΓ) :
    evT (cfg N) 51 cl3 (stOf sl3 vl3 x y) S (roundT (fun st S => rec (cutAtT (cfg N) cl3 st) S) K) = b3 N x.1 x.2.1 x.2.2.1 x.2.2.2.1 x.2.2.2.2.1 (fun a7 a8 => rec (stOf sl3 vl3 (x.1, x.2.1, x.2.2.1, a7, a8, ()) ()) S) (fun o7 => K (.exit 0) (stOf sx0 vx0 (o7, ()) ()) S) := by kernel_rfl
theorem le3 (N : Nat) (K : Ex → TS → Dh TryΓ → Prop) (S : Dh TryΓ) : ∀ (m : Nat) (x : ShD sl3) (y : VD vl3), loopT (cutAtT (cfg N) cl3) (fun st S K => evT (cfg N) 51 cl3 st S K) m (stOf sl3 vl3 x y) S K = fl3 N m x y S K := by
  intro m
  induction m with
  | zero => intros; rfl
  | succ m ih =>
    intro x y
    exact Eq.trans (be3 N (fun st S => loopT (cutAtT (cfg N) cl3) (fun st S K => evT (cfg N) 51 cl3 st S K) m st S K) K x y S) (Eq.trans (congrArg (fun ag => b3 N x.1 x.2.1 x.2.2.1 x.2.2.2.1 x.2.2.2.2.1 ag (fun o7 => K (.exit 0) (stOf sx0 vx0 (o7, ()) ()) S)) (funext fun a7 => funext fun a8 => ih (x.1, x.2.1, x.2.2.1, a7, a8, ()) ())) (by kernel_rfl))
theorem main (N : Nat) (xs : DataL (sp N).ps) (S : Dh TryΓ) (K : DataL (sp N).rs → Dh TryΓ → Prop) :
    fnT (cfg N) Try.f22 (sp N).ps (sp N).rs xs S K = (sp N).run xs S K := by kernel_rfl
theorem tabs : TabsT (cfg big) 51 (bodyOf Try.f22) := tabsT (c := cfg big) [(7, fragT sl7 vl7 (fl7 big big)), (3, fragT sl3 vl3 (fl3 big big))] [] rfl rfl ⟨⟨cl7, by kernel_rfl, loopTie (f := fl7 big) (le7 big) big⟩, ⟨cl3, by kernel_rfl, loopTie (f := fl3 big) (le3 big) big⟩, trivial⟩ trivial
theorem ok : TOK Try.prog 22 (sp big) := tok_of_eq (c := cfg big) (fn := Try.f22) (funsT [] rfl trivial) trivial (by kernel_rfl) Try.func22 (by kernel_rfl) (by kernel_rfl) (by kernel_rfl) tabs rfl rfl (main big)
theorem okk : TOK Try.prog 22 (spk big) := tok_keep ok
end T22f
/-! granary/rebalance.parts -/
namespace T25f
def tab (N : Nat) (k : Nat) : Option (TSp TryΓ) := lk k []
abbrev sx0 : List (Nat × Sh) := [(3, .d (.int .i64) [8])]
abbrev vx0 : List (Nat × Ty) := []
def b3 (N : Nat) (a3 : Int) (a7 : List D52) (a8 : Int) (a9 : Int) (again : Int → Int → Prop) (kx0 : Int → Prop) : Prop :=
  (match (decide (a9 < a8) : Bool) with
  | true => (gd (decide (0 ≤ a9) && decide (a9 < ((a7.length : Nat) : Int))) <|
  optP (a7[a9.toNat]?) fun v1 =>
  let x2 : Int := IntKind.i64.wrap (a3 + (((v1.2.1.length : Nat) : Int)))
  let x3 : Int := IntKind.i64.wrap (a9 + 1)
  again x2 x3)
  | false => kx0 a3)
def l3 (N : Nat) (a7 : List D52) (a8 : Int) : Nat → Int → Int → (Int → Prop) → Prop
  | 0, _, _, _ => False
  | m + 1, a3, a9, kx0 => b3 N a3 a7 a8 a9 (fun a3 a9 => l3 N a7 a8 m a3 a9 kx0) kx0
abbrev sl3 : List (Nat × Sh) := [(3, .d (.int .i64) [8]), (7, .d (.sl false 53 T52) [8]), (8, .d (.int .i64) [8]), (9, .d (.int .i64) [8])]
abbrev vl3 : List (Nat × Ty) := []
def fl3 (N m : Nat) (x : ShD sl3) (y : VD vl3) (S : Dh TryΓ) (K : Ex → TS → Dh TryΓ → Prop) : Prop := l3 N x.2.1 x.2.2.1 m x.1 x.2.2.2.1 (fun o3 => K (.exit 0) (stOf sx0 vx0 (o3, ()) ()) S)
def P (N : Nat) (a0 : D30) (K : Int → Prop) : Prop :=
  l3 N a0.2.2.2.2.2.2.2.2.2.2.2.2.2.2.2.2.2.2.2.2.2.2.1 ((a0.2.2.2.2.2.2.2.2.2.2.2.2.2.2.2.2.2.2.2.2.2.2.1.length : Nat) : Int) N 0 0
      (fun y4 =>
  K y4)
def sp (N : Nat) : TSp TryΓ := ⟨false, [T30], [(.int .i64)], fun xs S K => P N xs.1 (fun r0 => K (r0, ()) S), false⟩
def spk (N : Nat) : TSp TryΓ := ⟨false, [T30], [(.int .i64)], fun xs S K => P N xs.1 (fun r0 => K (r0, ()) S), true⟩
noncomputable def cfg (N : Nat) : TCfg TryΓ := ⟨Try.prog, tab N, (fun k => (lk k [(1, T30), (5, T52)]).getD .unit), (fun k => lk k [(3, fragT sl3 vl3 (fl3 N N))]), (fun k => lk k []),
  (fun k => lk k [(3, ⟨[(3, some ((.int .i64), [8])), (7, some ((.sl false 53 T52), [8])), (8, some ((.int .i64), [8])), (9, some ((.int .i64), [8]))], [], [], []⟩)]), (fun k => lk k [(0, ⟨[(3, some ((.int .i64), [8]))], [], [], []⟩)]), some ⟨[(2, some ((.int .i64), [8]))], [], [], [2]⟩, (fun k => lk k []), [], memN [], (fun k => lk k [])⟩
noncomputable def cl3 : Code := sub [1, 1, 0, 1, 0, 0] (bodyOf Try.f25)
theorem be3 (N : Nat) (rec : TS → Dh TryΓ → Prop) (K : Ex → TS → Dh TryΓ → Prop) (x : ShD sl3) (y : VD vl3) (S : Dh TryΓ) :
    evT (cfg N) 20 cl3 (stOf sl3 vl3 x y) S (roundT (fun st S => rec (cutAtT (cfg N) cl3 st) S) K) = b3 N x.1 x.2.1 x.2.2.1 x.2.2.2.1 (fun a3 a9 => rec (stOf sl3 vl3 (a3, x.2.1, x.2.2.1, a9, ()) ()) S) (fun o3 => K (.exit 0) (stOf sx0 vx0 (o3, ()) ()) S) := by kernel_rfl
theorem le3 (N : Nat) (K : Ex → TS → Dh TryΓ → Prop) (S : Dh TryΓ) : ∀ (m : Nat) (x : ShD sl3) (y : VD vl3), loopT (cutAtT (cfg N) cl3) (fun st S K => evT (cfg N) 20 cl3 st S K) m (stOf sl3 vl3 x y) S K = fl3 N m x y S K := by
  intro m
  induction m with
  | zero => intros; rfl
  | succ m ih =>
    intro x y
    exact Eq.trans (be3 N (fun st S => loopT (cutAtT (cfg N) cl3) (fun st S K => evT (cfg N) 20 cl3 st S K) m st S K) K x y S) (Eq.trans (congrArg (fun ag => b3 N x.1 x.2.1 x.2.2.1 x.2.2.2.1 ag (fun o3 => K (.exit 0) (stOf sx0 vx0 (o3, ()) ()) S)) (funext fun a3 => funext fun a9 => ih (a3, x.2.1, x.2.2.1, a9, ()) ())) (by kernel_rfl))
theorem main (N : Nat) (xs : DataL (sp N).ps) (S : Dh TryΓ) (K : DataL (sp N).rs → Dh TryΓ → Prop) :
    fnT (cfg N) Try.f25 (sp N).ps (sp N).rs xs S K = (sp N).run xs S K := by kernel_rfl
theorem tabs : TabsT (cfg big) 20 (bodyOf Try.f25) := tabsT (c := cfg big) [(3, fragT sl3 vl3 (fl3 big big))] [] rfl rfl ⟨⟨cl3, by kernel_rfl, loopTie (f := fl3 big) (le3 big) big⟩, trivial⟩ trivial
theorem ok : TOK Try.prog 25 (sp big) := tok_of_eq (c := cfg big) (fn := Try.f25) (funsT [] rfl trivial) trivial (by kernel_rfl) Try.func25 (by kernel_rfl) (by kernel_rfl) (by kernel_rfl) tabs rfl rfl (main big)
theorem okk : TOK Try.prog 25 (spk big) := tok_keep ok
end T25f
/-! granary/ring.nameOK -/
namespace T26f
def tab (N : Nat) (k : Nat) : Option (TSp TryΓ) := lk k []
abbrev sn8 : List (Nat × Sh) := [(16, .d (.sl true 5 (.int .u8)) [1, 16]), (17, .d (.int .i64) [8]), (18, .d (.int .i64) [8])]
abbrev vn8 : List (Nat × Ty) := []
abbrev sr : List (Nat × Sh) := [(2, .d .bool [8])]
abbrev vr : List (Nat × Ty) := []
abbrev sn7 : List (Nat × Sh) := [(16, .d (.sl true 5 (.int .u8)) [1, 16]), (17, .d (.int .i64) [8]), (18, .d (.int .i64) [8])]
abbrev vn7 : List (Nat × Ty) := []
abbrev sx0 : List (Nat × Sh) := []
abbrev vx0 : List (Nat × Ty) := []
def j8 (N : Nat) (a3 : Int) (a5 : Bool) (a6 : Bool) (a16 : List Int) (a17 : Int) (a18 : Int) (kn : Prop) (kr : Bool → Prop) : Prop :=
  (match (!a5 : Bool) with
  | true => (match (!a6 : Bool) with
  | true => kr false
  | false => (match (decide (a3 = 0) : Bool) with
  | true => kr false
  | false => kn))
  | false => kn)
abbrev sj8 : List (Nat × Sh) := [(3, .d (.int .i64) [8]), (5, .d .bool [8]), (6, .d .bool [8]), (16, .d (.sl true 5 (.int .u8)) [1, 16]), (17, .d (.int .i64) [8]), (18, .d (.int .i64) [8])]
abbrev vj8 : List (Nat × Ty) := []
def fj8 (N : Nat) (x : ShD sj8) (y : VD vj8) (S : Dh TryΓ) (K : Ex → TS → Dh TryΓ → Prop) : Prop := j8 N x.1 x.2.1 x.2.2.1 x.2.2.2.1 x.2.2.2.2.1 x.2.2.2.2.2.1 (K .normal (stOf sn8 vn8 (x.2.2.2.1, x.2.2.2.2.1, x.2.2.2.2.2.1, ()) ()) S) (fun o2 => K .ret (stOf sr vr (o2, ()) ()) S)
def j7 (N : Nat) (a3 : Int) (a4 : Int) (a5 : Bool) (a16 : List Int) (a17 : Int) (a18 : Int) (kn : Prop) (kr : Bool → Prop) : Prop :=
  (match (decide (48 ≤ a4) : Bool) with
  | true => (match (decide (a4 ≤ 57) : Bool) with
  | true => j8 N a3 a5 true a16 a17 a18
      (kn)
      (fun y2 =>
  kr y2)
  | false => j8 N a3 a5 (decide (a4 = 45)) a16 a17 a18
      (kn)
      (fun y3 =>
  kr y3))
  | false => j8 N a3 a5 (decide (a4 = 45)) a16 a17 a18
      (kn)
      (fun y4 =>
  kr y4))
abbrev sj7 : List (Nat × Sh) := [(3, .d (.int .i64) [8]), (4, .d (.int .u8) [8]), (5, .d .bool [8]), (16, .d (.sl true 5 (.int .u8)) [1, 16]), (17, .d (.int .i64) [8]), (18, .d (.int .i64) [8])]
abbrev vj7 : List (Nat × Ty) := []
def fj7 (N : Nat) (x : ShD sj7) (y : VD vj7) (S : Dh TryΓ) (K : Ex → TS → Dh TryΓ → Prop) : Prop := j7 N x.1 x.2.1 x.2.2.1 x.2.2.2.1 x.2.2.2.2.1 x.2.2.2.2.2.1 (K .normal (stOf sn7 vn7 (x.2.2.2.1, x.2.2.2.2.1, x.2.2.2.2.2.1, ()) ()) S) (fun o2 => K .ret (stOf sr vr (o2, ()) ()) S)
def b4 (N : Nat) (a16 : List Int) (a17 : Int) (a18 : Int) (again : Int → Prop) (kx0 : Prop) (kr : Bool → Prop) : Prop :=
  (match (decide (a18 < a17) : Bool) with
  | true => (gd (decide (0 ≤ a18) && decide (a18 < ((a16.length : Nat) : Int))) <|
  optP (a16[a18.toNat]?) fun v1 =>
  (match (decide (97 ≤ v1) : Bool) with
  | true => j7 N a18 v1 (decide (v1 ≤ 122)) a16 a17 a18
      (let x2 : Int := IntKind.i64.wrap (a18 + 1)
  again x2)
      (fun y3 =>
  kr y3)
  | false => j7 N a18 v1 false a16 a17 a18
      (let x4 : Int := IntKind.i64.wrap (a18 + 1)
  again x4)
      (fun y5 =>
  kr y5)))
  | false => kx0)
def l4 (N : Nat) (a16 : List Int) (a17 : Int) : Nat → Int → (Prop) → (Bool → Prop) → Prop
  | 0, _, _, _ => False
  | m + 1, a18, kx0, kr => b4 N a16 a17 a18 (fun a18 => l4 N a16 a17 m a18 kx0 kr) kx0 kr
abbrev sl4 : List (Nat × Sh) := [(16, .d (.sl true 5 (.int .u8)) [1, 16]), (17, .d (.int .i64) [8]), (18, .d (.int .i64) [8])]
abbrev vl4 : List (Nat × Ty) := []
def fl4 (N m : Nat) (x : ShD sl4) (y : VD vl4) (S : Dh TryΓ) (K : Ex → TS → Dh TryΓ → Prop) : Prop := l4 N x.1 x.2.1 m x.2.2.1 (K (.exit 0) (stOf sx0 vx0 () ()) S) (fun o2 => K .ret (stOf sr vr (o2, ()) ()) S)
def P (N : Nat) (a0 : List UInt8) (K : Bool → Prop) : Prop :=
  (match (decide ((((a0.length : Nat) : Int)) < 1) : Bool) with
  | true => K false
  | false => (match (decide (40 < (((a0.length : Nat) : Int))) : Bool) with
  | true => K false
  | false => (gd (decide (a0.length ≤ room)) <|
  l4 N (bytesD a0) (((bytesD a0).length : Nat) : Int) N 0
      (K true)
      (fun y6 =>
  K y6))))
def sp (N : Nat) : TSp TryΓ := ⟨false, [.str], [.bool], fun xs S K => P N xs.1 (fun r0 => K (r0, ()) S), false⟩
def spk (N : Nat) : TSp TryΓ := ⟨false, [.str], [.bool], fun xs S K => P N xs.1 (fun r0 => K (r0, ()) S), true⟩
noncomputable def cfg (N : Nat) : TCfg TryΓ := ⟨Try.prog, tab N, (fun k => (lk k [(16, (.sl true 5 (.int .u8)))]).getD .unit), (fun k => lk k [(4, fragT sl4 vl4 (fl4 N N))]), (fun k => lk k [(8, fragT sj8 vj8 (fj8 N)), (7, fragT sj7 vj7 (fj7 N))]),
  (fun k => lk k [(4, ⟨[(16, some ((.sl true 5 (.int .u8)), [1, 16])), (17, some ((.int .i64), [8])), (18, some ((.int .i64), [8]))], [], [(16, [1, 16])], []⟩), (7, ⟨[(3, some ((.int .i64), [8])), (4, some ((.int .u8), [8])), (5, some (.bool, [8])), (16, some ((.sl true 5 (.int .u8)), [1, 16])), (17, some ((.int .i64), [8])), (18, some ((.int .i64), [8]))], [], [(16, [1, 16])], []⟩), (8, ⟨[(3, some ((.int .i64), [8])), (5, some (.bool, [8])), (6, some (.bool, [8])), (16, some ((.sl true 5 (.int .u8)), [1, 16])), (17, some ((.int .i64), [8])), (18, some ((.int .i64), [8]))], [], [(16, [1, 16])], []⟩)]), (fun k => lk k [(0, ⟨[], [], [], []⟩)]), some ⟨[(2, some (.bool, [8]))], [], [], [2]⟩, (fun k => lk k [(7, ⟨[(16, some ((.sl true 5 (.int .u8)), [1, 16])), (17, some ((.int .i64), [8])), (18, some ((.int .i64), [8]))], [], [(16, [1, 16])], []⟩), (8, ⟨[(16, some ((.sl true 5 (.int .u8)), [1, 16])), (17, some ((.int .i64), [8])), (18, some ((.int .i64), [8]))], [], [(16, [1, 16])], []⟩)]), [], memN [], (fun k => lk k [])⟩
noncomputable def cj8 : Code := sub [1, 1, 0, 1, 0, 0, 1, 1, 0, 0, 1, 1, 1] (bodyOf Try.f26)
theorem je8 (N : Nat) (K : Ex → TS → Dh TryΓ → Prop) (x : ShD sj8) (y : VD vj8) (S : Dh TryΓ) :
    evT (cfg N) 50 cj8 (stOf sj8 vj8 x y) S (endsT (cfg N) cj8 K) = fj8 N x y S K := by kernel_rfl
noncomputable def cj7 : Code := sub [1, 1, 0, 1, 0, 0, 1, 1, 0, 0, 1, 1] (bodyOf Try.f26)
theorem je7 (N : Nat) (K : Ex → TS → Dh TryΓ → Prop) (x : ShD sj7) (y : VD vj7) (S : Dh TryΓ) :
    evT (cfg N) 50 cj7 (stOf sj7 vj7 x y) S (endsT (cfg N) cj7 K) = fj7 N x y S K := by kernel_rfl
noncomputable def cl4 : Code := sub [1, 1, 0, 1, 0, 0] (bodyOf Try.f26)
theorem be4 (N : Nat) (rec : TS → Dh TryΓ → Prop) (K : Ex → TS → Dh TryΓ → Prop) (x : ShD sl4) (y : VD vl4) (S : Dh TryΓ) :
    evT (cfg N) 50 cl4 (stOf sl4 vl4 x y) S (roundT (fun st S => rec (cutAtT (cfg N) cl4 st) S) K) = b4 N x.1 x.2.1 x.2.2.1 (fun a18 => rec (stOf sl4 vl4 (x.1, x.2.1, a18, ()) ()) S) (K (.exit 0) (stOf sx0 vx0 () ()) S) (fun o2 => K .ret (stOf sr vr (o2, ()) ()) S) := by kernel_rfl
theorem le4 (N : Nat) (K : Ex → TS → Dh TryΓ → Prop) (S : Dh TryΓ) : ∀ (m : Nat) (x : ShD sl4) (y : VD vl4), loopT (cutAtT (cfg N) cl4) (fun st S K => evT (cfg N) 50 cl4 st S K) m (stOf sl4 vl4 x y) S K = fl4 N m x y S K := by
  intro m
  induction m with
  | zero => intros; rfl
  | succ m ih =>
    intro x y
    exact Eq.trans (be4 N (fun st S => loopT (cutAtT (cfg N) cl4) (fun st S K => evT (cfg N) 50 cl4 st S K) m st S K) K x y S) (Eq.trans (congrArg (fun ag => b4 N x.1 x.2.1 x.2.2.1 ag (K (.exit 0) (stOf sx0 vx0 () ()) S) (fun o2 => K .ret (stOf sr vr (o2, ()) ()) S)) (funext fun a18 => ih (x.1, x.2.1, a18, ()) ())) (by kernel_rfl))
theorem main (N : Nat) (xs : DataL (sp N).ps) (S : Dh TryΓ) (K : DataL (sp N).rs → Dh TryΓ → Prop) :
    fnT (cfg N) Try.f26 (sp N).ps (sp N).rs xs S K = (sp N).run xs S K := by kernel_rfl
theorem tabs : TabsT (cfg big) 50 (bodyOf Try.f26) := tabsT (c := cfg big) [(4, fragT sl4 vl4 (fl4 big big))] [(8, fragT sj8 vj8 (fj8 big)), (7, fragT sj7 vj7 (fj7 big))] rfl rfl ⟨⟨cl4, by kernel_rfl, loopTie (f := fl4 big) (le4 big) big⟩, trivial⟩ ⟨⟨cj8, by kernel_rfl, joinTie (f := fj8 big) (je8 big)⟩, ⟨cj7, by kernel_rfl, joinTie (f := fj7 big) (je7 big)⟩, trivial⟩
theorem ok : TOK Try.prog 26 (sp big) := tok_of_eq (c := cfg big) (fn := Try.f26) (funsT [] rfl trivial) trivial (by kernel_rfl) Try.func26 (by kernel_rfl) (by kernel_rfl) (by kernel_rfl) tabs rfl rfl (main big)
theorem okk : TOK Try.prog 26 (spk big) := tok_keep ok
end T26f
/-! cmp.isNaN[int] -/
namespace T54f
def tab (N : Nat) (k : Nat) : Option (TSp TryΓ) := lk k []
def P (N : Nat) (a0 : Int) (K : Bool → Prop) : Prop :=
  K (!decide (a0 = a0))
def sp (N : Nat) : TSp TryΓ := ⟨false, [(.int .i64)], [.bool], fun xs S K => P N xs.1 (fun r0 => K (r0, ()) S), false⟩
def spk (N : Nat) : TSp TryΓ := ⟨false, [(.int .i64)], [.bool], fun xs S K => P N xs.1 (fun r0 => K (r0, ()) S), true⟩
noncomputable def cfg (N : Nat) : TCfg TryΓ := ⟨Try.prog, tab N, (fun k => (lk k []).getD .unit), (fun k => lk k []), (fun k => lk k []),
  (fun k => lk k []), (fun k => lk k []), some ⟨[(2, some (.bool, [8]))], [], [], [2]⟩, (fun k => lk k []), [], memN [], (fun k => lk k [])⟩
theorem main (N : Nat) (xs : DataL (sp N).ps) (S : Dh TryΓ) (K : DataL (sp N).rs → Dh TryΓ → Prop) :
    fnT (cfg N) Try.f54 (sp N).ps (sp N).rs xs S K = (sp N).run xs S K := by kernel_rfl
theorem tabs : TabsT (cfg big) 6 (bodyOf Try.f54) := tabsT (c := cfg big) [] [] rfl rfl trivial trivial
theorem ok : TOK Try.prog 54 (sp big) := tok_of_eq (c := cfg big) (fn := Try.f54) (funsT [] rfl trivial) trivial (by kernel_rfl) Try.func54 (by kernel_rfl) (by kernel_rfl) (by kernel_rfl) tabs rfl rfl (main big)
theorem okk : TOK Try.prog 54 (spk big) := tok_keep ok
end T54f
/-! cmp.Less[int] -/
namespace T53f
def tab (N : Nat) (k : Nat) : Option (TSp TryΓ) := lk k [(54, T54f.spk N)]
def P (N : Nat) (a0 : Int) (a1 : Int) (K : Bool → Prop) : Prop :=
  T54f.P N a0 fun r1 =>
  (match (r1 : Bool) with
  | true => T54f.P N a1 fun r2 =>
  (match (!r2 : Bool) with
  | true => K true
  | false => K (decide (a0 < a1)))
  | false => K (decide (a0 < a1)))
def sp (N : Nat) : TSp TryΓ := ⟨false, [(.int .i64), (.int .i64)], [.bool], fun xs S K => P N xs.1 xs.2.1 (fun r0 => K (r0, ()) S), false⟩
def spk (N : Nat) : TSp TryΓ := ⟨false, [(.int .i64), (.int .i64)], [.bool], fun xs S K => P N xs.1 xs.2.1 (fun r0 => K (r0, ()) S), true⟩
noncomputable def cfg (N : Nat) : TCfg TryΓ := ⟨Try.prog, tab N, (fun k => (lk k []).getD .unit), (fun k => lk k []), (fun k => lk k []),
  (fun k => lk k []), (fun k => lk k []), some ⟨[(4, some (.bool, [8]))], [], [], [4]⟩, (fun k => lk k []), [], memN [], (fun k => lk k [])⟩
theorem main (N : Nat) (xs : DataL (sp N).ps) (S : Dh TryΓ) (K : DataL (sp N).rs → Dh TryΓ → Prop) :
    fnT (cfg N) Try.f53 (sp N).ps (sp N).rs xs S K = (sp N).run xs S K := by kernel_rfl
theorem tabs : TabsT (cfg big) 17 (bodyOf Try.f53) := tabsT (c := cfg big) [] [] rfl rfl trivial trivial
theorem ok : TOK Try.prog 53 (sp big) := tok_of_eq (c := cfg big) (fn := Try.f53) (funsT [(54, T54f.spk big)] rfl ⟨T54f.okk, trivial⟩) trivial (by kernel_rfl) Try.func53 (by kernel_rfl) (by kernel_rfl) (by kernel_rfl) tabs rfl rfl (main big)
theorem okk : TOK Try.prog 53 (spk big) := tok_keep ok
end T53f
/-! slices.IsSorted[[]int,int] -/
namespace T52f
def tab (N : Nat) (k : Nat) : Option (TSp TryΓ) := lk k [(53, T53f.spk N)]
abbrev sx0 : List (Nat × Sh) := []
abbrev vx0 : List (Nat × Ty) := []
abbrev sr : List (Nat × Sh) := [(2, .d .bool [8])]
abbrev vr : List (Nat × Ty) := []
def b2 (N : Nat) (a0 : List Int) (a3 : Int) (again : Int → Prop) (kx0 : Prop) (kr : Bool → Prop) : Prop :=
  (match (decide (0 < a3) : Bool) with
  | true => (gd (decide (0 ≤ a3) && decide (a3 < ((a0.length : Nat) : Int))) <|
  optP (a0[a3.toNat]?) fun v2 =>
  let x3 : Int := IntKind.i64.wrap (a3 - 1)
  (gd (decide (0 ≤ x3) && decide (x3 < ((a0.length : Nat) : Int))) <|
  optP (a0[x3.toNat]?) fun v4 =>
  T53f.P N v2 v4 fun r5 =>
  (match (r5 : Bool) with
  | true => kr false
  | false => let x6 : Int := IntKind.i64.wrap (a3 - 1)
  again x6)))
  | false => kx0)
def l2 (N : Nat) (a0 : List Int) : Nat → Int → (Prop) → (Bool → Prop) → Prop
  | 0, _, _, _ => False
  | m + 1, a3, kx0, kr => b2 N a0 a3 (fun a3 => l2 N a0 m a3 kx0 kr) kx0 kr
abbrev sl2 : List (Nat × Sh) := [(0, .d (.sl false 3 (.int .i64)) [8]), (3, .d (.int .i64) [8])]
abbrev vl2 : List (Nat × Ty) := []
def fl2 (N m : Nat) (x : ShD sl2) (y : VD vl2) (S : Dh TryΓ) (K : Ex → TS → Dh TryΓ → Prop) : Prop := l2 N x.1 m x.2.1 (K (.exit 0) (stOf sx0 vx0 () ()) S) (fun o2 => K .ret (stOf sr vr (o2, ()) ()) S)
def P (N : Nat) (a0 : List Int) (K : Bool → Prop) : Prop :=
  let x1 : Int := IntKind.i64.wrap ((((a0.length : Nat) : Int)) - 1)
  l2 N a0 N x1
      (K true)
      (fun y7 =>
  K y7)
def sp (N : Nat) : TSp TryΓ := ⟨false, [(.sl false 3 (.int .i64))], [.bool], fun xs S K => P N xs.1 (fun r0 => K (r0, ()) S), false⟩
def spk (N : Nat) : TSp TryΓ := ⟨false, [(.sl false 3 (.int .i64))], [.bool], fun xs S K => P N xs.1 (fun r0 => K (r0, ()) S), true⟩
noncomputable def cfg (N : Nat) : TCfg TryΓ := ⟨Try.prog, tab N, (fun k => (lk k []).getD .unit), (fun k => lk k [(2, fragT sl2 vl2 (fl2 N N))]), (fun k => lk k []),
  (fun k => lk k [(2, ⟨[(0, some ((.sl false 3 (.int .i64)), [8])), (3, some ((.int .i64), [8]))], [], [], []⟩)]), (fun k => lk k [(0, ⟨[], [], [], []⟩)]), some ⟨[(2, some (.bool, [8]))], [], [], [2]⟩, (fun k => lk k []), [], memN [], (fun k => lk k [])⟩
noncomputable def cl2 : Code := sub [1, 0, 1, 0, 0] (bodyOf Try.f52)
theorem be2 (N : Nat) (rec : TS → Dh TryΓ → Prop) (K : Ex → TS → Dh TryΓ → Prop) (x : ShD sl2) (y : VD vl2) (S : Dh TryΓ) :
    evT (cfg N) 21 cl2 (stOf sl2 vl2 x y) S (roundT (fun st S => rec (cutAtT (cfg N) cl2 st) S) K) = b2 N x.1 x.2.1 (fun a3 => rec (stOf sl2 vl2 (x.1, a3, ()) ()) S) (K (.exit 0) (stOf sx0 vx0 () ()) S) (fun o2 => K .ret (stOf sr vr (o2, ()) ()) S) := by kernel_rfl
theorem le2 (N : Nat) (K : Ex → TS → Dh TryΓ → Prop) (S : Dh TryΓ) : ∀ (m : Nat) (x : ShD sl2) (y : VD vl2), loopT (cutAtT (cfg N) cl2) (fun st S K => evT (cfg N) 21 cl2 st S K) m (stOf sl2 vl2 x y) S K = fl2 N m x y S K := by
  intro m
  induction m with
  | zero => intros; rfl
  | succ m ih =>
    intro x y
    exact Eq.trans (be2 N (fun st S => loopT (cutAtT (cfg N) cl2) (fun st S K => evT (cfg N) 21 cl2 st S K) m st S K) K x y S) (Eq.trans (congrArg (fun ag => b2 N x.1 x.2.1 ag (K (.exit 0) (stOf sx0 vx0 () ()) S) (fun o2 => K .ret (stOf sr vr (o2, ()) ()) S)) (funext fun a3 => ih (x.1, a3, ()) ())) (by kernel_rfl))
theorem main (N : Nat) (xs : DataL (sp N).ps) (S : Dh TryΓ) (K : DataL (sp N).rs → Dh TryΓ → Prop) :
    fnT (cfg N) Try.f52 (sp N).ps (sp N).rs xs S K = (sp N).run xs S K := by kernel_rfl
theorem tabs : TabsT (cfg big) 21 (bodyOf Try.f52) := tabsT (c := cfg big) [(2, fragT sl2 vl2 (fl2 big big))] [] rfl rfl ⟨⟨cl2, by kernel_rfl, loopTie (f := fl2 big) (le2 big) big⟩, trivial⟩ trivial
theorem ok : TOK Try.prog 52 (sp big) := tok_of_eq (c := cfg big) (fn := Try.f52) (funsT [(53, T53f.spk big)] rfl ⟨T53f.okk, trivial⟩) trivial (by kernel_rfl) Try.func52 (by kernel_rfl) (by kernel_rfl) (by kernel_rfl) tabs rfl rfl (main big)
theorem okk : TOK Try.prog 52 (spk big) := tok_keep ok
end T52f
/-! sort.IntsAreSorted -/
namespace T51f
def tab (N : Nat) (k : Nat) : Option (TSp TryΓ) := lk k [(52, T52f.spk N)]
def P (N : Nat) (a0 : List Int) (K : Bool → Prop) : Prop :=
  T52f.P N a0 fun r1 =>
  K r1
def sp (N : Nat) : TSp TryΓ := ⟨false, [(.sl false 3 (.int .i64))], [.bool], fun xs S K => P N xs.1 (fun r0 => K (r0, ()) S), false⟩
def spk (N : Nat) : TSp TryΓ := ⟨false, [(.sl false 3 (.int .i64))], [.bool], fun xs S K => P N xs.1 (fun r0 => K (r0, ()) S), true⟩
noncomputable def cfg (N : Nat) : TCfg TryΓ := ⟨Try.prog, tab N, (fun k => (lk k []).getD .unit), (fun k => lk k []), (fun k => lk k []),
  (fun k => lk k []), (fun k => lk k []), some ⟨[(2, some (.bool, [8]))], [], [], [2]⟩, (fun k => lk k []), [], memN [], (fun k => lk k [])⟩
theorem main (N : Nat) (xs : DataL (sp N).ps) (S : Dh TryΓ) (K : DataL (sp N).rs → Dh TryΓ → Prop) :
    fnT (cfg N) Try.f51 (sp N).ps (sp N).rs xs S K = (sp N).run xs S K := by kernel_rfl
theorem tabs : TabsT (cfg big) 5 (bodyOf Try.f51) := tabsT (c := cfg big) [] [] rfl rfl trivial trivial
theorem ok : TOK Try.prog 51 (sp big) := tok_of_eq (c := cfg big) (fn := Try.f51) (funsT [(52, T52f.spk big)] rfl ⟨T52f.okk, trivial⟩) trivial (by kernel_rfl) Try.func51 (by kernel_rfl) (by kernel_rfl) (by kernel_rfl) tabs rfl rfl (main big)
theorem okk : TOK Try.prog 51 (spk big) := tok_keep ok
end T51f
/-! granary/ring.homes -/
namespace T28f
def tab (N : Nat) (k : Nat) : Option (TSp TryΓ) := lk k [(21, T21f.spk N), (51, T51f.spk N)]
abbrev sx0 : List (Nat × Sh) := [(1, .pv 1 [] 0), (4, .d (.int .i64) [8])]
abbrev vx0 : List (Nat × Ty) := [(1, T30)]
abbrev sx2 : List (Nat × Sh) := [(1, .pv 1 [] 0), (4, .d (.int .i64) [8]), (7, .d (.sl true 3 (.int .i64)) [1, 7])]
abbrev vx2 : List (Nat × Ty) := [(1, T30)]
abbrev sx6 : List (Nat × Sh) := [(4, .d (.int .i64) [8]), (7, .d (.sl true 3 (.int .i64)) [1, 7]), (41, .d (.sl false 53 T52) [8]), (42, .d (.int .i64) [8]), (43, .d (.int .i64) [8])]
abbrev vx6 : List (Nat × Ty) := []
abbrev sr : List (Nat × Sh) := [(2, .d (.sl false 3 (.int .i64)) [8]), (3, .d (.int .i64) [8])]
abbrev vr : List (Nat × Ty) := []
abbrev sx4 : List (Nat × Sh) := [(7, .d (.sl true 3 (.int .i64)) [1, 7])]
abbrev vx4 : List (Nat × Ty) := []
def b3 (N : Nat) (a4 : Int) (a14 : List D52) (a15 : Int) (a16 : Int) (v1 : D30) (again : Int → Int → Prop) (kx0 : Int → D30 → Prop) : Prop :=
  (match (decide (a16 < a15) : Bool) with
  | true => (gd (decide (0 ≤ a16) && decide (a16 < ((a14.length : Nat) : Int))) <|
  optP (a14[a16.toNat]?) fun v1 =>
  let x2 : Int := IntKind.i64.wrap (a4 + (((v1.2.1.length : Nat) : Int)))
  let x3 : Int := IntKind.i64.wrap (a16 + 1)
  again x2 x3)
  | false => kx0 a4 v1)
def l3 (N : Nat) (a14 : List D52) (a15 : Int) (v1 : D30) : Nat → Int → Int → (Int → D30 → Prop) → Prop
  | 0, _, _, _ => False
  | m + 1, a4, a16, kx0 => b3 N a4 a14 a15 a16 v1 (fun a4 a16 => l3 N a14 a15 v1 m a4 a16 kx0) kx0
abbrev sl3 : List (Nat × Sh) := [(1, .pv 1 [] 0), (4, .d (.int .i64) [8]), (14, .d (.sl false 53 T52) [8]), (15, .d (.int .i64) [8]), (16, .d (.int .i64) [8])]
abbrev vl3 : List (Nat × Ty) := [(1, T30)]
def fl3 (N m : Nat) (x : ShD sl3) (y : VD vl3) (S : Dh TryΓ) (K : Ex → TS → Dh TryΓ → Prop) : Prop := l3 N x.2.1 x.2.2.1 y.1 m x.1 x.2.2.2.1 (fun o4 u1 => K (.exit 0) (stOf sx0 vx0 (o4, ()) (u1, ())) S)
def b11 (N : Nat) (a4 : Int) (a7 : List Int) (a32 : Int) (a33 : Int) (v1 : D30) (again : (List Int) → Int → Prop) (kx2 : (List Int) → D30 → Prop) : Prop :=
  (match (decide (a33 < a32) : Bool) with
  | true => (gd (decide (0 ≤ a33) && decide (a33 < ((a7.length : Nat) : Int))) <|
  optP (a7[a33.toNat]?) fun v5 =>
  let x6 : Int := IntKind.i64.wrap (a33 + 1)
  again (a7.set a33.toNat (-1)) x6)
  | false => kx2 a7 v1)
def l11 (N : Nat) (a4 : Int) (a32 : Int) (v1 : D30) : Nat → (List Int) → Int → ((List Int) → D30 → Prop) → Prop
  | 0, _, _, _ => False
  | m + 1, a7, a33, kx2 => b11 N a4 a7 a32 a33 v1 (fun a7 a33 => l11 N a4 a32 v1 m a7 a33 kx2) kx2
abbrev sl11 : List (Nat × Sh) := [(1, .pv 1 [] 0), (4, .d (.int .i64) [8]), (7, .d (.sl true 3 (.int .i64)) [1, 7]), (32, .d (.int .i64) [8]), (33, .d (.int .i64) [8])]
abbrev vl11 : List (Nat × Ty) := [(1, T30)]
def fl11 (N m : Nat) (x : ShD sl11) (y : VD vl11) (S : Dh TryΓ) (K : Ex → TS → Dh TryΓ → Prop) : Prop := l11 N x.1 x.2.2.1 y.1 m x.2.1 x.2.2.2.1 (fun o7 u1 => K (.exit 2) (stOf sx2 vx2 (x.1, o7, ()) (u1, ())) S)
def b21 (N : Nat) (a4 : Int) (a7 : List Int) (a9 : Int) (a41 : List D52) (a42 : Int) (a43 : Int) (a53 : List Int) (a54 : Int) (a55 : Int) (again : (List Int) → Int → Prop) (kx6 : (List Int) → Prop) (kr : (List Int) → Int → Prop) : Prop :=
  (match (decide (a55 < a54) : Bool) with
  | true => (gd (decide (0 ≤ a55) && decide (a55 < ((a53.length : Nat) : Int))) <|
  optP (a53[a55.toNat]?) fun v9 =>
  (match (decide (v9 < 0) : Bool) with
  | true => kr [] 66
  | false => (match (decide (a4 ≤ v9) : Bool) with
  | true => kr [] 66
  | false => (gd (decide (0 ≤ v9) && decide (v9 < ((a7.length : Nat) : Int))) <|
  optP (a7[v9.toNat]?) fun v10 =>
  (match (decide (0 ≤ v10) : Bool) with
  | true => kr [] 66
  | false => (gd (decide (0 ≤ v9) && decide (v9 < ((a7.length : Nat) : Int))) <|
  optP (a7[v9.toNat]?) fun v11 =>
  let x12 : Int := IntKind.i64.wrap (a55 + 1)
  again (a7.set v9.toNat a9) x12))))))
  | false => kx6 a7)
def l21 (N : Nat) (a4 : Int) (a9 : Int) (a41 : List D52) (a42 : Int) (a43 : Int) (a53 : List Int) (a54 : Int) : Nat → (List Int) → Int → ((List Int) → Prop) → ((List Int) → Int → Prop) → Prop
  | 0, _, _, _, _ => False
  | m + 1, a7, a55, kx6, kr => b21 N a4 a7 a9 a41 a42 a43 a53 a54 a55 (fun a7 a55 => l21 N a4 a9 a41 a42 a43 a53 a54 m a7 a55 kx6 kr) kx6 kr
abbrev sl21 : List (Nat × Sh) := [(4, .d (.int .i64) [8]), (7, .d (.sl true 3 (.int .i64)) [1, 7]), (9, .d (.int .i64) [8]), (41, .d (.sl false 53 T52) [8]), (42, .d (.int .i64) [8]), (43, .d (.int .i64) [8]), (53, .d (.sl false 3 (.int .i64)) [8]), (54, .d (.int .i64) [8]), (55, .d (.int .i64) [8])]
abbrev vl21 : List (Nat × Ty) := []
def fl21 (N m : Nat) (x : ShD sl21) (y : VD vl21) (S : Dh TryΓ) (K : Ex → TS → Dh TryΓ → Prop) : Prop := l21 N x.1 x.2.2.1 x.2.2.2.1 x.2.2.2.2.1 x.2.2.2.2.2.1 x.2.2.2.2.2.2.1 x.2.2.2.2.2.2.2.1 m x.2.1 x.2.2.2.2.2.2.2.2.1 (fun o7 => K (.exit 6) (stOf sx6 vx6 (x.1, o7, x.2.2.2.1, x.2.2.2.2.1, x.2.2.2.2.2.1, ()) ()) S) (fun o2 o3 => K .ret (stOf sr vr (o2, o3, ()) ()) S)
def b16 (N : Nat) (a4 : Int) (a7 : List Int) (a41 : List D52) (a42 : Int) (a43 : Int) (again : (List Int) → Int → Prop) (kx4 : (List Int) → Prop) (kr : (List Int) → Int → Prop) : Prop :=
  (match (decide (a43 < a42) : Bool) with
  | true => (gd (decide (0 ≤ a43) && decide (a43 < ((a41.length : Nat) : Int))) <|
  optP (a41[a43.toNat]?) fun v7 =>
  T51f.P N v7.2.1 fun r8 =>
  (match (!r8 : Bool) with
  | true => kr [] 66
  | false => l21 N a4 a43 a41 a42 a43 v7.2.1 ((v7.2.1.length : Nat) : Int) N a7 0
      (fun y9 =>
  let x10 : Int := IntKind.i64.wrap (a43 + 1)
  again y9 x10)
      (fun y11 y12 =>
  kr y11 y12)))
  | false => kx4 a7)
def l16 (N : Nat) (a4 : Int) (a41 : List D52) (a42 : Int) : Nat → (List Int) → Int → ((List Int) → Prop) → ((List Int) → Int → Prop) → Prop
  | 0, _, _, _, _ => False
  | m + 1, a7, a43, kx4, kr => b16 N a4 a7 a41 a42 a43 (fun a7 a43 => l16 N a4 a41 a42 m a7 a43 kx4 kr) kx4 kr
abbrev sl16 : List (Nat × Sh) := [(4, .d (.int .i64) [8]), (7, .d (.sl true 3 (.int .i64)) [1, 7]), (41, .d (.sl false 53 T52) [8]), (42, .d (.int .i64) [8]), (43, .d (.int .i64) [8])]
abbrev vl16 : List (Nat × Ty) := []
def fl16 (N m : Nat) (x : ShD sl16) (y : VD vl16) (S : Dh TryΓ) (K : Ex → TS → Dh TryΓ → Prop) : Prop := l16 N x.1 x.2.2.1 x.2.2.2.1 m x.2.1 x.2.2.2.2.1 (fun o7 => K (.exit 4) (stOf sx4 vx4 (o7, ()) ()) S) (fun o2 o3 => K .ret (stOf sr vr (o2, o3, ()) ()) S)
def P (N : Nat) (a0 : D30) (K : (List Int) → Int → Prop) : Prop :=
  l3 N a0.2.2.2.2.2.2.2.2.2.2.2.2.2.2.2.2.2.2.2.2.2.2.1 ((a0.2.2.2.2.2.2.2.2.2.2.2.2.2.2.2.2.2.2.2.2.2.2.1.length : Nat) : Int) a0 N 0 0
      (fun y1 y2 =>
  T21f.P N y1 1 64 fun r3 =>
  (match (!r3 : Bool) with
  | true => K [] 66
  | false => (gd (decide (0 ≤ y1) && decide (y1 ≤ y1) && decide (y1 * ((8 : Nat) : Int) ≤ ((room : Nat) : Int)) && decide (y1 ≤ ((room : Nat) : Int))) <|
  let l4 : List Int := List.replicate y1.toNat 0
  l11 N y1 ((l4.length : Nat) : Int) y2 N l4 0
      (fun y5 y6 =>
  l16 N y1 y6.2.2.2.2.2.2.2.2.2.2.2.2.2.2.2.2.2.2.2.2.2.2.1 ((y6.2.2.2.2.2.2.2.2.2.2.2.2.2.2.2.2.2.2.2.2.2.2.1.length : Nat) : Int) N y5 0
      (fun y13 =>
  K y13 0)
      (fun y14 y15 =>
  K y14 y15)))))
def sp (N : Nat) : TSp TryΓ := ⟨false, [T30], [(.sl false 3 (.int .i64)), (.int .i64)], fun xs S K => P N xs.1 (fun r0 r1 => K (r0, r1, ()) S), false⟩
def spk (N : Nat) : TSp TryΓ := ⟨false, [T30], [(.sl false 3 (.int .i64)), (.int .i64)], fun xs S K => P N xs.1 (fun r0 r1 => K (r0, r1, ()) S), true⟩
noncomputable def cfg (N : Nat) : TCfg TryΓ := ⟨Try.prog, tab N, (fun k => (lk k [(1, T30), (6, T52), (10, T52), (30, (.sl true 3 (.int .i64)))]).getD .unit), (fun k => lk k [(3, fragT sl3 vl3 (fl3 N N)), (11, fragT sl11 vl11 (fl11 N N)), (21, fragT sl21 vl21 (fl21 N N)), (16, fragT sl16 vl16 (fl16 N N))]), (fun k => lk k []),
  (fun k => lk k [(3, ⟨[(1, none), (4, some ((.int .i64), [8])), (14, some ((.sl false 53 T52), [8])), (15, some ((.int .i64), [8])), (16, some ((.int .i64), [8]))], [1], [], []⟩), (11, ⟨[(1, none), (4, some ((.int .i64), [8])), (7, some ((.sl true 3 (.int .i64)), [1, 7])), (32, some ((.int .i64), [8])), (33, some ((.int .i64), [8]))], [1], [(7, [1, 7])], []⟩), (16, ⟨[(4, some ((.int .i64), [8])), (7, some ((.sl true 3 (.int .i64)), [1, 7])), (41, some ((.sl false 53 T52), [8])), (42, some ((.int .i64), [8])), (43, some ((.int .i64), [8]))], [], [(7, [1, 7])], []⟩), (21, ⟨[(4, some ((.int .i64), [8])), (7, some ((.sl true 3 (.int .i64)), [1, 7])), (9, some ((.int .i64), [8])), (41, some ((.sl false 53 T52), [8])), (42, some ((.int .i64), [8])), (43, some ((.int .i64), [8])), (53, some ((.sl false 3 (.int .i64)), [8])), (54, some ((.int .i64), [8])), (55, some ((.int .i64), [8]))], [], [(7, [1, 7])], []⟩)]), (fun k => lk k [(0, ⟨[(1, none), (4, some ((.int .i64), [8]))], [1], [], []⟩), (2, ⟨[(1, none), (4, some ((.int .i64), [8])), (7, some ((.sl true 3 (.int .i64)), [1, 7]))], [1], [(7, [1, 7])], []⟩), (4, ⟨[(7, some ((.sl true 3 (.int .i64)), [1, 7]))], [], [(7, [1, 7])], []⟩), (6, ⟨[(4, some ((.int .i64), [8])), (7, some ((.sl true 3 (.int .i64)), [1, 7])), (41, some ((.sl false 53 T52), [8])), (42, some ((.int .i64), [8])), (43, some ((.int .i64), [8]))], [], [(7, [1, 7])], []⟩)]), some ⟨[(2, some ((.sl false 3 (.int .i64)), [8])), (3, some ((.int .i64), [8]))], [], [], [2, 3]⟩, (fun k => lk k []), [], memN [], (fun k => lk k [])⟩
noncomputable def cl3 : Code := sub [1, 1, 0, 1, 0, 0] (bodyOf Try.f28)
theorem be3 (N : Nat) (rec : TS → Dh TryΓ → Prop) (K : Ex → TS → Dh TryΓ → Prop) (x : ShD sl3) (y : VD vl3) (S : Dh TryΓ) :
    evT (cfg N) 80 cl3 (stOf sl3 vl3 x y) S (roundT (fun st S => rec (cutAtT (cfg N) cl3 st) S) K) = b3 N x.1 x.2.1 x.2.2.1 x.2.2.2.1 y.1 (fun a4 a16 => rec (stOf sl3 vl3 (a4, x.2.1, x.2.2.1, a16, ()) (y.1, ())) S) (fun o4 u1 => K (.exit 0) (stOf sx0 vx0 (o4, ()) (u1, ())) S) := by kernel_rfl
theorem le3 (N : Nat) (K : Ex → TS → Dh TryΓ → Prop) (S : Dh TryΓ) : ∀ (m : Nat) (x : ShD sl3) (y : VD vl3), loopT (cutAtT (cfg N) cl3) (fun st S K => evT (cfg N) 80 cl3 st S K) m (stOf sl3 vl3 x y) S K = fl3 N m x y S K := by
  intro m
  induction m with
  | zero => intros; rfl
  | succ m ih =>
    intro x y
    exact Eq.trans (be3 N (fun st S => loopT (cutAtT (cfg N) cl3) (fun st S K => evT (cfg N) 80 cl3 st S K) m st S K) K x y S) (Eq.trans (congrArg (fun ag => b3 N x.1 x.2.1 x.2.2.1 x.2.2.2.1 y.1 ag (fun o4 u1 => K (.exit 0) (stOf sx0 vx0 (o4, ()) (u1, ())) S)) (funext fun a4 => funext fun a16 => ih (a4, x.2.1, x.2.2.1, a16, ()) (y.1, ()))) (by kernel_rfl))
noncomputable def cl11 : Code := sub [1, 1, 1, 1, 1, 0, 1, 0, 0] (bodyOf Try.f28)
theorem be11 (N : Nat) (rec : TS → Dh TryΓ → Prop) (K : Ex → TS → Dh TryΓ → Prop) (x : ShD sl11) (y : VD vl11) (S : Dh TryΓ) :
    evT (cfg N) 80 cl11 (stOf sl11 vl11 x y) S (roundT (fun st S => rec (cutAtT (cfg N) cl11 st) S) K) = b11 N x.1 x.2.1 x.2.2.1 x.2.2.2.1 y.1 (fun a7 a33 => rec (stOf sl11 vl11 (x.1, a7, x.2.2.1, a33, ()) (y.1, ())) S) (fun o7 u1 => K (.exit 2) (stOf sx2 vx2 (x.1, o7, ()) (u1, ())) S) := by kernel_rfl
theorem le11 (N : Nat) (K : Ex → TS → Dh TryΓ → Prop) (S : Dh TryΓ) : ∀ (m : Nat) (x : ShD sl11) (y : VD vl11), loopT (cutAtT (cfg N) cl11) (fun st S K => evT (cfg N) 80 cl11 st S K) m (stOf sl11 vl11 x y) S K = fl11 N m x y S K := by
  intro m
  induction m with
  | zero => intros; rfl
  | succ m ih =>
    intro x y
    exact Eq.trans (be11 N (fun st S => loopT (cutAtT (cfg N) cl11) (fun st S K => evT (cfg N) 80 cl11 st S K) m st S K) K x y S) (Eq.trans (congrArg (fun ag => b11 N x.1 x.2.1 x.2.2.1 x.2.2.2.1 y.1 ag (fun o7 u1 => K (.exit 2) (stOf sx2 vx2 (x.1, o7, ()) (u1, ())) S)) (funext fun a7 => funext fun a33 => ih (x.1, a7, x.2.2.1, a33, ()) (y.1, ()))) (by kernel_rfl))
noncomputable def cl21 : Code := sub [1, 1, 1, 1, 1, 1, 0, 1, 0, 0, 1, 1, 0, 0, 1, 1, 1, 0, 0] (bodyOf Try.f28)
theorem be21 (N : Nat) (rec : TS → Dh TryΓ → Prop) (K : Ex → TS → Dh TryΓ → Prop) (x : ShD sl21) (y : VD vl21) (S : Dh TryΓ) :
    evT (cfg N) 80 cl21 (stOf sl21 vl21 x y) S (roundT (fun st S => rec (cutAtT (cfg N) cl21 st) S) K) = b21 N x.1 x.2.1 x.2.2.1 x.2.2.2.1 x.2.2.2.2.1 x.2.2.2.2.2.1 x.2.2.2.2.2.2.1 x.2.2.2.2.2.2.2.1 x.2.2.2.2.2.2.2.2.1 (fun a7 a55 => rec (stOf sl21 vl21 (x.1, a7, x.2.2.1, x.2.2.2.1, x.2.2.2.2.1, x.2.2.2.2.2.1, x.2.2.2.2.2.2.1, x.2.2.2.2.2.2.2.1, a55, ()) ()) S) (fun o7 => K (.exit 6) (stOf sx6 vx6 (x.1, o7, x.2.2.2.1, x.2.2.2.2.1, x.2.2.2.2.2.1, ()) ()) S) (fun o2 o3 => K .ret (stOf sr vr (o2, o3, ()) ()) S) := by kernel_rfl
theorem le21 (N : Nat) (K : Ex → TS → Dh TryΓ → Prop) (S : Dh TryΓ) : ∀ (m : Nat) (x : ShD sl21) (y : VD vl21), loopT (cutAtT (cfg N) cl21) (fun st S K => evT (cfg N) 80 cl21 st S K) m (stOf sl21 vl21 x y) S K = fl21 N m x y S K := by
  intro m
  induction m with
  | zero => intros; rfl
  | succ m ih =>
    intro x y
    exact Eq.trans (be21 N (fun st S => loopT (cutAtT (cfg N) cl21) (fun st S K => evT (cfg N) 80 cl21 st S K) m st S K) K x y S) (Eq.trans (congrArg (fun ag => b21 N x.1 x.2.1 x.2.2.1 x.2.2.2.1 x.2.2.2.2.1 x.2.2.2.2.2.1 x.2.2.2.2.2.2.1 x.2.2.2.2.2.2.2.1 x.2.2.2.2.2.2.2.2.1 ag (fun o7 => K (.exit 6) (stOf sx6 vx6 (x.1, o7, x.2.2.2.1, x.2.2.2.2.1, x.2.2.2.2.2.1, ()) ()) S) (fun o2 o3 => K .ret (stOf sr vr (o2, o3, ()) ()) S)) (funext fun a7 => funext fun a55 => ih (x.1, a7, x.2.2.1, x.2.2.2.1, x.2.2.2.2.1, x.2.2.2.2.2.1, x.2.2.2.2.2.2.1, x.2.2.2.2.2.2.2.1, a55, ()) ())) (by kernel_rfl))
noncomputable def cl16 : Code := sub [1, 1, 1, 1, 1, 1, 0, 1, 0, 0] (bodyOf Try.f28)
theorem be16 (N : Nat) (rec : TS → Dh TryΓ → Prop) (K : Ex → TS → Dh TryΓ → Prop) (x : ShD sl16) (y : VD vl16) (S : Dh TryΓ) :
    evT (cfg N) 80 cl16 (stOf sl16 vl16 x y) S (roundT (fun st S => rec (cutAtT (cfg N) cl16 st) S) K) = b16 N x.1 x.2.1 x.2.2.1 x.2.2.2.1 x.2.2.2.2.1 (fun a7 a43 => rec (stOf sl16 vl16 (x.1, a7, x.2.2.1, x.2.2.2.1, a43, ()) ()) S) (fun o7 => K (.exit 4) (stOf sx4 vx4 (o7, ()) ()) S) (fun o2 o3 => K .ret (stOf sr vr (o2, o3, ()) ()) S) := by kernel_rfl
theorem le16 (N : Nat) (K : Ex → TS → Dh TryΓ → Prop) (S : Dh TryΓ) : ∀ (m : Nat) (x : ShD sl16) (y : VD vl16), loopT (cutAtT (cfg N) cl16) (fun st S K => evT (cfg N) 80 cl16 st S K) m (stOf sl16 vl16 x y) S K = fl16 N m x y S K := by
  intro m
  induction m with
  | zero => intros; rfl
  | succ m ih =>
    intro x y
    exact Eq.trans (be16 N (fun st S => loopT (cutAtT (cfg N) cl16) (fun st S K => evT (cfg N) 80 cl16 st S K) m st S K) K x y S) (Eq.trans (congrArg (fun ag => b16 N x.1 x.2.1 x.2.2.1 x.2.2.2.1 x.2.2.2.2.1 ag (fun o7 => K (.exit 4) (stOf sx4 vx4 (o7, ()) ()) S) (fun o2 o3 => K .ret (stOf sr vr (o2, o3, ()) ()) S)) (funext fun a7 => funext fun a43 => ih (x.1, a7, x.2.2.1, x.2.2.2.1, a43, ()) ())) (by kernel_rfl))
theorem main (N : Nat) (xs : DataL (sp N).ps) (S : Dh TryΓ) (K : DataL (sp N).rs → Dh TryΓ → Prop) :
    fnT (cfg N) Try.f28 (sp N).ps (sp N).rs xs S K = (sp N).run xs S K := by kernel_rfl
theorem tabs : TabsT (cfg big) 80 (bodyOf Try.f28) := tabsT (c := cfg big) [(3, fragT sl3 vl3 (fl3 big big)), (11, fragT sl11 vl11 (fl11 big big)), (21, fragT sl21 vl21 (fl21 big big)), (16, fragT sl16 vl16 (fl16 big big))] [] rfl rfl ⟨⟨cl3, by kernel_rfl, loopTie (f := fl3 big) (le3 big) big⟩, ⟨cl11, by kernel_rfl, loopTie (f := fl11 big) (le11 big) big⟩, ⟨cl21, by kernel_rfl, loopTie (f := fl21 big) (le21 big) big⟩, ⟨cl16, by kernel_rfl, loopTie (f := fl16 big) (le16 big) big⟩, trivial⟩ trivial
theorem ok : TOK Try.prog 28 (sp big) := tok_of_eq (c := cfg big) (fn := Try.f28) (funsT [(21, T21f.spk big), (51, T51f.spk big)] rfl ⟨T21f.okk, T51f.okk, trivial⟩) trivial (by kernel_rfl) Try.func28 (by kernel_rfl) (by kernel_rfl) (by kernel_rfl) tabs rfl rfl (main big)
theorem okk : TOK Try.prog 28 (spk big) := tok_keep ok
end T28f
/-! granary/builder.Check -/
namespace T17f
def tab (N : Nat) (k : Nat) : Option (TSp TryΓ) := lk k []
abbrev sx1 : List (Nat × Sh) := [(1, .d (.sl false 55 T54) [8]), (2, .pv 2 [] 0), (5, .d (.int .i64) [8]), (6, .d (.map true 9 3 .str (.int .i64)) [1, 6])]
abbrev vx1 : List (Nat × Ty) := [(2, T57)]
abbrev sr : List (Nat × Sh) := [(4, .d (.int .i64) [8])]
abbrev vr : List (Nat × Ty) := []
def b11 (N : Nat) (a1 : List D54) (a5 : Int) (a6 : List (List UInt8 × Int)) (a56 : List D54) (a57 : Int) (a58 : Int) (v2 : D57) (again : Int → (List (List UInt8 × Int)) → Int → Prop) (kx1 : Int → (List (List UInt8 × Int)) → D57 → Prop) (kr : Int → Prop) : Prop :=
  (match (decide (a58 < a57) : Bool) with
  | true => (gd (decide (0 ≤ a58) && decide (a58 < ((a56.length : Nat) : Int))) <|
  optP (a56[a58.toNat]?) fun v1 =>
  (match (decide ((((v1.1.length : Nat) : Int)) < 1) : Bool) with
  | true => kr 32
  | false => (match (decide (255 < (((v1.1.length : Nat) : Int))) : Bool) with
  | true => kr 32
  | false => (match (decide (4096 < (((v1.2.1.length : Nat) : Int))) : Bool) with
  | true => kr 33
  | false => let x2 : Int := IntKind.i64.wrap ((((v1.1.length : Nat) : Int)) + (((v1.2.1.length : Nat) : Int)))
  let x3 : Int := IntKind.i64.wrap (a5 + x2)
  (match @id (Option Int) (tfind (t := .str) (v := (.int .i64)) v1.1 a6) with
  | some v4 => let x5 : Int := IntKind.i64.wrap (v4 + 1)
  let x6 : Int := IntKind.i64.wrap (a58 + 1)
  again x3 (tset (t := .str) (v := (.int .i64)) v1.1 x5 a6) x6
  | none => let x7 : Int := IntKind.i64.wrap (0 + 1)
  let x8 : Int := IntKind.i64.wrap (a58 + 1)
  again x3 (tset (t := .str) (v := (.int .i64)) v1.1 x7 a6) x8)))))
  | false => kx1 a5 a6 v2)
def l11 (N : Nat) (a1 : List D54) (a56 : List D54) (a57 : Int) (v2 : D57) : Nat → Int → (List (List UInt8 × Int)) → Int → (Int → (List (List UInt8 × Int)) → D57 → Prop) → (Int → Prop) → Prop
  | 0, _, _, _, _, _ => False
  | m + 1, a5, a6, a58, kx1, kr => b11 N a1 a5 a6 a56 a57 a58 v2 (fun a5 a6 a58 => l11 N a1 a56 a57 v2 m a5 a6 a58 kx1 kr) kx1 kr
abbrev sl11 : List (Nat × Sh) := [(1, .d (.sl false 55 T54) [8]), (2, .pv 2 [] 0), (5, .d (.int .i64) [8]), (6, .d (.map true 9 3 .str (.int .i64)) [1, 6]), (56, .d (.sl false 55 T54) [8]), (57, .d (.int .i64) [8]), (58, .d (.int .i64) [8])]
abbrev vl11 : List (Nat × Ty) := [(2, T57)]
def fl11 (N m : Nat) (x : ShD sl11) (y : VD vl11) (S : Dh TryΓ) (K : Ex → TS → Dh TryΓ → Prop) : Prop := l11 N x.1 x.2.2.2.1 x.2.2.2.2.1 y.1 m x.2.1 x.2.2.1 x.2.2.2.2.2.1 (fun o5 o6 u2 => K (.exit 1) (stOf sx1 vx1 (x.1, o5, o6, ()) (u2, ())) S) (fun o4 => K .ret (stOf sr vr (o4, ()) ()) S)
def j9 (N : Nat) (a1 : List D54) (v2 : D57) (kr : Int → Prop) : Prop :=
  l11 N a1 a1 ((a1.length : Nat) : Int) v2 N 0 [] 0
      (fun y1 y2 y3 =>
  (match (decide (32768 < y1) : Bool) with
  | true => kr 3
  | false => (match (decide (y3.2.1 = 2) : Bool) with
  | true => (match (decide ((((y2.length : Nat) : Int)) < (((a1.length : Nat) : Int))) : Bool) with
  | true => kr 83
  | false => kr 0)
  | false => kr 0)))
      (fun y4 =>
  kr y4)
abbrev sj9 : List (Nat × Sh) := [(1, .d (.sl false 55 T54) [8]), (2, .pv 2 [] 0)]
abbrev vj9 : List (Nat × Ty) := [(2, T57)]
def fj9 (N : Nat) (x : ShD sj9) (y : VD vj9) (S : Dh TryΓ) (K : Ex → TS → Dh TryΓ → Prop) : Prop := j9 N x.1 y.1 (fun o4 => K .ret (stOf sr vr (o4, ()) ()) S)
def P (N : Nat) (a0 : D57) (a1 : List D54) (K : Int → Prop) : Prop :=
  (match (decide (a0.1 < 1) : Bool) with
  | true => K 80
  | false => (match (decide (999999 < a0.1) : Bool) with
  | true => K 80
  | false => (match (!decide (a0.2.1 = 0) : Bool) with
  | true => (match (!decide (a0.2.1 = 1) : Bool) with
  | true => (match (!decide (a0.2.1 = 2) : Bool) with
  | true => K 81
  | false => (match (decide (a0.2.2.1 < 1) : Bool) with
  | true => K 1
  | false => (match (decide (1073741824 < a0.2.2.1) : Bool) with
  | true => K 1
  | false => (match (decide (a0.2.2.2.1 < 2) : Bool) with
  | true => K 1
  | false => (match (decide (16 < a0.2.2.2.1) : Bool) with
  | true => K 1
  | false => (match (decide (512 < (((a1.length : Nat) : Int))) : Bool) with
  | true => K 82
  | false => j9 N a1 a0
      (fun y5 =>
  K y5)))))))
  | false => (match (decide (a0.2.2.1 < 1) : Bool) with
  | true => K 1
  | false => (match (decide (1073741824 < a0.2.2.1) : Bool) with
  | true => K 1
  | false => (match (decide (a0.2.2.2.1 < 2) : Bool) with
  | true => K 1
  | false => (match (decide (16 < a0.2.2.2.1) : Bool) with
  | true => K 1
  | false => (match (decide (512 < (((a1.length : Nat) : Int))) : Bool) with
  | true => K 82
  | false => j9 N a1 a0
      (fun y6 =>
  K y6)))))))
  | false => (match (decide (a0.2.2.1 < 1) : Bool) with
  | true => K 1
  | false => (match (decide (1073741824 < a0.2.2.1) : Bool) with
  | true => K 1
  | false => (match (decide (a0.2.2.2.1 < 2) : Bool) with
  | true => K 1
  | false => (match (decide (16 < a0.2.2.2.1) : Bool) with
  | true => K 1
  | false => (match (decide (512 < (((a1.length : Nat) : Int))) : Bool) with
  | true => K 82
  | false => j9 N a1 a0
      (fun y7 =>
  K y7)))))))))
def sp (N : Nat) : TSp TryΓ := ⟨false, [T57, (.sl false 55 T54)], [(.int .i64)], fun xs S K => P N xs.1 xs.2.1 (fun r0 => K (r0, ()) S), false⟩
def spk (N : Nat) : TSp TryΓ := ⟨false, [T57, (.sl false 55 T54)], [(.int .i64)], fun xs S K => P N xs.1 xs.2.1 (fun r0 => K (r0, ()) S), true⟩
noncomputable def cfg (N : Nat) : TCfg TryΓ := ⟨Try.prog, tab N, (fun k => (lk k [(2, T57), (8, T54), (55, (.map true 9 3 .str (.int .i64)))]).getD .unit), (fun k => lk k [(11, fragT sl11 vl11 (fl11 N N))]), (fun k => lk k [(9, fragT sj9 vj9 (fj9 N))]),
  (fun k => lk k [(9, ⟨[(1, some ((.sl false 55 T54), [8])), (2, none)], [2], [], []⟩), (11, ⟨[(1, some ((.sl false 55 T54), [8])), (2, none), (5, some ((.int .i64), [8])), (6, some ((.map true 9 3 .str (.int .i64)), [1, 6])), (56, some ((.sl false 55 T54), [8])), (57, some ((.int .i64), [8])), (58, some ((.int .i64), [8]))], [2], [(6, [1, 6])], []⟩)]), (fun k => lk k [(1, ⟨[(1, some ((.sl false 55 T54), [8])), (2, none), (5, some ((.int .i64), [8])), (6, some ((.map true 9 3 .str (.int .i64)), [1, 6]))], [2], [(6, [1, 6])], []⟩)]), some ⟨[(4, some ((.int .i64), [8]))], [], [], [4]⟩, (fun k => lk k []), [], memN [], (fun k => lk k [])⟩
noncomputable def cl11 : Code := sub [1, 1, 1, 0, 1, 0, 0] (bodyOf Try.f17)
theorem be11 (N : Nat) (rec : TS → Dh TryΓ → Prop) (K : Ex → TS → Dh TryΓ → Prop) (x : ShD sl11) (y : VD vl11) (S : Dh TryΓ) :
    evT (cfg N) 103 cl11 (stOf sl11 vl11 x y) S (roundT (fun st S => rec (cutAtT (cfg N) cl11 st) S) K) = b11 N x.1 x.2.1 x.2.2.1 x.2.2.2.1 x.2.2.2.2.1 x.2.2.2.2.2.1 y.1 (fun a5 a6 a58 => rec (stOf sl11 vl11 (x.1, a5, a6, x.2.2.2.1, x.2.2.2.2.1, a58, ()) (y.1, ())) S) (fun o5 o6 u2 => K (.exit 1) (stOf sx1 vx1 (x.1, o5, o6, ()) (u2, ())) S) (fun o4 => K .ret (stOf sr vr (o4, ()) ()) S) := by kernel_rfl
theorem le11 (N : Nat) (K : Ex → TS → Dh TryΓ → Prop) (S : Dh TryΓ) : ∀ (m : Nat) (x : ShD sl11) (y : VD vl11), loopT (cutAtT (cfg N) cl11) (fun st S K => evT (cfg N) 103 cl11 st S K) m (stOf sl11 vl11 x y) S K = fl11 N m x y S K := by
  intro m
  induction m with
  | zero => intros; rfl
  | succ m ih =>
    intro x y
    exact Eq.trans (be11 N (fun st S => loopT (cutAtT (cfg N) cl11) (fun st S K => evT (cfg N) 103 cl11 st S K) m st S K) K x y S) (Eq.trans (congrArg (fun ag => b11 N x.1 x.2.1 x.2.2.1 x.2.2.2.1 x.2.2.2.2.1 x.2.2.2.2.2.1 y.1 ag (fun o5 o6 u2 => K (.exit 1) (stOf sx1 vx1 (x.1, o5, o6, ()) (u2, ())) S) (fun o4 => K .ret (stOf sr vr (o4, ()) ()) S)) (funext fun a5 => funext fun a6 => funext fun a58 => ih (x.1, a5, a6, x.2.2.2.1, x.2.2.2.2.1, a58, ()) (y.1, ()))) (by kernel_rfl))
noncomputable def cj9 : Code := sub [1, 1] (bodyOf Try.f17)
theorem je9 (N : Nat) (K : Ex → TS → Dh TryΓ → Prop) (x : ShD sj9) (y : VD vj9) (S : Dh TryΓ) :
    evT (cfg N) 103 cj9 (stOf sj9 vj9 x y) S (endsT (cfg N) cj9 K) = fj9 N x y S K := by kernel_rfl
theorem main (N : Nat) (xs : DataL (sp N).ps) (S : Dh TryΓ) (K : DataL (sp N).rs → Dh TryΓ → Prop) :
    fnT (cfg N) Try.f17 (sp N).ps (sp N).rs xs S K = (sp N).run xs S K := by kernel_rfl
theorem tabs : TabsT (cfg big) 103 (bodyOf Try.f17) := tabsT (c := cfg big) [(11, fragT sl11 vl11 (fl11 big big))] [(9, fragT sj9 vj9 (fj9 big))] rfl rfl ⟨⟨cl11, by kernel_rfl, loopTie (f := fl11 big) (le11 big) big⟩, trivial⟩ ⟨⟨cj9, by kernel_rfl, joinTie (f := fj9 big) (je9 big)⟩, trivial⟩
theorem ok : TOK Try.prog 17 (sp big) := tok_of_eq (c := cfg big) (fn := Try.f17) (funsT [] rfl trivial) trivial (by kernel_rfl) Try.func17 (by kernel_rfl) (by kernel_rfl) (by kernel_rfl) tabs rfl rfl (main big)
theorem okk : TOK Try.prog 17 (spk big) := tok_keep ok
end T17f
/-! granary/ring.settings$1 -/
theorem T30f.ok : SpOK Try.prog 0 30 (selSp 1) := sel_ok (c := cfgS Try.prog) (fn := Try.f30) (fun k sp h => by cases h) (by kernel_rfl) Try.func30 (by kernel_rfl) (by kernel_rfl) (by kernel_rfl) (tabsS _ _ _) (fun b off H K => by kernel_rfl)
/-! granary/ring.settings$2 -/
theorem T31f.ok : SpOK Try.prog 0 31 (selSp 2) := sel_ok (c := cfgS Try.prog) (fn := Try.f31) (fun k sp h => by cases h) (by kernel_rfl) Try.func31 (by kernel_rfl) (by kernel_rfl) (by kernel_rfl) (tabsS _ _ _) (fun b off H K => by kernel_rfl)
/-! granary/ring.settings$3 -/
theorem T32f.ok : SpOK Try.prog 0 32 (selSp 3) := sel_ok (c := cfgS Try.prog) (fn := Try.f32) (fun k sp h => by cases h) (by kernel_rfl) Try.func32 (by kernel_rfl) (by kernel_rfl) (by kernel_rfl) (tabsS _ _ _) (fun b off H K => by kernel_rfl)
/-! granary/ring.settings$4 -/
theorem T33f.ok : SpOK Try.prog 0 33 (selSp 4) := sel_ok (c := cfgS Try.prog) (fn := Try.f33) (fun k sp h => by cases h) (by kernel_rfl) Try.func33 (by kernel_rfl) (by kernel_rfl) (by kernel_rfl) (tabsS _ _ _) (fun b off H K => by kernel_rfl)
/-! granary/ring.settings$5 -/
theorem T34f.ok : SpOK Try.prog 0 34 (selSp 5) := sel_ok (c := cfgS Try.prog) (fn := Try.f34) (fun k sp h => by cases h) (by kernel_rfl) Try.func34 (by kernel_rfl) (by kernel_rfl) (by kernel_rfl) (tabsS _ _ _) (fun b off H K => by kernel_rfl)
/-! granary/ring.settings$6 -/
theorem T35f.ok : SpOK Try.prog 0 35 (selSp 6) := sel_ok (c := cfgS Try.prog) (fn := Try.f35) (fun k sp h => by cases h) (by kernel_rfl) Try.func35 (by kernel_rfl) (by kernel_rfl) (by kernel_rfl) (tabsS _ _ _) (fun b off H K => by kernel_rfl)
/-! granary/ring.settings$7 -/
theorem T36f.ok : SpOK Try.prog 0 36 (selSp 7) := sel_ok (c := cfgS Try.prog) (fn := Try.f36) (fun k sp h => by cases h) (by kernel_rfl) Try.func36 (by kernel_rfl) (by kernel_rfl) (by kernel_rfl) (tabsS _ _ _) (fun b off H K => by kernel_rfl)
/-! granary/ring.settings$8 -/
theorem T37f.ok : SpOK Try.prog 0 37 (selSp 8) := sel_ok (c := cfgS Try.prog) (fn := Try.f37) (fun k sp h => by cases h) (by kernel_rfl) Try.func37 (by kernel_rfl) (by kernel_rfl) (by kernel_rfl) (tabsS _ _ _) (fun b off H K => by kernel_rfl)
/-! granary/ring.settings$9 -/
theorem T38f.ok : SpOK Try.prog 0 38 (selSp 9) := sel_ok (c := cfgS Try.prog) (fn := Try.f38) (fun k sp h => by cases h) (by kernel_rfl) Try.func38 (by kernel_rfl) (by kernel_rfl) (by kernel_rfl) (tabsS _ _ _) (fun b off H K => by kernel_rfl)
/-! granary/ring.settings$10 -/
theorem T39f.ok : SpOK Try.prog 0 39 (selSp 10) := sel_ok (c := cfgS Try.prog) (fn := Try.f39) (fun k sp h => by cases h) (by kernel_rfl) Try.func39 (by kernel_rfl) (by kernel_rfl) (by kernel_rfl) (tabsS _ _ _) (fun b off H K => by kernel_rfl)
/-! granary/ring.settings$11 -/
theorem T40f.ok : SpOK Try.prog 0 40 (selSp 11) := sel_ok (c := cfgS Try.prog) (fn := Try.f40) (fun k sp h => by cases h) (by kernel_rfl) Try.func40 (by kernel_rfl) (by kernel_rfl) (by kernel_rfl) (tabsS _ _ _) (fun b off H K => by kernel_rfl)
/-! granary/ring.settings$12 -/
theorem T41f.ok : SpOK Try.prog 0 41 (selSp 12) := sel_ok (c := cfgS Try.prog) (fn := Try.f41) (fun k sp h => by cases h) (by kernel_rfl) Try.func41 (by kernel_rfl) (by kernel_rfl) (by kernel_rfl) (tabsS _ _ _) (fun b off H K => by kernel_rfl)
/-! granary/ring.settings$13 -/
theorem T42f.ok : SpOK Try.prog 0 42 (selSp 13) := sel_ok (c := cfgS Try.prog) (fn := Try.f42) (fun k sp h => by cases h) (by kernel_rfl) Try.func42 (by kernel_rfl) (by kernel_rfl) (by kernel_rfl) (tabsS _ _ _) (fun b off H K => by kernel_rfl)
/-! granary/ring.settings$14 -/
theorem T43f.ok : SpOK Try.prog 0 43 (selSp 14) := sel_ok (c := cfgS Try.prog) (fn := Try.f43) (fun k sp h => by cases h) (by kernel_rfl) Try.func43 (by kernel_rfl) (by kernel_rfl) (by kernel_rfl) (tabsS _ _ _) (fun b off H K => by kernel_rfl)
/-! granary/ring.settings$15 -/
theorem T44f.ok : SpOK Try.prog 0 44 (selSp 15) := sel_ok (c := cfgS Try.prog) (fn := Try.f44) (fun k sp h => by cases h) (by kernel_rfl) Try.func44 (by kernel_rfl) (by kernel_rfl) (by kernel_rfl) (tabsS _ _ _) (fun b off H K => by kernel_rfl)
/-! granary/ring.settings$16 -/
theorem T45f.ok : SpOK Try.prog 0 45 (selSp 16) := sel_ok (c := cfgS Try.prog) (fn := Try.f45) (fun k sp h => by cases h) (by kernel_rfl) Try.func45 (by kernel_rfl) (by kernel_rfl) (by kernel_rfl) (tabsS _ _ _) (fun b off H K => by kernel_rfl)
/-! granary/ring.settings$17 -/
theorem T46f.ok : SpOK Try.prog 0 46 (selSp 17) := sel_ok (c := cfgS Try.prog) (fn := Try.f46) (fun k sp h => by cases h) (by kernel_rfl) Try.func46 (by kernel_rfl) (by kernel_rfl) (by kernel_rfl) (tabsS _ _ _) (fun b off H K => by kernel_rfl)
/-! granary/ring.settings$18 -/
theorem T47f.ok : SpOK Try.prog 0 47 (selSp 18) := sel_ok (c := cfgS Try.prog) (fn := Try.f47) (fun k sp h => by cases h) (by kernel_rfl) Try.func47 (by kernel_rfl) (by kernel_rfl) (by kernel_rfl) (tabsS _ _ _) (fun b off H K => by kernel_rfl)
/-! granary/ring.settings$19 -/
theorem T48f.ok : SpOK Try.prog 0 48 (selSp 19) := sel_ok (c := cfgS Try.prog) (fn := Try.f48) (fun k sp h => by cases h) (by kernel_rfl) Try.func48 (by kernel_rfl) (by kernel_rfl) (by kernel_rfl) (tabsS _ _ _) (fun b off H K => by kernel_rfl)
/-! granary/ring.settings$20 -/
theorem T49f.ok : SpOK Try.prog 0 49 (selSp 20) := sel_ok (c := cfgS Try.prog) (fn := Try.f49) (fun k sp h => by cases h) (by kernel_rfl) Try.func49 (by kernel_rfl) (by kernel_rfl) (by kernel_rfl) (tabsS _ _ _) (fun b off H K => by kernel_rfl)
/-! granary/ring.settings$21 -/
theorem T50f.ok : SpOK Try.prog 0 50 (selSp 21) := sel_ok (c := cfgS Try.prog) (fn := Try.f50) (fun k sp h => by cases h) (by kernel_rfl) Try.func50 (by kernel_rfl) (by kernel_rfl) (by kernel_rfl) (tabsS _ _ _) (fun b off H K => by kernel_rfl)
/-! granary/ring.settings -/
namespace T27f
def s_replicas : List UInt8 := [114, 101, 112, 108, 105, 99, 97, 115]
def s_width : List UInt8 := [119, 105, 100, 116, 104]
def s_chunks : List UInt8 := [99, 104, 117, 110, 107, 115]
def s_retain : List UInt8 := [114, 101, 116, 97, 105, 110]
def s_block : List UInt8 := [98, 108, 111, 99, 107]
def s_rate : List UInt8 := [114, 97, 116, 101]
def s_per : List UInt8 := [112, 101, 114]
def s_burst : List UInt8 := [98, 117, 114, 115, 116]
def s_tries : List UInt8 := [116, 114, 105, 101, 115]
def s_base : List UInt8 := [98, 97, 115, 101]
def s_most : List UInt8 := [109, 111, 115, 116]
def s_quota : List UInt8 := [113, 117, 111, 116, 97]
def s_room : List UInt8 := [114, 111, 111, 109]
def s_depot : List UInt8 := [100, 101, 112, 111, 116]
def s_resend : List UInt8 := [114, 101, 115, 101, 110, 100]
def s_limit : List UInt8 := [108, 105, 109, 105, 116]
def s_patience : List UInt8 := [112, 97, 116, 105, 101, 110, 99, 101]
def s_getwait : List UInt8 := [103, 101, 116, 119, 97, 105, 116]
def s_strikes : List UInt8 := [115, 116, 114, 105, 107, 101, 115]
def s_ban : List UInt8 := [98, 97, 110]
def s_home : List UInt8 := [104, 111, 109, 101]
def tab (N : Nat) (k : Nat) : Option (TSp TryΓ) := lk k []
def P (N : Nat)  (K : (List D72) → Prop) : Prop :=
  K ([(s_replicas, 1, 16, (some 30), ()), (s_width, 1, 16, (some 31), ()), (s_chunks, 1, 16, (some 32), ()), (s_retain, 1, 8, (some 33), ()), (s_block, 1, 4096, (some 34), ()), (s_rate, 1, 65536, (some 35), ()), (s_per, 1, 1024, (some 36), ()), (s_burst, 1, 65536, (some 37), ()), (s_tries, 1, 64, (some 38), ()), (s_base, 1, 1024, (some 39), ()), (s_most, 1, 1024, (some 40), ()), (s_quota, 1, 1073741824, (some 41), ()), (s_room, 1, 1073741824, (some 42), ()), (s_depot, 1, 1073741824, (some 43), ()), (s_resend, 1, 1024, (some 44), ()), (s_limit, 1, 64, (some 45), ()), (s_patience, 1, 65536, (some 46), ()), (s_getwait, 1, 1024, (some 47), ()), (s_strikes, 1, 64, (some 48), ()), (s_ban, 1, 1024, (some 49), ()), (s_home, 0, 7, (some 50), ())])
def sp (N : Nat) : TSp TryΓ := ⟨false, [], [(.sl false 73 T72)], fun xs S K => P N (fun r0 => K (r0, ()) S), false⟩
def spk (N : Nat) : TSp TryΓ := ⟨false, [], [(.sl false 73 T72)], fun xs S K => P N (fun r0 => K (r0, ()) S), true⟩
noncomputable def cfg (N : Nat) : TCfg TryΓ := ⟨Try.prog, tab N, (fun k => (lk k [(1, T72), (2, T72), (3, T72), (4, T72), (5, T72), (6, T72), (7, T72), (8, T72), (9, T72), (10, T72), (11, T72), (12, T72), (13, T72), (14, T72), (15, T72), (16, T72), (17, T72), (18, T72), (19, T72), (20, T72), (21, T72), (22, (.sl true 73 T72))]).getD .unit), (fun k => lk k []), (fun k => lk k []),
  (fun k => lk k []), (fun k => lk k []), some ⟨[(0, some ((.sl false 73 T72), [8]))], [], [], [0]⟩, (fun k => lk k []), [], memN [], (fun k => lk k [])⟩
theorem main (N : Nat) (xs : DataL (sp N).ps) (S : Dh TryΓ) (K : DataL (sp N).rs → Dh TryΓ → Prop) :
    fnT (cfg N) Try.f27 (sp N).ps (sp N).rs xs S K = (sp N).run xs S K := by kernel_rfl
theorem tabs : TabsT (cfg big) 23 (bodyOf Try.f27) := tabsT (c := cfg big) [] [] rfl rfl trivial trivial
theorem ok : TOK Try.prog 27 (sp big) := tok_of_eq (c := cfg big) (fn := Try.f27) (funsT [] rfl trivial) trivial (by kernel_rfl) Try.func27 (by kernel_rfl) (by kernel_rfl) (by kernel_rfl) tabs rfl rfl (main big)
theorem okk : TOK Try.prog 27 (spk big) := tok_keep ok
end T27f
/-! granary/ring.checked -/
namespace T20f
def tab (N : Nat) (k : Nat) : Option (TSp TryΓ) := lk k [(21, T21f.spk N), (26, T26f.spk N), (27, T27f.spk N), (28, T28f.spk N)]
abbrev sx0 : List (Nat × Sh) := [(1, .pv 1 [] 0)]
abbrev vx0 : List (Nat × Ty) := [(1, T30)]
abbrev sr : List (Nat × Sh) := [(2, .d (.sl false 3 (.int .i64)) [8]), (3, .d (.int .i64) [8])]
abbrev vr : List (Nat × Ty) := []
abbrev sx2 : List (Nat × Sh) := [(1, .pv 1 [] 0), (6, .d (.int .i64) [8])]
abbrev vx2 : List (Nat × Ty) := [(1, T30)]
def b4 (N : Nat) (a15 : List D72) (a16 : Int) (a17 : Int) (v1 : D30) (again : Int → Prop) (kx0 : D30 → Prop) (kr : (List Int) → Int → Prop) : Prop :=
  (match (decide (a17 < a16) : Bool) with
  | true => (gd (decide (0 ≤ a17) && decide (a17 < ((a15.length : Nat) : Int))) <|
  optP (a15[a17.toNat]?) fun v3 =>
  optP (α := Nat) v3.2.2.2.1 fun k4 =>
  (match Nat.beq k4 30 with
  | true => T21f.P N v1.2.1 v3.2.1 v3.2.2.1 fun r45 =>
  (match (!r45 : Bool) with
  | true => kr [] 64
  | false => let x46 : Int := IntKind.i64.wrap (a17 + 1)
  again x46)
  | false => (match Nat.beq k4 31 with
  | true => T21f.P N v1.2.2.1 v3.2.1 v3.2.2.1 fun r43 =>
  (match (!r43 : Bool) with
  | true => kr [] 64
  | false => let x44 : Int := IntKind.i64.wrap (a17 + 1)
  again x44)
  | false => (match Nat.beq k4 32 with
  | true => T21f.P N v1.2.2.2.1 v3.2.1 v3.2.2.1 fun r41 =>
  (match (!r41 : Bool) with
  | true => kr [] 64
  | false => let x42 : Int := IntKind.i64.wrap (a17 + 1)
  again x42)
  | false => (match Nat.beq k4 33 with
  | true => T21f.P N v1.2.2.2.2.1 v3.2.1 v3.2.2.1 fun r39 =>
  (match (!r39 : Bool) with
  | true => kr [] 64
  | false => let x40 : Int := IntKind.i64.wrap (a17 + 1)
  again x40)
  | false => (match Nat.beq k4 34 with
  | true => T21f.P N v1.2.2.2.2.2.1 v3.2.1 v3.2.2.1 fun r37 =>
  (match (!r37 : Bool) with
  | true => kr [] 64
  | false => let x38 : Int := IntKind.i64.wrap (a17 + 1)
  again x38)
  | false => (match Nat.beq k4 35 with
  | true => T21f.P N v1.2.2.2.2.2.2.1 v3.2.1 v3.2.2.1 fun r35 =>
  (match (!r35 : Bool) with
  | true => kr [] 64
  | false => let x36 : Int := IntKind.i64.wrap (a17 + 1)
  again x36)
  | false => (match Nat.beq k4 36 with
  | true => T21f.P N v1.2.2.2.2.2.2.2.1 v3.2.1 v3.2.2.1 fun r33 =>
  (match (!r33 : Bool) with
  | true => kr [] 64
  | false => let x34 : Int := IntKind.i64.wrap (a17 + 1)
  again x34)
  | false => (match Nat.beq k4 37 with
  | true => T21f.P N v1.2.2.2.2.2.2.2.2.1 v3.2.1 v3.2.2.1 fun r31 =>
  (match (!r31 : Bool) with
  | true => kr [] 64
  | false => let x32 : Int := IntKind.i64.wrap (a17 + 1)
  again x32)
  | false => (match Nat.beq k4 38 with
  | true => T21f.P N v1.2.2.2.2.2.2.2.2.2.1 v3.2.1 v3.2.2.1 fun r29 =>
  (match (!r29 : Bool) with
  | true => kr [] 64
  | false => let x30 : Int := IntKind.i64.wrap (a17 + 1)
  again x30)
  | false => (match Nat.beq k4 39 with
  | true => T21f.P N v1.2.2.2.2.2.2.2.2.2.2.1 v3.2.1 v3.2.2.1 fun r27 =>
  (match (!r27 : Bool) with
  | true => kr [] 64
  | false => let x28 : Int := IntKind.i64.wrap (a17 + 1)
  again x28)
  | false => (match Nat.beq k4 40 with
  | true => T21f.P N v1.2.2.2.2.2.2.2.2.2.2.2.1 v3.2.1 v3.2.2.1 fun r25 =>
  (match (!r25 : Bool) with
  | true => kr [] 64
  | false => let x26 : Int := IntKind.i64.wrap (a17 + 1)
  again x26)
  | false => (match Nat.beq k4 41 with
  | true => T21f.P N v1.2.2.2.2.2.2.2.2.2.2.2.2.1 v3.2.1 v3.2.2.1 fun r23 =>
  (match (!r23 : Bool) with
  | true => kr [] 64
  | false => let x24 : Int := IntKind.i64.wrap (a17 + 1)
  again x24)
  | false => (match Nat.beq k4 42 with
  | true => T21f.P N v1.2.2.2.2.2.2.2.2.2.2.2.2.2.1 v3.2.1 v3.2.2.1 fun r21 =>
  (match (!r21 : Bool) with
  | true => kr [] 64
  | false => let x22 : Int := IntKind.i64.wrap (a17 + 1)
  again x22)
  | false => (match Nat.beq k4 43 with
  | true => T21f.P N v1.2.2.2.2.2.2.2.2.2.2.2.2.2.2.1 v3.2.1 v3.2.2.1 fun r19 =>
  (match (!r19 : Bool) with
  | true => kr [] 64
  | false => let x20 : Int := IntKind.i64.wrap (a17 + 1)
  again x20)
  | false => (match Nat.beq k4 44 with
  | true => T21f.P N v1.2.2.2.2.2.2.2.2.2.2.2.2.2.2.2.1 v3.2.1 v3.2.2.1 fun r17 =>
  (match (!r17 : Bool) with
  | true => kr [] 64
  | false => let x18 : Int := IntKind.i64.wrap (a17 + 1)
  again x18)
  | false => (match Nat.beq k4 45 with
  | true => T21f.P N v1.2.2.2.2.2.2.2.2.2.2.2.2.2.2.2.2.1 v3.2.1 v3.2.2.1 fun r15 =>
  (match (!r15 : Bool) with
  | true => kr [] 64
  | false => let x16 : Int := IntKind.i64.wrap (a17 + 1)
  again x16)
  | false => (match Nat.beq k4 46 with
  | true => T21f.P N v1.2.2.2.2.2.2.2.2.2.2.2.2.2.2.2.2.2.1 v3.2.1 v3.2.2.1 fun r13 =>
  (match (!r13 : Bool) with
  | true => kr [] 64
  | false => let x14 : Int := IntKind.i64.wrap (a17 + 1)
  again x14)
  | false => (match Nat.beq k4 47 with
  | true => T21f.P N v1.2.2.2.2.2.2.2.2.2.2.2.2.2.2.2.2.2.2.1 v3.2.1 v3.2.2.1 fun r11 =>
  (match (!r11 : Bool) with
  | true => kr [] 64
  | false => let x12 : Int := IntKind.i64.wrap (a17 + 1)
  again x12)
  | false => (match Nat.beq k4 48 with
  | true => T21f.P N v1.2.2.2.2.2.2.2.2.2.2.2.2.2.2.2.2.2.2.2.1 v3.2.1 v3.2.2.1 fun r9 =>
  (match (!r9 : Bool) with
  | true => kr [] 64
  | false => let x10 : Int := IntKind.i64.wrap (a17 + 1)
  again x10)
  | false => (match Nat.beq k4 49 with
  | true => T21f.P N v1.2.2.2.2.2.2.2.2.2.2.2.2.2.2.2.2.2.2.2.2.1 v3.2.1 v3.2.2.1 fun r7 =>
  (match (!r7 : Bool) with
  | true => kr [] 64
  | false => let x8 : Int := IntKind.i64.wrap (a17 + 1)
  again x8)
  | false => (match Nat.beq k4 50 with
  | true => T21f.P N v1.2.2.2.2.2.2.2.2.2.2.2.2.2.2.2.2.2.2.2.2.2.1 v3.2.1 v3.2.2.1 fun r5 =>
  (match (!r5 : Bool) with
  | true => kr [] 64
  | false => let x6 : Int := IntKind.i64.wrap (a17 + 1)
  again x6)
  | false => False))))))))))))))))))))))
  | false => kx0 v1)
def l4 (N : Nat) (a15 : List D72) (a16 : Int) (v1 : D30) : Nat → Int → (D30 → Prop) → ((List Int) → Int → Prop) → Prop
  | 0, _, _, _ => False
  | m + 1, a17, kx0, kr => b4 N a15 a16 a17 v1 (fun a17 => l4 N a15 a16 v1 m a17 kx0 kr) kx0 kr
abbrev sl4 : List (Nat × Sh) := [(1, .pv 1 [] 0), (15, .d (.sl false 73 T72) [8]), (16, .d (.int .i64) [8]), (17, .d (.int .i64) [8])]
abbrev vl4 : List (Nat × Ty) := [(1, T30)]
def fl4 (N m : Nat) (x : ShD sl4) (y : VD vl4) (S : Dh TryΓ) (K : Ex → TS → Dh TryΓ → Prop) : Prop := l4 N x.1 x.2.1 y.1 m x.2.2.1 (fun u1 => K (.exit 0) (stOf sx0 vx0 () (u1, ())) S) (fun o2 o3 => K .ret (stOf sr vr (o2, o3, ()) ()) S)
def b15 (N : Nat) (a6 : Int) (a51 : List D52) (a52 : Int) (a53 : Int) (v1 : D30) (again : Int → Int → Prop) (kx2 : Int → D30 → Prop) (kr : (List Int) → Int → Prop) : Prop :=
  (match (decide (a53 < a52) : Bool) with
  | true => (gd (decide (0 ≤ a53) && decide (a53 < ((a51.length : Nat) : Int))) <|
  optP (a51[a53.toNat]?) fun v5 =>
  T21f.P N v5.1 0 7 fun r6 =>
  (match (!r6 : Bool) with
  | true => kr [] 65
  | false => (match (decide (0 < (((v5.2.1.length : Nat) : Int))) : Bool) with
  | true => let x7 : Int := IntKind.i64.wrap (a6 + 1)
  let x8 : Int := IntKind.i64.wrap (a53 + 1)
  again x7 x8
  | false => let x9 : Int := IntKind.i64.wrap (a53 + 1)
  again a6 x9)))
  | false => kx2 a6 v1)
def l15 (N : Nat) (a51 : List D52) (a52 : Int) (v1 : D30) : Nat → Int → Int → (Int → D30 → Prop) → ((List Int) → Int → Prop) → Prop
  | 0, _, _, _, _ => False
  | m + 1, a6, a53, kx2, kr => b15 N a6 a51 a52 a53 v1 (fun a6 a53 => l15 N a51 a52 v1 m a6 a53 kx2 kr) kx2 kr
abbrev sl15 : List (Nat × Sh) := [(1, .pv 1 [] 0), (6, .d (.int .i64) [8]), (51, .d (.sl false 53 T52) [8]), (52, .d (.int .i64) [8]), (53, .d (.int .i64) [8])]
abbrev vl15 : List (Nat × Ty) := [(1, T30)]
def fl15 (N m : Nat) (x : ShD sl15) (y : VD vl15) (S : Dh TryΓ) (K : Ex → TS → Dh TryΓ → Prop) : Prop := l15 N x.2.1 x.2.2.1 y.1 m x.1 x.2.2.2.1 (fun o6 u1 => K (.exit 2) (stOf sx2 vx2 (o6, ()) (u1, ())) S) (fun o2 o3 => K .ret (stOf sr vr (o2, o3, ()) ()) S)
def P (N : Nat) (a0 : D30) (K : (List Int) → Int → Prop) : Prop :=
  T26f.P N a0.1 fun r1 =>
  (match (!r1 : Bool) with
  | true => K [] 63
  | false => T27f.P N fun r2 =>
  l4 N r2 ((r2.length : Nat) : Int) a0 N 0
      (fun y3 =>
  (match (decide (y3.2.2.2.2.2.2.2.2.1 < y3.2.2.2.2.2.1) : Bool) with
  | true => K [] 64
  | false => (match (decide (y3.2.2.2.2.2.2.2.2.2.2.2.1 < y3.2.2.2.2.2.2.2.2.2.2.1) : Bool) with
  | true => K [] 64
  | false => T21f.P N ((y3.2.2.2.2.2.2.2.2.2.2.2.2.2.2.2.2.2.2.2.2.2.2.1.length : Nat) : Int) 1 16 fun r4 =>
  (match (!r4 : Bool) with
  | true => K [] 65
  | false => l15 N y3.2.2.2.2.2.2.2.2.2.2.2.2.2.2.2.2.2.2.2.2.2.2.1 ((y3.2.2.2.2.2.2.2.2.2.2.2.2.2.2.2.2.2.2.2.2.2.2.1.length : Nat) : Int) y3 N 0 0
      (fun y5 y6 =>
  T28f.P N y6 fun r7 r8 =>
  (match (!decide (r8 = 0) : Bool) with
  | true => K [] r8
  | false => (match (decide (y5 < y6.2.1) : Bool) with
  | true => K [] 67
  | false => let x9 : Int := IntKind.i64.wrap ((((r7.length : Nat) : Int)) * y6.2.1)
  let x10 : Int := IntKind.i64.wrap (x9 * y6.2.2.2.1)
  (match (decide (512 < x10) : Bool) with
  | true => K [] 3
  | false => K r7 0))))
      (fun y11 y12 =>
  K y11 y12)))))
      (fun y13 y14 =>
  K y13 y14))
def sp (N : Nat) : TSp TryΓ := ⟨false, [T30], [(.sl false 3 (.int .i64)), (.int .i64)], fun xs S K => P N xs.1 (fun r0 r1 => K (r0, r1, ()) S), false⟩
def spk (N : Nat) : TSp TryΓ := ⟨false, [T30], [(.sl false 3 (.int .i64)), (.int .i64)], fun xs S K => P N xs.1 (fun r0 r1 => K (r0, r1, ()) S), true⟩
noncomputable def cfg (N : Nat) : TCfg TryΓ := ⟨Try.prog, tab N, (fun k => (lk k [(1, T30), (5, T72), (8, T52)]).getD .unit), (fun k => lk k [(4, fragT sl4 vl4 (fl4 N N)), (15, fragT sl15 vl15 (fl15 N N))]), (fun k => lk k []),
  (fun k => lk k [(4, ⟨[(1, none), (15, some ((.sl false 73 T72), [8])), (16, some ((.int .i64), [8])), (17, some ((.int .i64), [8]))], [1], [], []⟩), (15, ⟨[(1, none), (6, some ((.int .i64), [8])), (51, some ((.sl false 53 T52), [8])), (52, some ((.int .i64), [8])), (53, some ((.int .i64), [8]))], [1], [], []⟩)]), (fun k => lk k [(0, ⟨[(1, none)], [1], [], []⟩), (2, ⟨[(1, none), (6, some ((.int .i64), [8]))], [1], [], []⟩)]), some ⟨[(2, some ((.sl false 3 (.int .i64)), [8])), (3, some ((.int .i64), [8]))], [], [], [2, 3]⟩, (fun k => lk k []), [(30, ([1, 0], 1)), (31, ([1, 1, 0], 2)), (32, ([1, 1, 1, 0], 3)), (33, ([1, 1, 1, 1, 0], 4)), (34, ([1, 1, 1, 1, 1, 0], 5)), (35, ([1, 1, 1, 1, 1, 1, 0], 6)), (36, ([1, 1, 1, 1, 1, 1, 1, 0], 7)), (37, ([1, 1, 1, 1, 1, 1, 1, 1, 0], 8)), (38, ([1, 1, 1, 1, 1, 1, 1, 1, 1, 0], 9)), (39, ([1, 1, 1, 1, 1, 1, 1, 1, 1, 1, 0], 10)), (40, ([1, 1, 1, 1, 1, 1, 1, 1, 1, 1, 1, 0], 11)), (41, ([1, 1, 1, 1, 1, 1, 1, 1, 1, 1, 1, 1, 0], 12)), (42, ([1, 1, 1, 1, 1, 1, 1, 1, 1, 1, 1, 1, 1, 0], 13)), (43, ([1, 1, 1, 1, 1, 1, 1, 1, 1, 1, 1, 1, 1, 1, 0], 14)), (44, ([1, 1, 1, 1, 1, 1, 1, 1, 1, 1, 1, 1, 1, 1, 1, 0], 15)), (45, ([1, 1, 1, 1, 1, 1, 1, 1, 1, 1, 1, 1, 1, 1, 1, 1, 0], 16)), (46, ([1, 1, 1, 1, 1, 1, 1, 1, 1, 1, 1, 1, 1, 1, 1, 1, 1, 0], 17)), (47, ([1, 1, 1, 1, 1, 1, 1, 1, 1, 1, 1, 1, 1, 1, 1, 1, 1, 1, 0], 18)), (48, ([1, 1, 1, 1, 1, 1, 1, 1, 1, 1, 1, 1, 1, 1, 1, 1, 1, 1, 1, 0], 19)), (49, ([1, 1, 1, 1, 1, 1, 1, 1, 1, 1, 1, 1, 1, 1, 1, 1, 1, 1, 1, 1, 0], 20)), (50, ([1, 1, 1, 1, 1, 1, 1, 1, 1, 1, 1, 1, 1, 1, 1, 1, 1, 1, 1, 1, 1, 0], 21))], memN [], (fun k => lk k [(6, [0, 1, 5, 6, 7, 8, 2, 3, 4, 9, 10])])⟩
noncomputable def cl4 : Code := sub [1, 1, 0, 1, 0, 0] (bodyOf Try.f20)
theorem be4 (N : Nat) (rec : TS → Dh TryΓ → Prop) (K : Ex → TS → Dh TryΓ → Prop) (x : ShD sl4) (y : VD vl4) (S : Dh TryΓ) :
    evT (cfg N) 90 cl4 (stOf sl4 vl4 x y) S (roundT (fun st S => rec (cutAtT (cfg N) cl4 st) S) K) = b4 N x.1 x.2.1 x.2.2.1 y.1 (fun a17 => rec (stOf sl4 vl4 (x.1, x.2.1, a17, ()) (y.1, ())) S) (fun u1 => K (.exit 0) (stOf sx0 vx0 () (u1, ())) S) (fun o2 o3 => K .ret (stOf sr vr (o2, o3, ()) ()) S) := by kernel_rfl
theorem le4 (N : Nat) (K : Ex → TS → Dh TryΓ → Prop) (S : Dh TryΓ) : ∀ (m : Nat) (x : ShD sl4) (y : VD vl4), loopT (cutAtT (cfg N) cl4) (fun st S K => evT (cfg N) 90 cl4 st S K) m (stOf sl4 vl4 x y) S K = fl4 N m x y S K := by
  intro m
  induction m with
  | zero => intros; rfl
  | succ m ih =>
    intro x y
    exact Eq.trans (be4 N (fun st S => loopT (cutAtT (cfg N) cl4) (fun st S K => evT (cfg N) 90 cl4 st S K) m st S K) K x y S) (Eq.trans (congrArg (fun ag => b4 N x.1 x.2.1 x.2.2.1 y.1 ag (fun u1 => K (.exit 0) (stOf sx0 vx0 () (u1, ())) S) (fun o2 o3 => K .ret (stOf sr vr (o2, o3, ()) ()) S)) (funext fun a17 => ih (x.1, x.2.1, a17, ()) (y.1, ()))) (by kernel_rfl))
noncomputable def cl15 : Code := sub [1, 1, 1, 1, 1, 1, 0, 1, 0, 0] (bodyOf Try.f20)
theorem be15 (N : Nat) (rec : TS → Dh TryΓ → Prop) (K : Ex → TS → Dh TryΓ → Prop) (x : ShD sl15) (y : VD vl15) (S : Dh TryΓ) :
    evT (cfg N) 90 cl15 (stOf sl15 vl15 x y) S (roundT (fun st S => rec (cutAtT (cfg N) cl15 st) S) K) = b15 N x.1 x.2.1 x.2.2.1 x.2.2.2.1 y.1 (fun a6 a53 => rec (stOf sl15 vl15 (a6, x.2.1, x.2.2.1, a53, ()) (y.1, ())) S) (fun o6 u1 => K (.exit 2) (stOf sx2 vx2 (o6, ()) (u1, ())) S) (fun o2 o3 => K .ret (stOf sr vr (o2, o3, ()) ()) S) := by kernel_rfl
theorem le15 (N : Nat) (K : Ex → TS → Dh TryΓ → Prop) (S : Dh TryΓ) : ∀ (m : Nat) (x : ShD sl15) (y : VD vl15), loopT (cutAtT (cfg N) cl15) (fun st S K => evT (cfg N) 90 cl15 st S K) m (stOf sl15 vl15 x y) S K = fl15 N m x y S K := by
  intro m
  induction m with
  | zero => intros; rfl
  | succ m ih =>
    intro x y
    exact Eq.trans (be15 N (fun st S => loopT (cutAtT (cfg N) cl15) (fun st S K => evT (cfg N) 90 cl15 st S K) m st S K) K x y S) (Eq.trans (congrArg (fun ag => b15 N x.1 x.2.1 x.2.2.1 x.2.2.2.1 y.1 ag (fun o6 u1 => K (.exit 2) (stOf sx2 vx2 (o6, ()) (u1, ())) S) (fun o2 o3 => K .ret (stOf sr vr (o2, o3, ()) ()) S)) (funext fun a6 => funext fun a53 => ih (a6, x.2.1, x.2.2.1, a53, ()) (y.1, ()))) (by kernel_rfl))
theorem main (N : Nat) (xs : DataL (sp N).ps) (S : Dh TryΓ) (K : DataL (sp N).rs → Dh TryΓ → Prop) :
    fnT (cfg N) Try.f20 (sp N).ps (sp N).rs xs S K = (sp N).run xs S K := by kernel_rfl
theorem tabs : TabsT (cfg big) 90 (bodyOf Try.f20) := tabsT (c := cfg big) [(4, fragT sl4 vl4 (fl4 big big)), (15, fragT sl15 vl15 (fl15 big big))] [] rfl rfl ⟨⟨cl4, by kernel_rfl, loopTie (f := fl4 big) (le4 big) big⟩, ⟨cl15, by kernel_rfl, loopTie (f := fl15 big) (le15 big) big⟩, trivial⟩ trivial
theorem ok : TOK Try.prog 20 (sp big) := tok_of_eq (c := cfg big) (fn := Try.f20) (funsT [(21, T21f.spk big), (26, T26f.spk big), (27, T27f.spk big), (28, T28f.spk big)] rfl ⟨T21f.okk, T26f.okk, T27f.okk, T28f.okk, trivial⟩) ⟨T30f.ok, T31f.ok, T32f.ok, T33f.ok, T34f.ok, T35f.ok, T36f.ok, T37f.ok, T38f.ok, T39f.ok, T40f.ok, T41f.ok, T42f.ok, T43f.ok, T44f.ok, T45f.ok, T46f.ok, T47f.ok, T48f.ok, T49f.ok, T50f.ok, trivial⟩ (by kernel_rfl) Try.func20 (by kernel_rfl) (by kernel_rfl) (by kernel_rfl) tabs rfl rfl (main big)
theorem okk : TOK Try.prog 20 (spk big) := tok_keep ok
end T20f
/-! granary/ring.Check -/
namespace T24f
def tab (N : Nat) (k : Nat) : Option (TSp TryΓ) := lk k [(20, T20f.spk N)]
def P (N : Nat) (a0 : D30) (K : Int → Prop) : Prop :=
  T20f.P N a0 fun r1 r2 =>
  K r2
def sp (N : Nat) : TSp TryΓ := ⟨false, [T30], [(.int .i64)], fun xs S K => P N xs.1 (fun r0 => K (r0, ()) S), false⟩
def spk (N : Nat) : TSp TryΓ := ⟨false, [T30], [(.int .i64)], fun xs S K => P N xs.1 (fun r0 => K (r0, ()) S), true⟩
noncomputable def cfg (N : Nat) : TCfg TryΓ := ⟨Try.prog, tab N, (fun k => (lk k [(1, T30)]).getD .unit), (fun k => lk k []), (fun k => lk k []),
  (fun k => lk k []), (fun k => lk k []), some ⟨[(2, some ((.int .i64), [8]))], [], [], [2]⟩, (fun k => lk k []), [], memN [], (fun k => lk k [])⟩
theorem main (N : Nat) (xs : DataL (sp N).ps) (S : Dh TryΓ) (K : DataL (sp N).rs → Dh TryΓ → Prop) :
    fnT (cfg N) Try.f24 (sp N).ps (sp N).rs xs S K = (sp N).run xs S K := by kernel_rfl
theorem tabs : TabsT (cfg big) 11 (bodyOf Try.f24) := tabsT (c := cfg big) [] [] rfl rfl trivial trivial
theorem ok : TOK Try.prog 24 (sp big) := tok_of_eq (c := cfg big) (fn := Try.f24) (funsT [(20, T20f.spk big)] rfl ⟨T20f.okk, trivial⟩) trivial (by kernel_rfl) Try.func24 (by kernel_rfl) (by kernel_rfl) (by kernel_rfl) tabs rfl rfl (main big)
theorem okk : TOK Try.prog 24 (spk big) := tok_keep ok
end T24f
/-! granary/ring.Owners -/
namespace T14f
def tab (N : Nat) (k : Nat) : Option (TSp TryΓ) := lk k [(20, T20f.spk N), (21, T21f.spk N), (22, T22f.spk N)]
abbrev sx0 : List (Nat × Sh) := [(8, .d (.sl true 3 (.int .i64)) [1, 8])]
abbrev vx0 : List (Nat × Ty) := []
def b8 (N : Nat) (a6 : List Int) (a8 : List Int) (a29 : List Int) (a30 : Int) (a31 : Int) (again : (List Int) → Int → Prop) (kx0 : (List Int) → Prop) : Prop :=
  (match (decide (a31 < a30) : Bool) with
  | true => (gd (decide (0 ≤ a31) && decide (a31 < ((a29.length : Nat) : Int))) <|
  optP (a29[a31.toNat]?) fun v6 =>
  (gd (decide (0 ≤ v6) && decide (v6 < ((a6.length : Nat) : Int))) <|
  optP (a6[v6.toNat]?) fun v7 =>
  (gd (decide ((a8.length + ([v7] : List Int).length) * 8 ≤ room)) <|
  let l8 : List Int := a8 ++ ([v7])
  let x9 : Int := IntKind.i64.wrap (a31 + 1)
  again l8 x9)))
  | false => kx0 a8)
def l8 (N : Nat) (a6 : List Int) (a29 : List Int) (a30 : Int) : Nat → (List Int) → Int → ((List Int) → Prop) → Prop
  | 0, _, _, _ => False
  | m + 1, a8, a31, kx0 => b8 N a6 a8 a29 a30 a31 (fun a8 a31 => l8 N a6 a29 a30 m a8 a31 kx0) kx0
abbrev sl8 : List (Nat × Sh) := [(6, .d (.sl false 3 (.int .i64)) [8]), (8, .d (.sl true 3 (.int .i64)) [1, 8]), (29, .d (.sl false 3 (.int .i64)) [8]), (30, .d (.int .i64) [8]), (31, .d (.int .i64) [8])]
abbrev vl8 : List (Nat × Ty) := []
def fl8 (N m : Nat) (x : ShD sl8) (y : VD vl8) (S : Dh TryΓ) (K : Ex → TS → Dh TryΓ → Prop) : Prop := l8 N x.1 x.2.2.1 x.2.2.2.1 m x.2.1 x.2.2.2.2.1 (fun o8 => K (.exit 0) (stOf sx0 vx0 (o8, ()) ()) S)
def P (N : Nat) (a0 : D30) (a1 : Int) (K : (List Int) → Int → Prop) : Prop :=
  T20f.P N a0 fun r1 r2 =>
  (match (!decide (r2 = 0) : Bool) with
  | true => K [] r2
  | false => let x3 : Int := IntKind.i64.wrap ((((r1.length : Nat) : Int)) - 1)
  T21f.P N a1 0 x3 fun r4 =>
  (match (!r4 : Bool) with
  | true => K [] 69
  | false => T22f.P N r1 a1 a0.2.1 fun r5 =>
  l8 N r1 r5 ((r5.length : Nat) : Int) N [] 0
      (fun y10 =>
  K y10 0)))
def sp (N : Nat) : TSp TryΓ := ⟨false, [T30, (.int .i64)], [(.sl false 3 (.int .i64)), (.int .i64)], fun xs S K => P N xs.1 xs.2.1 (fun r0 r1 => K (r0, r1, ()) S), false⟩
def spk (N : Nat) : TSp TryΓ := ⟨false, [T30, (.int .i64)], [(.sl false 3 (.int .i64)), (.int .i64)], fun xs S K => P N xs.1 xs.2.1 (fun r0 r1 => K (r0, r1, ()) S), true⟩
noncomputable def cfg (N : Nat) : TCfg TryΓ := ⟨Try.prog, tab N, (fun k => (lk k [(2, T30), (40, (.sl true 3 (.int .i64))), (41, (.sl true 3 (.int .i64)))]).getD .unit), (fun k => lk k [(8, fragT sl8 vl8 (fl8 N N))]), (fun k => lk k []),
  (fun k => lk k [(8, ⟨[(6, some ((.sl false 3 (.int .i64)), [8])), (8, some ((.sl true 3 (.int .i64)), [1, 8])), (29, some ((.sl false 3 (.int .i64)), [8])), (30, some ((.int .i64), [8])), (31, some ((.int .i64), [8]))], [], [(8, [1, 8])], []⟩)]), (fun k => lk k [(0, ⟨[(8, some ((.sl true 3 (.int .i64)), [1, 8]))], [], [(8, [1, 8])], []⟩)]), some ⟨[(4, some ((.sl false 3 (.int .i64)), [8])), (5, some ((.int .i64), [8]))], [], [], [4, 5]⟩, (fun k => lk k []), [], memN [], (fun k => lk k [])⟩
noncomputable def cl8 : Code := sub [1, 1, 1, 1, 1, 0, 1, 0, 0] (bodyOf Try.f14)
theorem be8 (N : Nat) (rec : TS → Dh TryΓ → Prop) (K : Ex → TS → Dh TryΓ → Prop) (x : ShD sl8) (y : VD vl8) (S : Dh TryΓ) :
    evT (cfg N) 44 cl8 (stOf sl8 vl8 x y) S (roundT (fun st S => rec (cutAtT (cfg N) cl8 st) S) K) = b8 N x.1 x.2.1 x.2.2.1 x.2.2.2.1 x.2.2.2.2.1 (fun a8 a31 => rec (stOf sl8 vl8 (x.1, a8, x.2.2.1, x.2.2.2.1, a31, ()) ()) S) (fun o8 => K (.exit 0) (stOf sx0 vx0 (o8, ()) ()) S) := by kernel_rfl
theorem le8 (N : Nat) (K : Ex → TS → Dh TryΓ → Prop) (S : Dh TryΓ) : ∀ (m : Nat) (x : ShD sl8) (y : VD vl8), loopT (cutAtT (cfg N) cl8) (fun st S K => evT (cfg N) 44 cl8 st S K) m (stOf sl8 vl8 x y) S K = fl8 N m x y S K := by
  intro m
  induction m with
  | zero => intros; rfl
  | succ m ih =>
    intro x y
    exact Eq.trans (be8 N (fun st S => loopT (cutAtT (cfg N) cl8) (fun st S K => evT (cfg N) 44 cl8 st S K) m st S K) K x y S) (Eq.trans (congrArg (fun ag => b8 N x.1 x.2.1 x.2.2.1 x.2.2.2.1 x.2.2.2.2.1 ag (fun o8 => K (.exit 0) (stOf sx0 vx0 (o8, ()) ()) S)) (funext fun a8 => funext fun a31 => ih (x.1, a8, x.2.2.1, x.2.2.2.1, a31, ()) ())) (by kernel_rfl))
theorem main (N : Nat) (xs : DataL (sp N).ps) (S : Dh TryΓ) (K : DataL (sp N).rs → Dh TryΓ → Prop) :
    fnT (cfg N) Try.f14 (sp N).ps (sp N).rs xs S K = (sp N).run xs S K := by kernel_rfl
theorem tabs : TabsT (cfg big) 44 (bodyOf Try.f14) := tabsT (c := cfg big) [(8, fragT sl8 vl8 (fl8 big big))] [] rfl rfl ⟨⟨cl8, by kernel_rfl, loopTie (f := fl8 big) (le8 big) big⟩, trivial⟩ trivial
theorem ok : TOK Try.prog 14 (sp big) := tok_of_eq (c := cfg big) (fn := Try.f14) (funsT [(20, T20f.spk big), (21, T21f.spk big), (22, T22f.spk big)] rfl ⟨T20f.okk, T21f.okk, T22f.okk, trivial⟩) trivial (by kernel_rfl) Try.func14 (by kernel_rfl) (by kernel_rfl) (by kernel_rfl) tabs rfl rfl (main big)
theorem okk : TOK Try.prog 14 (spk big) := tok_keep ok
end T14f
/-! granary/ring.Holds -/
namespace T13f
def tab (N : Nat) (k : Nat) : Option (TSp TryΓ) := lk k [(20, T20f.spk N), (21, T21f.spk N), (22, T22f.spk N)]
abbrev sx2 : List (Nat × Sh) := [(1, .d (.int .i64) [8]), (2, .pv 2 [] 0), (6, .d (.sl false 3 (.int .i64)) [8]), (8, .d (.sl true 50 T49) [1, 8]), (28, .d (.int .i64) [8]), (29, .d (.int .i64) [8])]
abbrev vx2 : List (Nat × Ty) := [(2, T30)]
abbrev sx0 : List (Nat × Sh) := [(8, .d (.sl true 50 T49) [1, 8])]
abbrev vx0 : List (Nat × Ty) := []
def b11 (N : Nat) (a1 : Int) (a6 : List Int) (a8 : List D49) (a9 : Int) (a28 : Int) (a29 : Int) (a36 : List Int) (a37 : Int) (a38 : Int) (v2 : D30) (again : (List D49) → Int → Prop) (kx2 : (List D49) → D30 → Prop) : Prop :=
  (match (decide (a38 < a37) : Bool) with
  | true => (gd (decide (0 ≤ a38) && decide (a38 < ((a36.length : Nat) : Int))) <|
  optP (a36[a38.toNat]?) fun v6 =>
  (gd (decide (0 ≤ v6) && decide (v6 < ((a6.length : Nat) : Int))) <|
  optP (a6[v6.toNat]?) fun v7 =>
  (match (decide (v7 = a1) : Bool) with
  | true => (gd (decide ((a8.length + ([(a9, a38, ())] : List D49).length) * 16 ≤ room)) <|
  let l8 : List D49 := a8 ++ ([(a9, a38, ())])
  let x9 : Int := IntKind.i64.wrap (a38 + 1)
  again l8 x9)
  | false => let x10 : Int := IntKind.i64.wrap (a38 + 1)
  again a8 x10)))
  | false => kx2 a8 v2)
def l11 (N : Nat) (a1 : Int) (a6 : List Int) (a9 : Int) (a28 : Int) (a29 : Int) (a36 : List Int) (a37 : Int) (v2 : D30) : Nat → (List D49) → Int → ((List D49) → D30 → Prop) → Prop
  | 0, _, _, _ => False
  | m + 1, a8, a38, kx2 => b11 N a1 a6 a8 a9 a28 a29 a36 a37 a38 v2 (fun a8 a38 => l11 N a1 a6 a9 a28 a29 a36 a37 v2 m a8 a38 kx2) kx2
abbrev sl11 : List (Nat × Sh) := [(1, .d (.int .i64) [8]), (2, .pv 2 [] 0), (6, .d (.sl false 3 (.int .i64)) [8]), (8, .d (.sl true 50 T49) [1, 8]), (9, .d (.int .i64) [8]), (28, .d (.int .i64) [8]), (29, .d (.int .i64) [8]), (36, .d (.sl false 3 (.int .i64)) [8]), (37, .d (.int .i64) [8]), (38, .d (.int .i64) [8])]
abbrev vl11 : List (Nat × Ty) := [(2, T30)]
def fl11 (N m : Nat) (x : ShD sl11) (y : VD vl11) (S : Dh TryΓ) (K : Ex → TS → Dh TryΓ → Prop) : Prop := l11 N x.1 x.2.1 x.2.2.2.1 x.2.2.2.2.1 x.2.2.2.2.2.1 x.2.2.2.2.2.2.1 x.2.2.2.2.2.2.2.1 y.1 m x.2.2.1 x.2.2.2.2.2.2.2.2.1 (fun o8 u2 => K (.exit 2) (stOf sx2 vx2 (x.1, x.2.1, o8, x.2.2.2.2.1, x.2.2.2.2.2.1, ()) (u2, ())) S)
def b8 (N : Nat) (a1 : Int) (a6 : List Int) (a8 : List D49) (a28 : Int) (a29 : Int) (v2 : D30) (again : (List D49) → Int → D30 → Prop) (kx0 : (List D49) → Prop) : Prop :=
  (match (decide (a29 < a28) : Bool) with
  | true => T22f.P N a6 a29 v2.2.1 fun r5 =>
  l11 N a1 a6 a29 a28 a29 r5 ((r5.length : Nat) : Int) v2 N a8 0
      (fun y6 y7 =>
  let x8 : Int := IntKind.i64.wrap (a29 + 1)
  again y6 x8 y7)
  | false => kx0 a8)
def l8 (N : Nat) (a1 : Int) (a6 : List Int) (a28 : Int) : Nat → (List D49) → Int → D30 → ((List D49) → Prop) → Prop
  | 0, _, _, _, _ => False
  | m + 1, a8, a29, v2, kx0 => b8 N a1 a6 a8 a28 a29 v2 (fun a8 a29 v2 => l8 N a1 a6 a28 m a8 a29 v2 kx0) kx0
abbrev sl8 : List (Nat × Sh) := [(1, .d (.int .i64) [8]), (2, .pv 2 [] 0), (6, .d (.sl false 3 (.int .i64)) [8]), (8, .d (.sl true 50 T49) [1, 8]), (28, .d (.int .i64) [8]), (29, .d (.int .i64) [8])]
abbrev vl8 : List (Nat × Ty) := [(2, T30)]
def fl8 (N m : Nat) (x : ShD sl8) (y : VD vl8) (S : Dh TryΓ) (K : Ex → TS → Dh TryΓ → Prop) : Prop := l8 N x.1 x.2.1 x.2.2.2.1 m x.2.2.1 x.2.2.2.2.1 y.1 (fun o8 => K (.exit 0) (stOf sx0 vx0 (o8, ()) ()) S)
def P (N : Nat) (a0 : D30) (a1 : Int) (K : (List D49) → Int → Prop) : Prop :=
  T20f.P N a0 fun r1 r2 =>
  (match (!decide (r2 = 0) : Bool) with
  | true => K [] r2
  | false => let x3 : Int := IntKind.i64.wrap ((((a0.2.2.2.2.2.2.2.2.2.2.2.2.2.2.2.2.2.2.2.2.2.2.1.length : Nat) : Int)) - 1)
  T21f.P N a1 0 x3 fun r4 =>
  (match (!r4 : Bool) with
  | true => K [] 68
  | false => l8 N a1 r1 ((r1.length : Nat) : Int) N [] 0 a0
      (fun y9 =>
  K y9 0)))
def sp (N : Nat) : TSp TryΓ := ⟨false, [T30, (.int .i64)], [(.sl false 50 T49), (.int .i64)], fun xs S K => P N xs.1 xs.2.1 (fun r0 r1 => K (r0, r1, ()) S), false⟩
def spk (N : Nat) : TSp TryΓ := ⟨false, [T30, (.int .i64)], [(.sl false 50 T49), (.int .i64)], fun xs S K => P N xs.1 xs.2.1 (fun r0 r1 => K (r0, r1, ()) S), true⟩
noncomputable def cfg (N : Nat) : TCfg TryΓ := ⟨Try.prog, tab N, (fun k => (lk k [(2, T30), (52, T49), (53, (.sl true 50 T49)), (54, (.sl true 50 T49))]).getD .unit), (fun k => lk k [(11, fragT sl11 vl11 (fl11 N N)), (8, fragT sl8 vl8 (fl8 N N))]), (fun k => lk k []),
  (fun k => lk k [(8, ⟨[(1, some ((.int .i64), [8])), (2, none), (6, some ((.sl false 3 (.int .i64)), [8])), (8, some ((.sl true 50 T49), [1, 8])), (28, some ((.int .i64), [8])), (29, some ((.int .i64), [8]))], [2], [(8, [1, 8])], []⟩), (11, ⟨[(1, some ((.int .i64), [8])), (2, none), (6, some ((.sl false 3 (.int .i64)), [8])), (8, some ((.sl true 50 T49), [1, 8])), (9, some ((.int .i64), [8])), (28, some ((.int .i64), [8])), (29, some ((.int .i64), [8])), (36, some ((.sl false 3 (.int .i64)), [8])), (37, some ((.int .i64), [8])), (38, some ((.int .i64), [8]))], [2], [(8, [1, 8])], []⟩)]), (fun k => lk k [(0, ⟨[(8, some ((.sl true 50 T49), [1, 8]))], [], [(8, [1, 8])], []⟩), (2, ⟨[(1, some ((.int .i64), [8])), (2, none), (6, some ((.sl false 3 (.int .i64)), [8])), (8, some ((.sl true 50 T49), [1, 8])), (28, some ((.int .i64), [8])), (29, some ((.int .i64), [8]))], [2], [(8, [1, 8])], []⟩)]), some ⟨[(4, some ((.sl false 50 T49), [8])), (5, some ((.int .i64), [8]))], [], [], [4, 5]⟩, (fun k => lk k []), [], memN [], (fun k => lk k [])⟩
noncomputable def cl11 : Code := sub [1, 1, 1, 1, 1, 0, 1, 0, 0, 1, 1, 0, 0, 1, 1, 0, 0] (bodyOf Try.f13)
theorem be11 (N : Nat) (rec : TS → Dh TryΓ → Prop) (K : Ex → TS → Dh TryΓ → Prop) (x : ShD sl11) (y : VD vl11) (S : Dh TryΓ) :
    evT (cfg N) 58 cl11 (stOf sl11 vl11 x y) S (roundT (fun st S => rec (cutAtT (cfg N) cl11 st) S) K) = b11 N x.1 x.2.1 x.2.2.1 x.2.2.2.1 x.2.2.2.2.1 x.2.2.2.2.2.1 x.2.2.2.2.2.2.1 x.2.2.2.2.2.2.2.1 x.2.2.2.2.2.2.2.2.1 y.1 (fun a8 a38 => rec (stOf sl11 vl11 (x.1, x.2.1, a8, x.2.2.2.1, x.2.2.2.2.1, x.2.2.2.2.2.1, x.2.2.2.2.2.2.1, x.2.2.2.2.2.2.2.1, a38, ()) (y.1, ())) S) (fun o8 u2 => K (.exit 2) (stOf sx2 vx2 (x.1, x.2.1, o8, x.2.2.2.2.1, x.2.2.2.2.2.1, ()) (u2, ())) S) := by kernel_rfl
theorem le11 (N : Nat) (K : Ex → TS → Dh TryΓ → Prop) (S : Dh TryΓ) : ∀ (m : Nat) (x : ShD sl11) (y : VD vl11), loopT (cutAtT (cfg N) cl11) (fun st S K => evT (cfg N) 58 cl11 st S K) m (stOf sl11 vl11 x y) S K = fl11 N m x y S K := by
  intro m
  induction m with
  | zero => intros; rfl
  | succ m ih =>
    intro x y
    exact Eq.trans (be11 N (fun st S => loopT (cutAtT (cfg N) cl11) (fun st S K => evT (cfg N) 58 cl11 st S K) m st S K) K x y S) (Eq.trans (congrArg (fun ag => b11 N x.1 x.2.1 x.2.2.1 x.2.2.2.1 x.2.2.2.2.1 x.2.2.2.2.2.1 x.2.2.2.2.2.2.1 x.2.2.2.2.2.2.2.1 x.2.2.2.2.2.2.2.2.1 y.1 ag (fun o8 u2 => K (.exit 2) (stOf sx2 vx2 (x.1, x.2.1, o8, x.2.2.2.2.1, x.2.2.2.2.2.1, ()) (u2, ())) S)) (funext fun a8 => funext fun a38 => ih (x.1, x.2.1, a8, x.2.2.2.1, x.2.2.2.2.1, x.2.2.2.2.2.1, x.2.2.2.2.2.2.1, x.2.2.2.2.2.2.2.1, a38, ()) (y.1, ()))) (by kernel_rfl))
noncomputable def cl8 : Code := sub [1, 1, 1, 1, 1, 0, 1, 0, 0] (bodyOf Try.f13)
theorem be8 (N : Nat) (rec : TS → Dh TryΓ → Prop) (K : Ex → TS → Dh TryΓ → Prop) (x : ShD sl8) (y : VD vl8) (S : Dh TryΓ) :
    evT (cfg N) 58 cl8 (stOf sl8 vl8 x y) S (roundT (fun st S => rec (cutAtT (cfg N) cl8 st) S) K) = b8 N x.1 x.2.1 x.2.2.1 x.2.2.2.1 x.2.2.2.2.1 y.1 (fun a8 a29 v2 => rec (stOf sl8 vl8 (x.1, x.2.1, a8, x.2.2.2.1, a29, ()) (v2, ())) S) (fun o8 => K (.exit 0) (stOf sx0 vx0 (o8, ()) ()) S) := by kernel_rfl
theorem le8 (N : Nat) (K : Ex → TS → Dh TryΓ → Prop) (S : Dh TryΓ) : ∀ (m : Nat) (x : ShD sl8) (y : VD vl8), loopT (cutAtT (cfg N) cl8) (fun st S K => evT (cfg N) 58 cl8 st S K) m (stOf sl8 vl8 x y) S K = fl8 N m x y S K := by
  intro m
  induction m with
  | zero => intros; rfl
  | succ m ih =>
    intro x y
    exact Eq.trans (be8 N (fun st S => loopT (cutAtT (cfg N) cl8) (fun st S K => evT (cfg N) 58 cl8 st S K) m st S K) K x y S) (Eq.trans (congrArg (fun ag => b8 N x.1 x.2.1 x.2.2.1 x.2.2.2.1 x.2.2.2.2.1 y.1 ag (fun o8 => K (.exit 0) (stOf sx0 vx0 (o8, ()) ()) S)) (funext fun a8 => funext fun a29 => funext fun v2 => ih (x.1, x.2.1, a8, x.2.2.2.1, a29, ()) (v2, ()))) (by kernel_rfl))
theorem main (N : Nat) (xs : DataL (sp N).ps) (S : Dh TryΓ) (K : DataL (sp N).rs → Dh TryΓ → Prop) :
    fnT (cfg N) Try.f13 (sp N).ps (sp N).rs xs S K = (sp N).run xs S K := by kernel_rfl
theorem tabs : TabsT (cfg big) 58 (bodyOf Try.f13) := tabsT (c := cfg big) [(11, fragT sl11 vl11 (fl11 big big)), (8, fragT sl8 vl8 (fl8 big big))] [] rfl rfl ⟨⟨cl11, by kernel_rfl, loopTie (f := fl11 big) (le11 big) big⟩, ⟨cl8, by kernel_rfl, loopTie (f := fl8 big) (le8 big) big⟩, trivial⟩ trivial
theorem ok : TOK Try.prog 13 (sp big) := tok_of_eq (c := cfg big) (fn := Try.f13) (funsT [(20, T20f.spk big), (21, T21f.spk big), (22, T22f.spk big)] rfl ⟨T20f.okk, T21f.okk, T22f.okk, trivial⟩) trivial (by kernel_rfl) Try.func13 (by kernel_rfl) (by kernel_rfl) (by kernel_rfl) tabs rfl rfl (main big)
theorem okk : TOK Try.prog 13 (spk big) := tok_keep ok
end T13f
/-! granary/rebalance.fit -/
namespace T19f
def tab (N : Nat) (k : Nat) : Option (TSp TryΓ) := lk k [(24, T24f.spk N), (25, T25f.spk N)]
def P (N : Nat) (a0 : D30) (a1 : D30) (K : Int → Prop) : Prop :=
  T24f.P N a0 fun r1 =>
  (match (!decide (r1 = 0) : Bool) with
  | true => K r1
  | false => T24f.P N a1 fun r2 =>
  (match (!decide (r2 = 0) : Bool) with
  | true => K r2
  | false => (match (!decide (a0.1 = a1.1) : Bool) with
  | true => K 90
  | false => T25f.P N a0 fun r3 =>
  T25f.P N a1 fun r4 =>
  (match (!decide (r3 = r4) : Bool) with
  | true => K 90
  | false => (match (!decide (a0.2.2.1 = a1.2.2.1) : Bool) with
  | true => K 90
  | false => (match (!decide (a0.2.2.2.1 = a1.2.2.2.1) : Bool) with
  | true => K 90
  | false => K 0))))))
def sp (N : Nat) : TSp TryΓ := ⟨false, [T30, T30], [(.int .i64)], fun xs S K => P N xs.1 xs.2.1 (fun r0 => K (r0, ()) S), false⟩
def spk (N : Nat) : TSp TryΓ := ⟨false, [T30, T30], [(.int .i64)], fun xs S K => P N xs.1 xs.2.1 (fun r0 => K (r0, ()) S), true⟩
noncomputable def cfg (N : Nat) : TCfg TryΓ := ⟨Try.prog, tab N, (fun k => (lk k [(2, T30), (3, T30)]).getD .unit), (fun k => lk k []), (fun k => lk k []),
  (fun k => lk k []), (fun k => lk k []), some ⟨[(4, some ((.int .i64), [8]))], [], [], [4]⟩, (fun k => lk k []), [], memN [], (fun k => lk k [(7, [0, 1, 2, 3, 4, 5, 6, 8, 7, 9, 10, 11, 12, 13, 14, 15, 16, 17, 18, 19, 20, 21, 22, 23, 24, 25])])⟩
theorem main (N : Nat) (xs : DataL (sp N).ps) (S : Dh TryΓ) (K : DataL (sp N).rs → Dh TryΓ → Prop) :
    fnT (cfg N) Try.f19 (sp N).ps (sp N).rs xs S K = (sp N).run xs S K := by kernel_rfl
theorem tabs : TabsT (cfg big) 43 (bodyOf Try.f19) := tabsT (c := cfg big) [] [] rfl rfl trivial trivial
theorem ok : TOK Try.prog 19 (sp big) := tok_of_eq (c := cfg big) (fn := Try.f19) (funsT [(24, T24f.spk big), (25, T25f.spk big)] rfl ⟨T24f.okk, T25f.okk, trivial⟩) trivial (by kernel_rfl) Try.func19 (by kernel_rfl) (by kernel_rfl) (by kernel_rfl) tabs rfl rfl (main big)
theorem okk : TOK Try.prog 19 (spk big) := tok_keep ok
end T19f
/-! granary/rebalance.replicas -/
namespace T29f
def tab (N : Nat) (k : Nat) : Option (TSp TryΓ) := lk k [(13, T13f.spk N)]
abbrev sx0 : List (Nat × Sh) := [(8, .d (.map true 3 3 (.int .i64) (.int .i64)) [1, 8])]
abbrev vx0 : List (Nat × Ty) := []
def b6 (N : Nat) (a8 : List (Int × Int)) (a21 : List D49) (a22 : Int) (a23 : Int) (again : (List (Int × Int)) → Int → Prop) (kx0 : (List (Int × Int)) → Prop) : Prop :=
  (match (decide (a23 < a22) : Bool) with
  | true => (gd (decide (0 ≤ a23) && decide (a23 < ((a21.length : Nat) : Int))) <|
  optP (a21[a23.toNat]?) fun v3 =>
  let x4 : Int := IntKind.i64.wrap (a23 + 1)
  again (tset (t := (.int .i64)) (v := (.int .i64)) v3.1 v3.2.1 a8) x4)
  | false => kx0 a8)
def l6 (N : Nat) (a21 : List D49) (a22 : Int) : Nat → (List (Int × Int)) → Int → ((List (Int × Int)) → Prop) → Prop
  | 0, _, _, _ => False
  | m + 1, a8, a23, kx0 => b6 N a8 a21 a22 a23 (fun a8 a23 => l6 N a21 a22 m a8 a23 kx0) kx0
abbrev sl6 : List (Nat × Sh) := [(8, .d (.map true 3 3 (.int .i64) (.int .i64)) [1, 8]), (21, .d (.sl false 50 T49) [8]), (22, .d (.int .i64) [8]), (23, .d (.int .i64) [8])]
abbrev vl6 : List (Nat × Ty) := []
def fl6 (N m : Nat) (x : ShD sl6) (y : VD vl6) (S : Dh TryΓ) (K : Ex → TS → Dh TryΓ → Prop) : Prop := l6 N x.2.1 x.2.2.1 m x.1 x.2.2.2.1 (fun o8 => K (.exit 0) (stOf sx0 vx0 (o8, ()) ()) S)
def P (N : Nat) (a0 : D30) (a1 : Int) (K : (List (Int × Int)) → Int → Prop) : Prop :=
  T13f.P N a0 a1 fun r1 r2 =>
  (match (!decide (r2 = 0) : Bool) with
  | true => K [] r2
  | false => l6 N r1 ((r1.length : Nat) : Int) N [] 0
      (fun y5 =>
  K y5 0))
def sp (N : Nat) : TSp TryΓ := ⟨false, [T30, (.int .i64)], [(.map false 3 3 (.int .i64) (.int .i64)), (.int .i64)], fun xs S K => P N xs.1 xs.2.1 (fun r0 r1 => K (r0, r1, ()) S), false⟩
def spk (N : Nat) : TSp TryΓ := ⟨false, [T30, (.int .i64)], [(.map false 3 3 (.int .i64) (.int .i64)), (.int .i64)], fun xs S K => P N xs.1 xs.2.1 (fun r0 r1 => K (r0, r1, ()) S), true⟩
noncomputable def cfg (N : Nat) : TCfg TryΓ := ⟨Try.prog, tab N, (fun k => (lk k [(2, T30), (10, T49), (20, (.map true 3 3 (.int .i64) (.int .i64)))]).getD .unit), (fun k => lk k [(6, fragT sl6 vl6 (fl6 N N))]), (fun k => lk k []),
  (fun k => lk k [(6, ⟨[(8, some ((.map true 3 3 (.int .i64) (.int .i64)), [1, 8])), (21, some ((.sl false 50 T49), [8])), (22, some ((.int .i64), [8])), (23, some ((.int .i64), [8]))], [], [(8, [1, 8])], []⟩)]), (fun k => lk k [(0, ⟨[(8, some ((.map true 3 3 (.int .i64) (.int .i64)), [1, 8]))], [], [(8, [1, 8])], []⟩)]), some ⟨[(4, some ((.map false 3 3 (.int .i64) (.int .i64)), [8])), (5, some ((.int .i64), [8]))], [], [], [4, 5]⟩, (fun k => lk k []), [], memN [], (fun k => lk k [])⟩
noncomputable def cl6 : Code := sub [1, 1, 1, 1, 0, 1, 0, 0] (bodyOf Try.f29)
theorem be6 (N : Nat) (rec : TS → Dh TryΓ → Prop) (K : Ex → TS → Dh TryΓ → Prop) (x : ShD sl6) (y : VD vl6) (S : Dh TryΓ) :
    evT (cfg N) 34 cl6 (stOf sl6 vl6 x y) S (roundT (fun st S => rec (cutAtT (cfg N) cl6 st) S) K) = b6 N x.1 x.2.1 x.2.2.1 x.2.2.2.1 (fun a8 a23 => rec (stOf sl6 vl6 (a8, x.2.1, x.2.2.1, a23, ()) ()) S) (fun o8 => K (.exit 0) (stOf sx0 vx0 (o8, ()) ()) S) := by kernel_rfl
theorem le6 (N : Nat) (K : Ex → TS → Dh TryΓ → Prop) (S : Dh TryΓ) : ∀ (m : Nat) (x : ShD sl6) (y : VD vl6), loopT (cutAtT (cfg N) cl6) (fun st S K => evT (cfg N) 34 cl6 st S K) m (stOf sl6 vl6 x y) S K = fl6 N m x y S K := by
  intro m
  induction m with
  | zero => intros; rfl
  | succ m ih =>
    intro x y
    exact Eq.trans (be6 N (fun st S => loopT (cutAtT (cfg N) cl6) (fun st S K => evT (cfg N) 34 cl6 st S K) m st S K) K x y S) (Eq.trans (congrArg (fun ag => b6 N x.1 x.2.1 x.2.2.1 x.2.2.2.1 ag (fun o8 => K (.exit 0) (stOf sx0 vx0 (o8, ()) ()) S)) (funext fun a8 => funext fun a23 => ih (a8, x.2.1, x.2.2.1, a23, ()) ())) (by kernel_rfl))
theorem main (N : Nat) (xs : DataL (sp N).ps) (S : Dh TryΓ) (K : DataL (sp N).rs → Dh TryΓ → Prop) :
    fnT (cfg N) Try.f29 (sp N).ps (sp N).rs xs S K = (sp N).run xs S K := by kernel_rfl
theorem tabs : TabsT (cfg big) 34 (bodyOf Try.f29) := tabsT (c := cfg big) [(6, fragT sl6 vl6 (fl6 big big))] [] rfl rfl ⟨⟨cl6, by kernel_rfl, loopTie (f := fl6 big) (le6 big) big⟩, trivial⟩ trivial
theorem ok : TOK Try.prog 29 (sp big) := tok_of_eq (c := cfg big) (fn := Try.f29) (funsT [(13, T13f.spk big)] rfl ⟨T13f.okk, trivial⟩) trivial (by kernel_rfl) Try.func29 (by kernel_rfl) (by kernel_rfl) (by kernel_rfl) tabs rfl rfl (main big)
theorem okk : TOK Try.prog 29 (spk big) := tok_keep ok
end T29f
/-! granary/rebalance.Leaves -/
namespace T23f
def tab (N : Nat) (k : Nat) : Option (TSp TryΓ) := lk k [(13, T13f.spk N), (19, T19f.spk N), (29, T29f.spk N)]
abbrev sn19 : List (Nat × Sh) := [(11, .d (.map false 3 3 (.int .i64) (.int .i64)) [8]), (12, .d (.sl true 50 T49) [1, 12]), (67, .d (.sl false 50 T49) [8]), (68, .d (.int .i64) [8]), (69, .d (.int .i64) [8])]
abbrev vn19 : List (Nat × Ty) := []
abbrev sx0 : List (Nat × Sh) := [(12, .d (.sl true 50 T49) [1, 12])]
abbrev vx0 : List (Nat × Ty) := []
def j19 (N : Nat) (a11 : List (Int × Int)) (a12 : List D49) (a16 : Bool) (a67 : List D49) (a68 : Int) (a69 : Int) (v14 : D49) (kn : (List D49) → Prop) : Prop :=
  (match (!a16 : Bool) with
  | true => (gd (decide ((a12.length + ([v14] : List D49).length) * 16 ≤ room)) <|
  let l9 : List D49 := a12 ++ ([v14])
  kn l9)
  | false => kn a12)
abbrev sj19 : List (Nat × Sh) := [(11, .d (.map false 3 3 (.int .i64) (.int .i64)) [8]), (12, .d (.sl true 50 T49) [1, 12]), (14, .pv 14 [] 0), (16, .d .bool [8]), (67, .d (.sl false 50 T49) [8]), (68, .d (.int .i64) [8]), (69, .d (.int .i64) [8])]
abbrev vj19 : List (Nat × Ty) := [(14, T49)]
def fj19 (N : Nat) (x : ShD sj19) (y : VD vj19) (S : Dh TryΓ) (K : Ex → TS → Dh TryΓ → Prop) : Prop := j19 N x.1 x.2.1 x.2.2.1 x.2.2.2.1 x.2.2.2.2.1 x.2.2.2.2.2.1 y.1 (fun o12 => K .normal (stOf sn19 vn19 (x.1, o12, x.2.2.2.1, x.2.2.2.2.1, x.2.2.2.2.2.1, ()) ()) S)
def b16 (N : Nat) (a11 : List (Int × Int)) (a12 : List D49) (a67 : List D49) (a68 : Int) (a69 : Int) (again : (List D49) → Int → Prop) (kx0 : (List D49) → Prop) : Prop :=
  (match (decide (a69 < a68) : Bool) with
  | true => (gd (decide (0 ≤ a69) && decide (a69 < ((a67.length : Nat) : Int))) <|
  optP (a67[a69.toNat]?) fun v7 =>
  (match @id (Option Int) (tfind (t := (.int .i64)) (v := (.int .i64)) v7.1 a11) with
  | some v8 => j19 N a11 a12 true a67 a68 a69 v7
      (fun y9 =>
  let x10 : Int := IntKind.i64.wrap (a69 + 1)
  again y9 x10)
  | none => j19 N a11 a12 false a67 a68 a69 v7
      (fun y11 =>
  let x12 : Int := IntKind.i64.wrap (a69 + 1)
  again y11 x12)))
  | false => kx0 a12)
def l16 (N : Nat) (a11 : List (Int × Int)) (a67 : List D49) (a68 : Int) : Nat → (List D49) → Int → ((List D49) → Prop) → Prop
  | 0, _, _, _ => False
  | m + 1, a12, a69, kx0 => b16 N a11 a12 a67 a68 a69 (fun a12 a69 => l16 N a11 a67 a68 m a12 a69 kx0) kx0
abbrev sl16 : List (Nat × Sh) := [(11, .d (.map false 3 3 (.int .i64) (.int .i64)) [8]), (12, .d (.sl true 50 T49) [1, 12]), (67, .d (.sl false 50 T49) [8]), (68, .d (.int .i64) [8]), (69, .d (.int .i64) [8])]
abbrev vl16 : List (Nat × Ty) := []
def fl16 (N m : Nat) (x : ShD sl16) (y : VD vl16) (S : Dh TryΓ) (K : Ex → TS → Dh TryΓ → Prop) : Prop := l16 N x.1 x.2.2.1 x.2.2.2.1 m x.2.1 x.2.2.2.2.1 (fun o12 => K (.exit 0) (stOf sx0 vx0 (o12, ()) ()) S)
def P (N : Nat) (a0 : D30) (a1 : D30) (a2 : Int) (K : (List D49) → Int → Prop) : Prop :=
  T19f.P N a0 a1 fun r1 =>
  (match (!decide (r1 = 0) : Bool) with
  | true => K [] r1
  | false => (match (decide (a2 < 0) : Bool) with
  | true => K [] 68
  | false => let x2 : Int := max (((a0.2.2.2.2.2.2.2.2.2.2.2.2.2.2.2.2.2.2.2.2.2.2.1.length : Nat) : Int)) (((a1.2.2.2.2.2.2.2.2.2.2.2.2.2.2.2.2.2.2.2.2.2.2.1.length : Nat) : Int))
  (match (decide (x2 ≤ a2) : Bool) with
  | true => K [] 68
  | false => (match (decide ((((a0.2.2.2.2.2.2.2.2.2.2.2.2.2.2.2.2.2.2.2.2.2.2.1.length : Nat) : Int)) ≤ a2) : Bool) with
  | true => K [] 0
  | false => T13f.P N a0 a2 fun r3 r4 =>
  (match (!decide (r4 = 0) : Bool) with
  | true => K r3 r4
  | false => (match (decide ((((a1.2.2.2.2.2.2.2.2.2.2.2.2.2.2.2.2.2.2.2.2.2.2.1.length : Nat) : Int)) ≤ a2) : Bool) with
  | true => K r3 r4
  | false => T29f.P N a1 a2 fun r5 r6 =>
  (match (!decide (r6 = 0) : Bool) with
  | true => K [] r6
  | false => l16 N r5 r3 ((r3.length : Nat) : Int) N [] 0
      (fun y13 =>
  K y13 0))))))))
def sp (N : Nat) : TSp TryΓ := ⟨false, [T30, T30, (.int .i64)], [(.sl false 50 T49), (.int .i64)], fun xs S K => P N xs.1 xs.2.1 xs.2.2.1 (fun r0 r1 => K (r0, r1, ()) S), false⟩
def spk (N : Nat) : TSp TryΓ := ⟨false, [T30, T30, (.int .i64)], [(.sl false 50 T49), (.int .i64)], fun xs S K => P N xs.1 xs.2.1 xs.2.2.1 (fun r0 r1 => K (r0, r1, ()) S), true⟩
noncomputable def cfg (N : Nat) : TCfg TryΓ := ⟨Try.prog, tab N, (fun k => (lk k [(3, T30), (4, T30), (14, T49), (84, (.sl true 50 T49)), (85, (.sl true 50 T49))]).getD .unit), (fun k => lk k [(16, fragT sl16 vl16 (fl16 N N))]), (fun k => lk k [(19, fragT sj19 vj19 (fj19 N))]),
  (fun k => lk k [(16, ⟨[(11, some ((.map false 3 3 (.int .i64) (.int .i64)), [8])), (12, some ((.sl true 50 T49), [1, 12])), (67, some ((.sl false 50 T49), [8])), (68, some ((.int .i64), [8])), (69, some ((.int .i64), [8]))], [], [(12, [1, 12])], []⟩), (19, ⟨[(11, some ((.map false 3 3 (.int .i64) (.int .i64)), [8])), (12, some ((.sl true 50 T49), [1, 12])), (14, none), (16, some (.bool, [8])), (67, some ((.sl false 50 T49), [8])), (68, some ((.int .i64), [8])), (69, some ((.int .i64), [8]))], [14], [(12, [1, 12])], []⟩)]), (fun k => lk k [(0, ⟨[(12, some ((.sl true 50 T49), [1, 12]))], [], [(12, [1, 12])], []⟩)]), some ⟨[(6, some ((.sl false 50 T49), [8])), (7, some ((.int .i64), [8]))], [], [], [6, 7]⟩, (fun k => lk k [(19, ⟨[(11, some ((.map false 3 3 (.int .i64) (.int .i64)), [8])), (12, some ((.sl true 50 T49), [1, 12])), (67, some ((.sl false 50 T49), [8])), (68, some ((.int .i64), [8])), (69, some ((.int .i64), [8]))], [], [(12, [1, 12])], []⟩)]), [], memN [], (fun k => lk k [])⟩
noncomputable def cj19 : Code := sub [1, 1, 1, 1, 1, 1, 1, 1, 1, 0, 1, 0, 0, 1, 1, 0, 0, 1, 1] (bodyOf Try.f23)
theorem je19 (N : Nat) (K : Ex → TS → Dh TryΓ → Prop) (x : ShD sj19) (y : VD vj19) (S : Dh TryΓ) :
    evT (cfg N) 88 cj19 (stOf sj19 vj19 x y) S (endsT (cfg N) cj19 K) = fj19 N x y S K := by kernel_rfl
noncomputable def cl16 : Code := sub [1, 1, 1, 1, 1, 1, 1, 1, 1, 0, 1, 0, 0] (bodyOf Try.f23)
theorem be16 (N : Nat) (rec : TS → Dh TryΓ → Prop) (K : Ex → TS → Dh TryΓ → Prop) (x : ShD sl16) (y : VD vl16) (S : Dh TryΓ) :
    evT (cfg N) 88 cl16 (stOf sl16 vl16 x y) S (roundT (fun st S => rec (cutAtT (cfg N) cl16 st) S) K) = b16 N x.1 x.2.1 x.2.2.1 x.2.2.2.1 x.2.2.2.2.1 (fun a12 a69 => rec (stOf sl16 vl16 (x.1, a12, x.2.2.1, x.2.2.2.1, a69, ()) ()) S) (fun o12 => K (.exit 0) (stOf sx0 vx0 (o12, ()) ()) S) := by kernel_rfl
theorem le16 (N : Nat) (K : Ex → TS → Dh TryΓ → Prop) (S : Dh TryΓ) : ∀ (m : Nat) (x : ShD sl16) (y : VD vl16), loopT (cutAtT (cfg N) cl16) (fun st S K => evT (cfg N) 88 cl16 st S K) m (stOf sl16 vl16 x y) S K = fl16 N m x y S K := by
  intro m
  induction m with
  | zero => intros; rfl
  | succ m ih =>
    intro x y
    exact Eq.trans (be16 N (fun st S => loopT (cutAtT (cfg N) cl16) (fun st S K => evT (cfg N) 88 cl16 st S K) m st S K) K x y S) (Eq.trans (congrArg (fun ag => b16 N x.1 x.2.1 x.2.2.1 x.2.2.2.1 x.2.2.2.2.1 ag (fun o12 => K (.exit 0) (stOf sx0 vx0 (o12, ()) ()) S)) (funext fun a12 => funext fun a69 => ih (x.1, a12, x.2.2.1, x.2.2.2.1, a69, ()) ())) (by kernel_rfl))
theorem main (N : Nat) (xs : DataL (sp N).ps) (S : Dh TryΓ) (K : DataL (sp N).rs → Dh TryΓ → Prop) :
    fnT (cfg N) Try.f23 (sp N).ps (sp N).rs xs S K = (sp N).run xs S K := by kernel_rfl
theorem tabs : TabsT (cfg big) 88 (bodyOf Try.f23) := tabsT (c := cfg big) [(16, fragT sl16 vl16 (fl16 big big))] [(19, fragT sj19 vj19 (fj19 big))] rfl rfl ⟨⟨cl16, by kernel_rfl, loopTie (f := fl16 big) (le16 big) big⟩, trivial⟩ ⟨⟨cj19, by kernel_rfl, joinTie (f := fj19 big) (je19 big)⟩, trivial⟩
theorem ok : TOK Try.prog 23 (sp big) := tok_of_eq (c := cfg big) (fn := Try.f23) (funsT [(13, T13f.spk big), (19, T19f.spk big), (29, T29f.spk big)] rfl ⟨T13f.okk, T19f.okk, T29f.okk, trivial⟩) trivial (by kernel_rfl) Try.func23 (by kernel_rfl) (by kernel_rfl) (by kernel_rfl) tabs rfl rfl (main big)
theorem okk : TOK Try.prog 23 (spk big) := tok_keep ok
end T23f
/-! granary/rebalance.Plan -/
namespace T11f
def tab (N : Nat) (k : Nat) : Option (TSp TryΓ) := lk k [(13, T13f.spk N), (14, T14f.spk N), (19, T19f.spk N)]
abbrev sx4 : List (Nat × Sh) := [(2, .pv 2 [] 0), (3, .pv 3 [] 0), (7, .d (.sl true 45 T44) [1, 7]), (8, .d (.int .i64) [8]), (15, .pv 15 [] 0), (26, .d (.int .i64) [8]), (27, .d (.int .i64) [8]), (39, .d (.sl false 50 T49) [8]), (40, .d (.int .i64) [8]), (41, .d (.int .i64) [8])]
abbrev vx4 : List (Nat × Ty) := [(2, T30), (3, T30), (15, T44)]
abbrev sx2 : List (Nat × Sh) := [(2, .pv 2 [] 0), (3, .pv 3 [] 0), (7, .d (.sl true 45 T44) [1, 7]), (26, .d (.int .i64) [8]), (27, .d (.int .i64) [8])]
abbrev vx2 : List (Nat × Ty) := [(2, T30), (3, T30)]
abbrev sr : List (Nat × Sh) := [(4, .d (.sl false 45 T44) [8]), (5, .d (.int .i64) [8])]
abbrev vr : List (Nat × Ty) := []
abbrev sx0 : List (Nat × Sh) := [(7, .d (.sl true 45 T44) [1, 7])]
abbrev vx0 : List (Nat × Ty) := []
def b19 (N : Nat) (a7 : List D44) (a8 : Int) (a26 : Int) (a27 : Int) (a39 : List D49) (a40 : Int) (a41 : Int) (a64 : List Int) (a65 : Int) (a66 : Int) (v2 : D30) (v3 : D30) (v15 : D44) (again : Int → D44 → Prop) (kx4 : D30 → D30 → D44 → Prop) : Prop :=
  (match (decide (a66 < a65) : Bool) with
  | true => (gd (decide (0 ≤ a66) && decide (a66 < ((a64.length : Nat) : Int))) <|
  optP (a64[a66.toNat]?) fun v8 =>
  (match (decide (v8 = a8) : Bool) with
  | true => let x9 : Int := IntKind.i64.wrap (a66 + 1)
  again x9 (v15.1, a8, a66, v15.2.2.2)
  | false => let x10 : Int := IntKind.i64.wrap (a66 + 1)
  again x10 v15))
  | false => kx4 v2 v3 v15)
def l19 (N : Nat) (a7 : List D44) (a8 : Int) (a26 : Int) (a27 : Int) (a39 : List D49) (a40 : Int) (a41 : Int) (a64 : List Int) (a65 : Int) (v2 : D30) (v3 : D30) : Nat → Int → D44 → (D30 → D30 → D44 → Prop) → Prop
  | 0, _, _, _ => False
  | m + 1, a66, v15, kx4 => b19 N a7 a8 a26 a27 a39 a40 a41 a64 a65 a66 v2 v3 v15 (fun a66 v15 => l19 N a7 a8 a26 a27 a39 a40 a41 a64 a65 v2 v3 m a66 v15 kx4) kx4
abbrev sl19 : List (Nat × Sh) := [(2, .pv 2 [] 0), (3, .pv 3 [] 0), (7, .d (.sl true 45 T44) [1, 7]), (8, .d (.int .i64) [8]), (15, .pv 15 [] 0), (26, .d (.int .i64) [8]), (27, .d (.int .i64) [8]), (39, .d (.sl false 50 T49) [8]), (40, .d (.int .i64) [8]), (41, .d (.int .i64) [8]), (64, .d (.sl false 3 (.int .i64)) [8]), (65, .d (.int .i64) [8]), (66, .d (.int .i64) [8])]
abbrev vl19 : List (Nat × Ty) := [(2, T30), (3, T30), (15, T44)]
def fl19 (N m : Nat) (x : ShD sl19) (y : VD vl19) (S : Dh TryΓ) (K : Ex → TS → Dh TryΓ → Prop) : Prop := l19 N x.1 x.2.1 x.2.2.1 x.2.2.2.1 x.2.2.2.2.1 x.2.2.2.2.2.1 x.2.2.2.2.2.2.1 x.2.2.2.2.2.2.2.1 x.2.2.2.2.2.2.2.2.1 y.1 y.2.1 m x.2.2.2.2.2.2.2.2.2.1 y.2.2.1 (fun u2 u3 u15 => K (.exit 4) (stOf sx4 vx4 (x.1, x.2.1, x.2.2.1, x.2.2.2.1, x.2.2.2.2.1, x.2.2.2.2.2.1, x.2.2.2.2.2.2.1, ()) (u2, u3, u15, ())) S)
def b12 (N : Nat) (a7 : List D44) (a8 : Int) (a26 : Int) (a27 : Int) (a39 : List D49) (a40 : Int) (a41 : Int) (v2 : D30) (v3 : D30) (again : (List D44) → Int → D30 → D30 → Prop) (kx2 : (List D44) → D30 → D30 → Prop) (kr : (List D44) → Int → Prop) : Prop :=
  (match (decide (a41 < a40) : Bool) with
  | true => (gd (decide (0 ≤ a41) && decide (a41 < ((a39.length : Nat) : Int))) <|
  optP (a39[a41.toNat]?) fun v4 =>
  T14f.P N v2 v4.1 fun r5 r6 =>
  (match (!decide (r6 = 0) : Bool) with
  | true => kr [] r6
  | false => (gd (decide (0 ≤ 0) && decide (0 < ((r5.length : Nat) : Int))) <|
  optP (r5[0]?) fun v7 =>
  l19 N a7 a8 a26 a27 a39 a40 a41 r5 ((r5.length : Nat) : Int) v2 v3 N 0 (v4.1, v7, 0, a8, v4.2.1, ())
      (fun y8 y9 y10 =>
  (gd (decide ((a7.length + ([y10] : List D44).length) * 40 ≤ room)) <|
  let l11 : List D44 := a7 ++ ([y10])
  let x12 : Int := IntKind.i64.wrap (a41 + 1)
  again l11 x12 y8 y9)))))
  | false => kx2 a7 v2 v3)
def l12 (N : Nat) (a8 : Int) (a26 : Int) (a27 : Int) (a39 : List D49) (a40 : Int) : Nat → (List D44) → Int → D30 → D30 → ((List D44) → D30 → D30 → Prop) → ((List D44) → Int → Prop) → Prop
  | 0, _, _, _, _, _, _ => False
  | m + 1, a7, a41, v2, v3, kx2, kr => b12 N a7 a8 a26 a27 a39 a40 a41 v2 v3 (fun a7 a41 v2 v3 => l12 N a8 a26 a27 a39 a40 m a7 a41 v2 v3 kx2 kr) kx2 kr
abbrev sl12 : List (Nat × Sh) := [(2, .pv 2 [] 0), (3, .pv 3 [] 0), (7, .d (.sl true 45 T44) [1, 7]), (8, .d (.int .i64) [8]), (26, .d (.int .i64) [8]), (27, .d (.int .i64) [8]), (39, .d (.sl false 50 T49) [8]), (40, .d (.int .i64) [8]), (41, .d (.int .i64) [8])]
abbrev vl12 : List (Nat × Ty) := [(2, T30), (3, T30)]
def fl12 (N m : Nat) (x : ShD sl12) (y : VD vl12) (S : Dh TryΓ) (K : Ex → TS → Dh TryΓ → Prop) : Prop := l12 N x.2.1 x.2.2.1 x.2.2.2.1 x.2.2.2.2.1 x.2.2.2.2.2.1 m x.1 x.2.2.2.2.2.2.1 y.1 y.2.1 (fun o7 u2 u3 => K (.exit 2) (stOf sx2 vx2 (o7, x.2.2.1, x.2.2.2.1, ()) (u2, u3, ())) S) (fun o4 o5 => K .ret (stOf sr vr (o4, o5, ()) ()) S)
def b6 (N : Nat) (a7 : List D44) (a26 : Int) (a27 : Int) (v2 : D30) (v3 : D30) (again : (List D44) → Int → D30 → D30 → Prop) (kx0 : (List D44) → Prop) (kr : (List D44) → Int → Prop) : Prop :=
  (match (decide (a27 < a26) : Bool) with
  | true => T13f.P N v3 a27 fun r2 r3 =>
  (match (!decide (r3 = 0) : Bool) with
  | true => kr [] r3
  | false => l12 N a27 a26 a27 r2 ((r2.length : Nat) : Int) N a7 0 v2 v3
      (fun y4 y5 y6 =>
  let x7 : Int := IntKind.i64.wrap (a27 + 1)
  again y4 x7 y5 y6)
      (fun y8 y9 =>
  kr y8 y9))
  | false => kx0 a7)
def l6 (N : Nat) (a26 : Int) : Nat → (List D44) → Int → D30 → D30 → ((List D44) → Prop) → ((List D44) → Int → Prop) → Prop
  | 0, _, _, _, _, _, _ => False
  | m + 1, a7, a27, v2, v3, kx0, kr => b6 N a7 a26 a27 v2 v3 (fun a7 a27 v2 v3 => l6 N a26 m a7 a27 v2 v3 kx0 kr) kx0 kr
abbrev sl6 : List (Nat × Sh) := [(2, .pv 2 [] 0), (3, .pv 3 [] 0), (7, .d (.sl true 45 T44) [1, 7]), (26, .d (.int .i64) [8]), (27, .d (.int .i64) [8])]
abbrev vl6 : List (Nat × Ty) := [(2, T30), (3, T30)]
def fl6 (N m : Nat) (x : ShD sl6) (y : VD vl6) (S : Dh TryΓ) (K : Ex → TS → Dh TryΓ → Prop) : Prop := l6 N x.2.1 m x.1 x.2.2.1 y.1 y.2.1 (fun o7 => K (.exit 0) (stOf sx0 vx0 (o7, ()) ()) S) (fun o4 o5 => K .ret (stOf sr vr (o4, o5, ()) ()) S)
def P (N : Nat) (a0 : D30) (a1 : D30) (K : (List D44) → Int → Prop) : Prop :=
  T19f.P N a0 a1 fun r1 =>
  (match (!decide (r1 = 0) : Bool) with
  | true => K [] r1
  | false => l6 N ((a1.2.2.2.2.2.2.2.2.2.2.2.2.2.2.2.2.2.2.2.2.2.2.1.length : Nat) : Int) N [] 0 a0 a1
      (fun y10 =>
  K y10 0)
      (fun y11 y12 =>
  K y11 y12))
def sp (N : Nat) : TSp TryΓ := ⟨false, [T30, T30], [(.sl false 45 T44), (.int .i64)], fun xs S K => P N xs.1 xs.2.1 (fun r0 r1 => K (r0, r1, ()) S), false⟩
def spk (N : Nat) : TSp TryΓ := ⟨false, [T30, T30], [(.sl false 45 T44), (.int .i64)], fun xs S K => P N xs.1 xs.2.1 (fun r0 r1 => K (r0, r1, ()) S), true⟩
noncomputable def cfg (N : Nat) : TCfg TryΓ := ⟨Try.prog, tab N, (fun k => (lk k [(2, T30), (3, T30), (12, T49), (15, T44), (63, T44), (81, (.sl true 45 T44)), (82, (.sl true 45 T44))]).getD .unit), (fun k => lk k [(19, fragT sl19 vl19 (fl19 N N)), (12, fragT sl12 vl12 (fl12 N N)), (6, fragT sl6 vl6 (fl6 N N))]), (fun k => lk k []),
  (fun k => lk k [(6, ⟨[(2, none), (3, none), (7, some ((.sl true 45 T44), [1, 7])), (26, some ((.int .i64), [8])), (27, some ((.int .i64), [8]))], [2, 3], [(7, [1, 7])], []⟩), (12, ⟨[(2, none), (3, none), (7, some ((.sl true 45 T44), [1, 7])), (8, some ((.int .i64), [8])), (26, some ((.int .i64), [8])), (27, some ((.int .i64), [8])), (39, some ((.sl false 50 T49), [8])), (40, some ((.int .i64), [8])), (41, some ((.int .i64), [8]))], [2, 3], [(7, [1, 7])], []⟩), (19, ⟨[(2, none), (3, none), (7, some ((.sl true 45 T44), [1, 7])), (8, some ((.int .i64), [8])), (15, none), (26, some ((.int .i64), [8])), (27, some ((.int .i64), [8])), (39, some ((.sl false 50 T49), [8])), (40, some ((.int .i64), [8])), (41, some ((.int .i64), [8])), (64, some ((.sl false 3 (.int .i64)), [8])), (65, some ((.int .i64), [8])), (66, some ((.int .i64), [8]))], [2, 3, 15], [(7, [1, 7])], []⟩)]), (fun k => lk k [(0, ⟨[(7, some ((.sl true 45 T44), [1, 7]))], [], [(7, [1, 7])], []⟩), (2, ⟨[(2, none), (3, none), (7, some ((.sl true 45 T44), [1, 7])), (26, some ((.int .i64), [8])), (27, some ((.int .i64), [8]))], [2, 3], [(7, [1, 7])], []⟩), (4, ⟨[(2, none), (3, none), (7, some ((.sl true 45 T44), [1, 7])), (8, some ((.int .i64), [8])), (15, none), (26, some ((.int .i64), [8])), (27, some ((.int .i64), [8])), (39, some ((.sl false 50 T49), [8])), (40, some ((.int .i64), [8])), (41, some ((.int .i64), [8]))], [2, 3, 15], [(7, [1, 7])], []⟩)]), some ⟨[(4, some ((.sl false 45 T44), [8])), (5, some ((.int .i64), [8]))], [], [], [4, 5]⟩, (fun k => lk k []), [], memN [], (fun k => lk k [])⟩
noncomputable def cl19 : Code := sub [1, 1, 1, 0, 1, 0, 0, 1, 1, 0, 0, 1, 1, 1, 1, 0, 0, 1, 1, 0, 0, 1, 1, 1, 1, 0, 1, 0, 0] (bodyOf Try.f11)
theorem be19 (N : Nat) (rec : TS → Dh TryΓ → Prop) (K : Ex → TS → Dh TryΓ → Prop) (x : ShD sl19) (y : VD vl19) (S : Dh TryΓ) :
    evT (cfg N) 86 cl19 (stOf sl19 vl19 x y) S (roundT (fun st S => rec (cutAtT (cfg N) cl19 st) S) K) = b19 N x.1 x.2.1 x.2.2.1 x.2.2.2.1 x.2.2.2.2.1 x.2.2.2.2.2.1 x.2.2.2.2.2.2.1 x.2.2.2.2.2.2.2.1 x.2.2.2.2.2.2.2.2.1 x.2.2.2.2.2.2.2.2.2.1 y.1 y.2.1 y.2.2.1 (fun a66 v15 => rec (stOf sl19 vl19 (x.1, x.2.1, x.2.2.1, x.2.2.2.1, x.2.2.2.2.1, x.2.2.2.2.2.1, x.2.2.2.2.2.2.1, x.2.2.2.2.2.2.2.1, x.2.2.2.2.2.2.2.2.1, a66, ()) (y.1, y.2.1, v15, ())) S) (fun u2 u3 u15 => K (.exit 4) (stOf sx4 vx4 (x.1, x.2.1, x.2.2.1, x.2.2.2.1, x.2.2.2.2.1, x.2.2.2.2.2.1, x.2.2.2.2.2.2.1, ()) (u2, u3, u15, ())) S) := by kernel_rfl
theorem le19 (N : Nat) (K : Ex → TS → Dh TryΓ → Prop) (S : Dh TryΓ) : ∀ (m : Nat) (x : ShD sl19) (y : VD vl19), loopT (cutAtT (cfg N) cl19) (fun st S K => evT (cfg N) 86 cl19 st S K) m (stOf sl19 vl19 x y) S K = fl19 N m x y S K := by
  intro m
  induction m with
  | zero => intros; rfl
  | succ m ih =>
    intro x y
    exact Eq.trans (be19 N (fun st S => loopT (cutAtT (cfg N) cl19) (fun st S K => evT (cfg N) 86 cl19 st S K) m st S K) K x y S) (Eq.trans (congrArg (fun ag => b19 N x.1 x.2.1 x.2.2.1 x.2.2.2.1 x.2.2.2.2.1 x.2.2.2.2.2.1 x.2.2.2.2.2.2.1 x.2.2.2.2.2.2.2.1 x.2.2.2.2.2.2.2.2.1 x.2.2.2.2.2.2.2.2.2.1 y.1 y.2.1 y.2.2.1 ag (fun u2 u3 u15 => K (.exit 4) (stOf sx4 vx4 (x.1, x.2.1, x.2.2.1, x.2.2.2.1, x.2.2.2.2.1, x.2.2.2.2.2.1, x.2.2.2.2.2.2.1, ()) (u2, u3, u15, ())) S)) (funext fun a66 => funext fun v15 => ih (x.1, x.2.1, x.2.2.1, x.2.2.2.1, x.2.2.2.2.1, x.2.2.2.2.2.1, x.2.2.2.2.2.2.1, x.2.2.2.2.2.2.2.1, x.2.2.2.2.2.2.2.2.1, a66, ()) (y.1, y.2.1, v15, ()))) (by kernel_rfl))
noncomputable def cl12 : Code := sub [1, 1, 1, 0, 1, 0, 0, 1, 1, 0, 0, 1, 1, 1, 1, 0, 0] (bodyOf Try.f11)
theorem be12 (N : Nat) (rec : TS → Dh TryΓ → Prop) (K : Ex → TS → Dh TryΓ → Prop) (x : ShD sl12) (y : VD vl12) (S : Dh TryΓ) :
    evT (cfg N) 86 cl12 (stOf sl12 vl12 x y) S (roundT (fun st S => rec (cutAtT (cfg N) cl12 st) S) K) = b12 N x.1 x.2.1 x.2.2.1 x.2.2.2.1 x.2.2.2.2.1 x.2.2.2.2.2.1 x.2.2.2.2.2.2.1 y.1 y.2.1 (fun a7 a41 v2 v3 => rec (stOf sl12 vl12 (a7, x.2.1, x.2.2.1, x.2.2.2.1, x.2.2.2.2.1, x.2.2.2.2.2.1, a41, ()) (v2, v3, ())) S) (fun o7 u2 u3 => K (.exit 2) (stOf sx2 vx2 (o7, x.2.2.1, x.2.2.2.1, ()) (u2, u3, ())) S) (fun o4 o5 => K .ret (stOf sr vr (o4, o5, ()) ()) S) := by kernel_rfl
theorem le12 (N : Nat) (K : Ex → TS → Dh TryΓ → Prop) (S : Dh TryΓ) : ∀ (m : Nat) (x : ShD sl12) (y : VD vl12), loopT (cutAtT (cfg N) cl12) (fun st S K => evT (cfg N) 86 cl12 st S K) m (stOf sl12 vl12 x y) S K = fl12 N m x y S K := by
  intro m
  induction m with
  | zero => intros; rfl
  | succ m ih =>
    intro x y
    exact Eq.trans (be12 N (fun st S => loopT (cutAtT (cfg N) cl12) (fun st S K => evT (cfg N) 86 cl12 st S K) m st S K) K x y S) (Eq.trans (congrArg (fun ag => b12 N x.1 x.2.1 x.2.2.1 x.2.2.2.1 x.2.2.2.2.1 x.2.2.2.2.2.1 x.2.2.2.2.2.2.1 y.1 y.2.1 ag (fun o7 u2 u3 => K (.exit 2) (stOf sx2 vx2 (o7, x.2.2.1, x.2.2.2.1, ()) (u2, u3, ())) S) (fun o4 o5 => K .ret (stOf sr vr (o4, o5, ()) ()) S)) (funext fun a7 => funext fun a41 => funext fun v2 => funext fun v3 => ih (a7, x.2.1, x.2.2.1, x.2.2.2.1, x.2.2.2.2.1, x.2.2.2.2.2.1, a41, ()) (v2, v3, ()))) (by kernel_rfl))
noncomputable def cl6 : Code := sub [1, 1, 1, 0, 1, 0, 0] (bodyOf Try.f11)
theorem be6 (N : Nat) (rec : TS → Dh TryΓ → Prop) (K : Ex → TS → Dh TryΓ → Prop) (x : ShD sl6) (y : VD vl6) (S : Dh TryΓ) :
    evT (cfg N) 86 cl6 (stOf sl6 vl6 x y) S (roundT (fun st S => rec (cutAtT (cfg N) cl6 st) S) K) = b6 N x.1 x.2.1 x.2.2.1 y.1 y.2.1 (fun a7 a27 v2 v3 => rec (stOf sl6 vl6 (a7, x.2.1, a27, ()) (v2, v3, ())) S) (fun o7 => K (.exit 0) (stOf sx0 vx0 (o7, ()) ()) S) (fun o4 o5 => K .ret (stOf sr vr (o4, o5, ()) ()) S) := by kernel_rfl
theorem le6 (N : Nat) (K : Ex → TS → Dh TryΓ → Prop) (S : Dh TryΓ) : ∀ (m : Nat) (x : ShD sl6) (y : VD vl6), loopT (cutAtT (cfg N) cl6) (fun st S K => evT (cfg N) 86 cl6 st S K) m (stOf sl6 vl6 x y) S K = fl6 N m x y S K := by
  intro m
  induction m with
  | zero => intros; rfl
  | succ m ih =>
    intro x y
    exact Eq.trans (be6 N (fun st S => loopT (cutAtT (cfg N) cl6) (fun st S K => evT (cfg N) 86 cl6 st S K) m st S K) K x y S) (Eq.trans (congrArg (fun ag => b6 N x.1 x.2.1 x.2.2.1 y.1 y.2.1 ag (fun o7 => K (.exit 0) (stOf sx0 vx0 (o7, ()) ()) S) (fun o4 o5 => K .ret (stOf sr vr (o4, o5, ()) ()) S)) (funext fun a7 => funext fun a27 => funext fun v2 => funext fun v3 => ih (a7, x.2.1, a27, ()) (v2, v3, ()))) (by kernel_rfl))
theorem main (N : Nat) (xs : DataL (sp N).ps) (S : Dh TryΓ) (K : DataL (sp N).rs → Dh TryΓ → Prop) :
    fnT (cfg N) Try.f11 (sp N).ps (sp N).rs xs S K = (sp N).run xs S K := by kernel_rfl
theorem tabs : TabsT (cfg big) 86 (bodyOf Try.f11) := tabsT (c := cfg big) [(19, fragT sl19 vl19 (fl19 big big)), (12, fragT sl12 vl12 (fl12 big big)), (6, fragT sl6 vl6 (fl6 big big))] [] rfl rfl ⟨⟨cl19, by kernel_rfl, loopTie (f := fl19 big) (le19 big) big⟩, ⟨cl12, by kernel_rfl, loopTie (f := fl12 big) (le12 big) big⟩, ⟨cl6, by kernel_rfl, loopTie (f := fl6 big) (le6 big) big⟩, trivial⟩ trivial
theorem ok : TOK Try.prog 11 (sp big) := tok_of_eq (c := cfg big) (fn := Try.f11) (funsT [(13, T13f.spk big), (14, T14f.spk big), (19, T19f.spk big)] rfl ⟨T13f.okk, T14f.okk, T19f.okk, trivial⟩) trivial (by kernel_rfl) Try.func11 (by kernel_rfl) (by kernel_rfl) (by kernel_rfl) tabs rfl rfl (main big)
theorem okk : TOK Try.prog 11 (spk big) := tok_keep ok
end T11f
/-! granary/granarylaw23.leaving -/
namespace T16f
def tab (N : Nat) (k : Nat) : Option (TSp TryΓ) := lk k [(12, T12f.spk N), (13, T13f.spk N), (14, T14f.spk N), (15, T15f.spk N), (23, T23f.spk N)]
abbrev sx2 : List (Nat × Sh) := [(1, .pv 1 [] 0), (3, .d (.int .i64) [8]), (4, .d (.int .i64) [8]), (5, .d (.sl false 50 T49) [8]), (8, .d (.int .i64) [8])]
abbrev vx2 : List (Nat × Ty) := [(1, T33)]
abbrev sr : List (Nat × Sh) := [(2, .d .bool [8])]
abbrev vr : List (Nat × Ty) := []
abbrev sn13 : List (Nat × Sh) := [(1, .pv 1 [] 0), (3, .d (.int .i64) [8]), (4, .d (.int .i64) [8])]
abbrev vn13 : List (Nat × Ty) := [(1, T33)]
abbrev sx0 : List (Nat × Sh) := [(1, .pv 1 [] 0), (3, .d (.int .i64) [8])]
abbrev vx0 : List (Nat × Ty) := [(1, T33)]
def b17 (N : Nat) (a3 : Int) (a4 : Int) (a5 : List D49) (a7 : List D49) (a8 : Int) (a9 : Int) (v1 : D33) (again : Int → Int → Prop) (kx2 : Int → D33 → Prop) (kr : Bool → Prop) : Prop :=
  (match (decide (a9 < (((a7.length : Nat) : Int))) : Bool) with
  | true => (gd (decide (0 ≤ a9) && decide (a9 < ((a7.length : Nat) : Int))) <|
  optP (a7[a9.toNat]?) fun v7 =>
  T14f.P N v1.2.1 v7.1 fun r8 r9 =>
  T12f.P N r9 fun r10 =>
  (match (!decide (r10 = 0) : Bool) with
  | true => kr false
  | false => T15f.P N r8 a4 fun r11 =>
  (match (decide (0 ≤ r11) : Bool) with
  | true => let x12 : Int := IntKind.i64.wrap (a9 + 1)
  again a8 x12
  | false => (match (decide ((((a5.length : Nat) : Int)) ≤ a8) : Bool) with
  | true => kr false
  | false => (gd (decide (0 ≤ a8) && decide (a8 < ((a5.length : Nat) : Int))) <|
  optP (a5[a8.toNat]?) fun v13 =>
  (gd (decide (0 ≤ a9) && decide (a9 < ((a7.length : Nat) : Int))) <|
  optP (a7[a9.toNat]?) fun v14 =>
  (match (!eqD T49 v13 v14 : Bool) with
  | true => kr false
  | false => let x15 : Int := IntKind.i64.wrap (a8 + 1)
  let x16 : Int := IntKind.i64.wrap (a9 + 1)
  again x15 x16)))))))
  | false => kx2 a8 v1)
def l17 (N : Nat) (a3 : Int) (a4 : Int) (a5 : List D49) (a7 : List D49) (v1 : D33) : Nat → Int → Int → (Int → D33 → Prop) → (Bool → Prop) → Prop
  | 0, _, _, _, _ => False
  | m + 1, a8, a9, kx2, kr => b17 N a3 a4 a5 a7 a8 a9 v1 (fun a8 a9 => l17 N a3 a4 a5 a7 v1 m a8 a9 kx2 kr) kx2 kr
abbrev sl17 : List (Nat × Sh) := [(1, .pv 1 [] 0), (3, .d (.int .i64) [8]), (4, .d (.int .i64) [8]), (5, .d (.sl false 50 T49) [8]), (7, .d (.sl false 50 T49) [8]), (8, .d (.int .i64) [8]), (9, .d (.int .i64) [8])]
abbrev vl17 : List (Nat × Ty) := [(1, T33)]
def fl17 (N m : Nat) (x : ShD sl17) (y : VD vl17) (S : Dh TryΓ) (K : Ex → TS → Dh TryΓ → Prop) : Prop := l17 N x.1 x.2.1 x.2.2.1 x.2.2.2.1 y.1 m x.2.2.2.2.1 x.2.2.2.2.2.1 (fun o8 u1 => K (.exit 2) (stOf sx2 vx2 (x.1, x.2.1, x.2.2.1, o8, ()) (u1, ())) S) (fun o2 => K .ret (stOf sr vr (o2, ()) ()) S)
def j13 (N : Nat) (a3 : Int) (a4 : Int) (a5 : List D49) (a6 : Int) (a7 : List D49) (v1 : D33) (kn : D33 → Prop) (kr : Bool → Prop) : Prop :=
  T12f.P N a6 fun r6 =>
  (match (!decide (r6 = 0) : Bool) with
  | true => kr false
  | false => l17 N a3 a4 a5 a7 v1 N 0 0
      (fun y7 y8 =>
  (match (!decide (y7 = (((a5.length : Nat) : Int))) : Bool) with
  | true => kr false
  | false => kn y8))
      (fun y9 =>
  kr y9))
abbrev sj13 : List (Nat × Sh) := [(1, .pv 1 [] 0), (3, .d (.int .i64) [8]), (4, .d (.int .i64) [8]), (5, .d (.sl false 50 T49) [8]), (6, .d (.int .i64) [8]), (7, .d (.sl false 50 T49) [8])]
abbrev vj13 : List (Nat × Ty) := [(1, T33)]
def fj13 (N : Nat) (x : ShD sj13) (y : VD vj13) (S : Dh TryΓ) (K : Ex → TS → Dh TryΓ → Prop) : Prop := j13 N x.1 x.2.1 x.2.2.1 x.2.2.2.1 x.2.2.2.2.1 y.1 (fun u1 => K .normal (stOf sn13 vn13 (x.1, x.2.1, ()) (u1, ())) S) (fun o2 => K .ret (stOf sr vr (o2, ()) ()) S)
def b5 (N : Nat) (a3 : Int) (a4 : Int) (v1 : D33) (again : Int → D33 → Prop) (kx0 : D33 → Prop) (kr : Bool → Prop) : Prop :=
  (match (decide (a4 < a3) : Bool) with
  | true => T23f.P N v1.1 v1.2.1 a4 fun r1 r2 =>
  T12f.P N r2 fun r3 =>
  (match (!decide (r3 = 0) : Bool) with
  | true => kr false
  | false => (match (decide (a4 < (((v1.1.2.2.2.2.2.2.2.2.2.2.2.2.2.2.2.2.2.2.2.2.2.2.1.length : Nat) : Int))) : Bool) with
  | true => T13f.P N v1.1 a4 fun r4 r5 =>
  j13 N a3 a4 r1 r5 r4 v1
      (fun y6 =>
  let x7 : Int := IntKind.i64.wrap (a4 + 1)
  again x7 y6)
      (fun y8 =>
  kr y8)
  | false => j13 N a3 a4 r1 r2 [] v1
      (fun y9 =>
  let x10 : Int := IntKind.i64.wrap (a4 + 1)
  again x10 y9)
      (fun y11 =>
  kr y11)))
  | false => kx0 v1)
def l5 (N : Nat) (a3 : Int) : Nat → Int → D33 → (D33 → Prop) → (Bool → Prop) → Prop
  | 0, _, _, _, _ => False
  | m + 1, a4, v1, kx0, kr => b5 N a3 a4 v1 (fun a4 v1 => l5 N a3 m a4 v1 kx0 kr) kx0 kr
abbrev sl5 : List (Nat × Sh) := [(1, .pv 1 [] 0), (3, .d (.int .i64) [8]), (4, .d (.int .i64) [8])]
abbrev vl5 : List (Nat × Ty) := [(1, T33)]
def fl5 (N m : Nat) (x : ShD sl5) (y : VD vl5) (S : Dh TryΓ) (K : Ex → TS → Dh TryΓ → Prop) : Prop := l5 N x.1 m x.2.1 y.1 (fun u1 => K (.exit 0) (stOf sx0 vx0 (x.1, ()) (u1, ())) S) (fun o2 => K .ret (stOf sr vr (o2, ()) ()) S)
def j4 (N : Nat) (a3 : Int) (v1 : D33) (kr : Bool → Prop) : Prop :=
  l5 N a3 N 0 v1
      (fun y1 =>
  T23f.P N y1.1 y1.2.1 a3 fun r2 r3 =>
  T12f.P N r3 fun r4 =>
  kr (decide (r4 = 68)))
      (fun y5 =>
  kr y5)
abbrev sj4 : List (Nat × Sh) := [(1, .pv 1 [] 0), (3, .d (.int .i64) [8])]
abbrev vj4 : List (Nat × Ty) := [(1, T33)]
def fj4 (N : Nat) (x : ShD sj4) (y : VD vj4) (S : Dh TryΓ) (K : Ex → TS → Dh TryΓ → Prop) : Prop := j4 N x.1 y.1 (fun o2 => K .ret (stOf sr vr (o2, ()) ()) S)
def P (N : Nat) (a0 : D33) (K : Bool → Prop) : Prop :=
  (match (decide ((((a0.1.2.2.2.2.2.2.2.2.2.2.2.2.2.2.2.2.2.2.2.2.2.2.1.length : Nat) : Int)) < (((a0.2.1.2.2.2.2.2.2.2.2.2.2.2.2.2.2.2.2.2.2.2.2.2.2.1.length : Nat) : Int))) : Bool) with
  | true => j4 N ((a0.2.1.2.2.2.2.2.2.2.2.2.2.2.2.2.2.2.2.2.2.2.2.2.2.1.length : Nat) : Int) a0
      (fun y6 =>
  K y6)
  | false => j4 N ((a0.1.2.2.2.2.2.2.2.2.2.2.2.2.2.2.2.2.2.2.2.2.2.2.1.length : Nat) : Int) a0
      (fun y7 =>
  K y7))
def sp (N : Nat) : TSp TryΓ := ⟨false, [T33], [.bool], fun xs S K => P N xs.1 (fun r0 => K (r0, ()) S), false⟩
def spk (N : Nat) : TSp TryΓ := ⟨false, [T33], [.bool], fun xs S K => P N xs.1 (fun r0 => K (r0, ()) S), true⟩
noncomputable def cfg (N : Nat) : TCfg TryΓ := ⟨Try.prog, tab N, (fun k => (lk k [(1, T33)]).getD .unit), (fun k => lk k [(17, fragT sl17 vl17 (fl17 N N)), (5, fragT sl5 vl5 (fl5 N N))]), (fun k => lk k [(13, fragT sj13 vj13 (fj13 N)), (4, fragT sj4 vj4 (fj4 N))]),
  (fun k => lk k [(4, ⟨[(1, none), (3, some ((.int .i64), [8]))], [1], [], []⟩), (5, ⟨[(1, none), (3, some ((.int .i64), [8])), (4, some ((.int .i64), [8]))], [1], [], []⟩), (13, ⟨[(1, none), (3, some ((.int .i64), [8])), (4, some ((.int .i64), [8])), (5, some ((.sl false 50 T49), [8])), (6, some ((.int .i64), [8])), (7, some ((.sl false 50 T49), [8]))], [1], [], []⟩), (17, ⟨[(1, none), (3, some ((.int .i64), [8])), (4, some ((.int .i64), [8])), (5, some ((.sl false 50 T49), [8])), (7, some ((.sl false 50 T49), [8])), (8, some ((.int .i64), [8])), (9, some ((.int .i64), [8]))], [1], [], []⟩)]), (fun k => lk k [(0, ⟨[(1, none), (3, some ((.int .i64), [8]))], [1], [], []⟩), (2, ⟨[(1, none), (3, some ((.int .i64), [8])), (4, some ((.int .i64), [8])), (5, some ((.sl false 50 T49), [8])), (8, some ((.int .i64), [8]))], [1], [], []⟩), (3, ⟨[(1, none), (3, some ((.int .i64), [8])), (4, some ((.int .i64), [8])), (5, some ((.sl false 50 T49), [8])), (7, some ((.sl false 50 T49), [8])), (8, some ((.int .i64), [8])), (9, some ((.int .i64), [8]))], [1], [], []⟩)]), some ⟨[(2, some (.bool, [8]))], [], [], [2]⟩, (fun k => lk k [(13, ⟨[(1, none), (3, some ((.int .i64), [8])), (4, some ((.int .i64), [8]))], [1], [], []⟩)]), [], memN [], (fun k => lk k [])⟩
noncomputable def cl17 : Code := sub [1, 1, 1, 0, 1, 0, 0, 1, 0, 0, 1, 1, 1, 1, 1, 1, 0, 1, 0, 0] (bodyOf Try.f16)
theorem be17 (N : Nat) (rec : TS → Dh TryΓ → Prop) (K : Ex → TS → Dh TryΓ → Prop) (x : ShD sl17) (y : VD vl17) (S : Dh TryΓ) :
    evT (cfg N) 118 cl17 (stOf sl17 vl17 x y) S (roundT (fun st S => rec (cutAtT (cfg N) cl17 st) S) K) = b17 N x.1 x.2.1 x.2.2.1 x.2.2.2.1 x.2.2.2.2.1 x.2.2.2.2.2.1 y.1 (fun a8 a9 => rec (stOf sl17 vl17 (x.1, x.2.1, x.2.2.1, x.2.2.2.1, a8, a9, ()) (y.1, ())) S) (fun o8 u1 => K (.exit 2) (stOf sx2 vx2 (x.1, x.2.1, x.2.2.1, o8, ()) (u1, ())) S) (fun o2 => K .ret (stOf sr vr (o2, ()) ()) S) := by kernel_rfl
theorem le17 (N : Nat) (K : Ex → TS → Dh TryΓ → Prop) (S : Dh TryΓ) : ∀ (m : Nat) (x : ShD sl17) (y : VD vl17), loopT (cutAtT (cfg N) cl17) (fun st S K => evT (cfg N) 118 cl17 st S K) m (stOf sl17 vl17 x y) S K = fl17 N m x y S K := by
  intro m
  induction m with
  | zero => intros; rfl
  | succ m ih =>
    intro x y
    exact Eq.trans (be17 N (fun st S => loopT (cutAtT (cfg N) cl17) (fun st S K => evT (cfg N) 118 cl17 st S K) m st S K) K x y S) (Eq.trans (congrArg (fun ag => b17 N x.1 x.2.1 x.2.2.1 x.2.2.2.1 x.2.2.2.2.1 x.2.2.2.2.2.1 y.1 ag (fun o8 u1 => K (.exit 2) (stOf sx2 vx2 (x.1, x.2.1, x.2.2.1, o8, ()) (u1, ())) S) (fun o2 => K .ret (stOf sr vr (o2, ()) ()) S)) (funext fun a8 => funext fun a9 => ih (x.1, x.2.1, x.2.2.1, x.2.2.2.1, a8, a9, ()) (y.1, ()))) (by kernel_rfl))
noncomputable def cj13 : Code := sub [1, 1, 1, 0, 1, 0, 0, 1, 0, 0, 1, 1, 1, 1] (bodyOf Try.f16)
theorem je13 (N : Nat) (K : Ex → TS → Dh TryΓ → Prop) (x : ShD sj13) (y : VD vj13) (S : Dh TryΓ) :
    evT (cfg N) 118 cj13 (stOf sj13 vj13 x y) S (endsT (cfg N) cj13 K) = fj13 N x y S K := by kernel_rfl
noncomputable def cl5 : Code := sub [1, 1, 1, 0, 1, 0, 0] (bodyOf Try.f16)
theorem be5 (N : Nat) (rec : TS → Dh TryΓ → Prop) (K : Ex → TS → Dh TryΓ → Prop) (x : ShD sl5) (y : VD vl5) (S : Dh TryΓ) :
    evT (cfg N) 118 cl5 (stOf sl5 vl5 x y) S (roundT (fun st S => rec (cutAtT (cfg N) cl5 st) S) K) = b5 N x.1 x.2.1 y.1 (fun a4 v1 => rec (stOf sl5 vl5 (x.1, a4, ()) (v1, ())) S) (fun u1 => K (.exit 0) (stOf sx0 vx0 (x.1, ()) (u1, ())) S) (fun o2 => K .ret (stOf sr vr (o2, ()) ()) S) := by kernel_rfl
theorem le5 (N : Nat) (K : Ex → TS → Dh TryΓ → Prop) (S : Dh TryΓ) : ∀ (m : Nat) (x : ShD sl5) (y : VD vl5), loopT (cutAtT (cfg N) cl5) (fun st S K => evT (cfg N) 118 cl5 st S K) m (stOf sl5 vl5 x y) S K = fl5 N m x y S K := by
  intro m
  induction m with
  | zero => intros; rfl
  | succ m ih =>
    intro x y
    exact Eq.trans (be5 N (fun st S => loopT (cutAtT (cfg N) cl5) (fun st S K => evT (cfg N) 118 cl5 st S K) m st S K) K x y S) (Eq.trans (congrArg (fun ag => b5 N x.1 x.2.1 y.1 ag (fun u1 => K (.exit 0) (stOf sx0 vx0 (x.1, ()) (u1, ())) S) (fun o2 => K .ret (stOf sr vr (o2, ()) ()) S)) (funext fun a4 => funext fun v1 => ih (x.1, a4, ()) (v1, ()))) (by kernel_rfl))
noncomputable def cj4 : Code := sub [1, 1, 1] (bodyOf Try.f16)
theorem je4 (N : Nat) (K : Ex → TS → Dh TryΓ → Prop) (x : ShD sj4) (y : VD vj4) (S : Dh TryΓ) :
    evT (cfg N) 118 cj4 (stOf sj4 vj4 x y) S (endsT (cfg N) cj4 K) = fj4 N x y S K := by kernel_rfl
theorem main (N : Nat) (xs : DataL (sp N).ps) (S : Dh TryΓ) (K : DataL (sp N).rs → Dh TryΓ → Prop) :
    fnT (cfg N) Try.f16 (sp N).ps (sp N).rs xs S K = (sp N).run xs S K := by kernel_rfl
theorem tabs : TabsT (cfg big) 118 (bodyOf Try.f16) := tabsT (c := cfg big) [(17, fragT sl17 vl17 (fl17 big big)), (5, fragT sl5 vl5 (fl5 big big))] [(13, fragT sj13 vj13 (fj13 big)), (4, fragT sj4 vj4 (fj4 big))] rfl rfl ⟨⟨cl17, by kernel_rfl, loopTie (f := fl17 big) (le17 big) big⟩, ⟨cl5, by kernel_rfl, loopTie (f := fl5 big) (le5 big) big⟩, trivial⟩ ⟨⟨cj13, by kernel_rfl, joinTie (f := fj13 big) (je13 big)⟩, ⟨cj4, by kernel_rfl, joinTie (f := fj4 big) (je4 big)⟩, trivial⟩
theorem ok : TOK Try.prog 16 (sp big) := tok_of_eq (c := cfg big) (fn := Try.f16) (funsT [(12, T12f.spk big), (13, T13f.spk big), (14, T14f.spk big), (15, T15f.spk big), (23, T23f.spk big)] rfl ⟨T12f.okk, T13f.okk, T14f.okk, T15f.okk, T23f.okk, trivial⟩) trivial (by kernel_rfl) Try.func16 (by kernel_rfl) (by kernel_rfl) (by kernel_rfl) tabs rfl rfl (main big)
theorem okk : TOK Try.prog 16 (spk big) := tok_keep ok
end T16f
/-! granary/granarylaw23.small -/
namespace T8f
def s_s : List UInt8 := [115]
def s_oat : List UInt8 := [111, 97, 116]
def s_grain : List UInt8 := [103, 114, 97, 105, 110]
def s_rye : List UInt8 := [114, 121, 101]
def s_straw : List UInt8 := [115, 116, 114, 97, 119]
def tab (N : Nat) (k : Nat) : Option (TSp TryΓ) := lk k []
def P (N : Nat)  (K : D33 → Prop) : Prop :=
  K ((s_s, 1, 1, 1, 1, 9, 20, 1, 20, 2, 1, 2, 9000, 9000, 9000, 1, 1, 1, 1, 1, 1, 0, [(0, [0, 1], ())], ()), (s_s, 2, 1, 1, 1, 9, 20, 1, 20, 2, 1, 2, 9000, 9000, 9000, 1, 1, 1, 1, 1, 1, 0, [(0, [1], ()), (0, [0], ())], ()), [(s_oat, s_grain, ()), (s_rye, s_straw, ())], ())
def sp (N : Nat) : TSp TryΓ := ⟨false, [], [T33], fun xs S K => P N (fun r0 => K (r0, ()) S), false⟩
def spk (N : Nat) : TSp TryΓ := ⟨false, [], [T33], fun xs S K => P N (fun r0 => K (r0, ()) S), true⟩
noncomputable def cfg (N : Nat) : TCfg TryΓ := ⟨Try.prog, tab N, (fun k => (lk k [(0, T33), (1, T30), (2, T30), (3, (.sl true 3 (.int .i64))), (4, T52), (5, (.sl true 53 T52)), (6, T30), (9, (.sl true 3 (.int .i64))), (10, T52), (11, (.sl true 3 (.int .i64))), (12, T52), (13, (.sl true 53 T52)), (17, T54), (18, T54), (19, (.sl true 55 T54)), (20, T33)]).getD .unit), (fun k => lk k []), (fun k => lk k []),
  (fun k => lk k []), (fun k => lk k []), some ⟨[(0, none)], [0], [], []⟩, (fun k => lk k []), [], memN [3, 5, 9, 11, 13, 19], (fun k => lk k [])⟩
theorem main (N : Nat) (xs : DataL (sp N).ps) (S : Dh TryΓ) (K : DataL (sp N).rs → Dh TryΓ → Prop) :
    fnT (cfg N) Try.f8 (sp N).ps (sp N).rs xs S K = (sp N).run xs S K := by kernel_rfl
theorem tabs : TabsT (cfg big) 21 (bodyOf Try.f8) := tabsT (c := cfg big) [] [] rfl rfl trivial trivial
theorem ok : TOK Try.prog 8 (sp big) := tok_of_eq (c := cfg big) (fn := Try.f8) (funsT [] rfl trivial) trivial (by kernel_rfl) Try.func8 (by kernel_rfl) (by kernel_rfl) (by kernel_rfl) tabs rfl rfl (main big)
theorem okk : TOK Try.prog 8 (spk big) := tok_keep ok
end T8f
/-! (granary/granarylaw23.Turn).proper -/
namespace T9f
def tab (N : Nat) (k : Nat) : Option (TSp TryΓ) := lk k [(8, T8f.spk N), (11, T11f.spk N), (12, T12f.spk N), (17, T17f.spk N), (18, T18f.spk N)]
def P (N : Nat) (a0 : D33) (K : D33 → Prop) : Prop :=
  T18f.P N fun r1 =>
  T17f.P N r1 a0.2.2.1 fun r2 =>
  T11f.P N a0.1 a0.2.1 fun r3 r4 =>
  T12f.P N r2 fun r5 =>
  (match (!decide (r5 = 0) : Bool) with
  | true => T8f.P N fun r6 =>
  K r6
  | false => T12f.P N r4 fun r7 =>
  (match (!decide (r7 = 0) : Bool) with
  | true => T8f.P N fun r8 =>
  K r8
  | false => K a0))
def sp (N : Nat) : TSp TryΓ := ⟨false, [T33], [T33], fun xs S K => P N xs.1 (fun r0 => K (r0, ()) S), false⟩
def spk (N : Nat) : TSp TryΓ := ⟨false, [T33], [T33], fun xs S K => P N xs.1 (fun r0 => K (r0, ()) S), true⟩
noncomputable def cfg (N : Nat) : TCfg TryΓ := ⟨Try.prog, tab N, (fun k => (lk k [(1, T33), (2, T33)]).getD .unit), (fun k => lk k []), (fun k => lk k []),
  (fun k => lk k []), (fun k => lk k []), some ⟨[(2, none)], [2], [], []⟩, (fun k => lk k []), [], memN [], (fun k => lk k [(1, [1, 2, 0, 3, 4])])⟩
theorem main (N : Nat) (xs : DataL (sp N).ps) (S : Dh TryΓ) (K : DataL (sp N).rs → Dh TryΓ → Prop) :
    fnT (cfg N) Try.f9 (sp N).ps (sp N).rs xs S K = (sp N).run xs S K := by kernel_rfl
theorem tabs : TabsT (cfg big) 28 (bodyOf Try.f9) := tabsT (c := cfg big) [] [] rfl rfl trivial trivial
theorem ok : TOK Try.prog 9 (sp big) := tok_of_eq (c := cfg big) (fn := Try.f9) (funsT [(8, T8f.spk big), (11, T11f.spk big), (12, T12f.spk big), (17, T17f.spk big), (18, T18f.spk big)] rfl ⟨T8f.okk, T11f.okk, T12f.okk, T17f.okk, T18f.okk, trivial⟩) trivial (by kernel_rfl) Try.func9 (by kernel_rfl) (by kernel_rfl) (by kernel_rfl) tabs rfl rfl (main big)
theorem okk : TOK Try.prog 9 (spk big) := tok_keep ok
end T9f
/-! granary/granarylaw23.least -/
namespace T7f
def tab (N : Nat) (k : Nat) : Option (TSp TryΓ) := lk k [(11, T11f.spk N), (12, T12f.spk N), (13, T13f.spk N), (14, T14f.spk N), (15, T15f.spk N), (16, T16f.spk N)]
abbrev sx2 : List (Nat × Sh) := [(1, .pv 1 [] 0), (3, .d (.sl false 45 T44) [8]), (5, .d (.int .i64) [8]), (6, .d (.int .i64) [8])]
abbrev vx2 : List (Nat × Ty) := [(1, T33)]
abbrev sr : List (Nat × Sh) := [(2, .d .bool [8])]
abbrev vr : List (Nat × Ty) := []
abbrev sx0 : List (Nat × Sh) := [(1, .pv 1 [] 0), (3, .d (.sl false 45 T44) [8]), (5, .d (.int .i64) [8])]
abbrev vx0 : List (Nat × Ty) := [(1, T33)]
def b12 (N : Nat) (a3 : List D44) (a5 : Int) (a6 : Int) (a7 : List D49) (a9 : Int) (v1 : D33) (again : Int → Int → Prop) (kx2 : Int → D33 → Prop) (kr : Bool → Prop) : Prop :=
  (match (decide (a9 < (((a7.length : Nat) : Int))) : Bool) with
  | true => (match (decide ((((a3.length : Nat) : Int)) ≤ a5) : Bool) with
  | true => kr false
  | false => (gd (decide (0 ≤ a5) && decide (a5 < ((a3.length : Nat) : Int))) <|
  optP (a3[a5.toNat]?) fun v7 =>
  let x8 : Int := IntKind.i64.wrap (a5 + 1)
  (gd (decide (0 ≤ a9) && decide (a9 < ((a7.length : Nat) : Int))) <|
  optP (a7[a9.toNat]?) fun v9 =>
  T14f.P N v1.1 v9.1 fun r10 r11 =>
  T15f.P N r10 a6 fun r12 =>
  T12f.P N r11 fun r13 =>
  (match (!decide (r13 = 0) : Bool) with
  | true => kr false
  | false => (match (!decide (v7.2.2.2.1 = a6) : Bool) with
  | true => kr false
  | false => (gd (decide (0 ≤ a9) && decide (a9 < ((a7.length : Nat) : Int))) <|
  optP (a7[a9.toNat]?) fun v14 =>
  (match (!decide (v7.1 = v14.1) : Bool) with
  | true => kr false
  | false => (gd (decide (0 ≤ a9) && decide (a9 < ((a7.length : Nat) : Int))) <|
  optP (a7[a9.toNat]?) fun v15 =>
  (match (!decide (v7.2.2.2.2.1 = v15.2.1) : Bool) with
  | true => kr false
  | false => T15f.P N r10 v7.2.1 fun r16 =>
  (match (!decide (r16 = v7.2.2.1) : Bool) with
  | true => kr false
  | false => (match (!decide (decide (v7.2.1 = a6) = decide (0 ≤ r12)) : Bool) with
  | true => kr false
  | false => (match (decide (r12 < 0) : Bool) with
  | true => (match (!decide (v7.2.2.1 = 0) : Bool) with
  | true => kr false
  | false => let x17 : Int := IntKind.i64.wrap (a9 + 1)
  again x8 x17)
  | false => let x18 : Int := IntKind.i64.wrap (a9 + 1)
  again x8 x18))))))))))))
  | false => kx2 a5 v1)
def l12 (N : Nat) (a3 : List D44) (a6 : Int) (a7 : List D49) (v1 : D33) : Nat → Int → Int → (Int → D33 → Prop) → (Bool → Prop) → Prop
  | 0, _, _, _, _ => False
  | m + 1, a5, a9, kx2, kr => b12 N a3 a5 a6 a7 a9 v1 (fun a5 a9 => l12 N a3 a6 a7 v1 m a5 a9 kx2 kr) kx2 kr
abbrev sl12 : List (Nat × Sh) := [(1, .pv 1 [] 0), (3, .d (.sl false 45 T44) [8]), (5, .d (.int .i64) [8]), (6, .d (.int .i64) [8]), (7, .d (.sl false 50 T49) [8]), (9, .d (.int .i64) [8])]
abbrev vl12 : List (Nat × Ty) := [(1, T33)]
def fl12 (N m : Nat) (x : ShD sl12) (y : VD vl12) (S : Dh TryΓ) (K : Ex → TS → Dh TryΓ → Prop) : Prop := l12 N x.1 x.2.2.1 x.2.2.2.1 y.1 m x.2.1 x.2.2.2.2.1 (fun o5 u1 => K (.exit 2) (stOf sx2 vx2 (x.1, o5, x.2.2.1, ()) (u1, ())) S) (fun o2 => K .ret (stOf sr vr (o2, ()) ()) S)
def b6 (N : Nat) (a3 : List D44) (a5 : Int) (a6 : Int) (v1 : D33) (again : Int → Int → D33 → Prop) (kx0 : Int → D33 → Prop) (kr : Bool → Prop) : Prop :=
  (match (decide (a6 < (((v1.2.1.2.2.2.2.2.2.2.2.2.2.2.2.2.2.2.2.2.2.2.2.2.2.1.length : Nat) : Int))) : Bool) with
  | true => T13f.P N v1.2.1 a6 fun r4 r5 =>
  T12f.P N r5 fun r6 =>
  (match (!decide (r6 = 0) : Bool) with
  | true => kr false
  | false => l12 N a3 a6 r4 v1 N a5 0
      (fun y7 y8 =>
  let x9 : Int := IntKind.i64.wrap (a6 + 1)
  again y7 x9 y8)
      (fun y10 =>
  kr y10))
  | false => kx0 a5 v1)
def l6 (N : Nat) (a3 : List D44) : Nat → Int → Int → D33 → (Int → D33 → Prop) → (Bool → Prop) → Prop
  | 0, _, _, _, _, _ => False
  | m + 1, a5, a6, v1, kx0, kr => b6 N a3 a5 a6 v1 (fun a5 a6 v1 => l6 N a3 m a5 a6 v1 kx0 kr) kx0 kr
abbrev sl6 : List (Nat × Sh) := [(1, .pv 1 [] 0), (3, .d (.sl false 45 T44) [8]), (5, .d (.int .i64) [8]), (6, .d (.int .i64) [8])]
abbrev vl6 : List (Nat × Ty) := [(1, T33)]
def fl6 (N m : Nat) (x : ShD sl6) (y : VD vl6) (S : Dh TryΓ) (K : Ex → TS → Dh TryΓ → Prop) : Prop := l6 N x.1 m x.2.1 x.2.2.1 y.1 (fun o5 u1 => K (.exit 0) (stOf sx0 vx0 (x.1, o5, ()) (u1, ())) S) (fun o2 => K .ret (stOf sr vr (o2, ()) ()) S)
def P (N : Nat) (a0 : D33) (K : Bool → Prop) : Prop :=
  T11f.P N a0.1 a0.2.1 fun r1 r2 =>
  T12f.P N r2 fun r3 =>
  (match (!decide (r3 = 0) : Bool) with
  | true => K false
  | false => l6 N r1 N 0 0 a0
      (fun y4 y5 =>
  (match (decide (y4 = (((r1.length : Nat) : Int))) : Bool) with
  | true => (match (decide (0 < y4) : Bool) with
  | true => T16f.P N y5 fun r6 =>
  K r6
  | false => K false)
  | false => K false))
      (fun y7 =>
  K y7))
def sp (N : Nat) : TSp TryΓ := ⟨false, [T33], [.bool], fun xs S K => P N xs.1 (fun r0 => K (r0, ()) S), false⟩
def spk (N : Nat) : TSp TryΓ := ⟨false, [T33], [.bool], fun xs S K => P N xs.1 (fun r0 => K (r0, ()) S), true⟩
noncomputable def cfg (N : Nat) : TCfg TryΓ := ⟨Try.prog, tab N, (fun k => (lk k [(1, T33), (10, T44)]).getD .unit), (fun k => lk k [(12, fragT sl12 vl12 (fl12 N N)), (6, fragT sl6 vl6 (fl6 N N))]), (fun k => lk k []),
  (fun k => lk k [(6, ⟨[(1, none), (3, some ((.sl false 45 T44), [8])), (5, some ((.int .i64), [8])), (6, some ((.int .i64), [8]))], [1], [], []⟩), (12, ⟨[(1, none), (3, some ((.sl false 45 T44), [8])), (5, some ((.int .i64), [8])), (6, some ((.int .i64), [8])), (7, some ((.sl false 50 T49), [8])), (9, some ((.int .i64), [8]))], [1], [], []⟩)]), (fun k => lk k [(0, ⟨[(1, none), (3, some ((.sl false 45 T44), [8])), (5, some ((.int .i64), [8]))], [1], [], []⟩), (2, ⟨[(1, none), (3, some ((.sl false 45 T44), [8])), (5, some ((.int .i64), [8])), (6, some ((.int .i64), [8]))], [1], [], []⟩)]), some ⟨[(2, some (.bool, [8]))], [], [], [2]⟩, (fun k => lk k []), [], memN [], (fun k => lk k [(20, [0, 1, 2, 3, 4, 5, 6, 7, 8, 9, 10, 11, 12, 13, 14, 15, 16, 17, 18, 19, 20, 21, 22, 23, 24, 25, 26, 27, 28, 29, 30, 31, 32, 34, 35, 33, 36, 37])])⟩
noncomputable def cl12 : Code := sub [1, 1, 1, 1, 0, 1, 0, 0, 1, 0, 0, 1, 1, 1, 0, 0] (bodyOf Try.f7)
theorem be12 (N : Nat) (rec : TS → Dh TryΓ → Prop) (K : Ex → TS → Dh TryΓ → Prop) (x : ShD sl12) (y : VD vl12) (S : Dh TryΓ) :
    evT (cfg N) 139 cl12 (stOf sl12 vl12 x y) S (roundT (fun st S => rec (cutAtT (cfg N) cl12 st) S) K) = b12 N x.1 x.2.1 x.2.2.1 x.2.2.2.1 x.2.2.2.2.1 y.1 (fun a5 a9 => rec (stOf sl12 vl12 (x.1, a5, x.2.2.1, x.2.2.2.1, a9, ()) (y.1, ())) S) (fun o5 u1 => K (.exit 2) (stOf sx2 vx2 (x.1, o5, x.2.2.1, ()) (u1, ())) S) (fun o2 => K .ret (stOf sr vr (o2, ()) ()) S) := by kernel_rfl
theorem le12 (N : Nat) (K : Ex → TS → Dh TryΓ → Prop) (S : Dh TryΓ) : ∀ (m : Nat) (x : ShD sl12) (y : VD vl12), loopT (cutAtT (cfg N) cl12) (fun st S K => evT (cfg N) 139 cl12 st S K) m (stOf sl12 vl12 x y) S K = fl12 N m x y S K := by
  intro m
  induction m with
  | zero => intros; rfl
  | succ m ih =>
    intro x y
    exact Eq.trans (be12 N (fun st S => loopT (cutAtT (cfg N) cl12) (fun st S K => evT (cfg N) 139 cl12 st S K) m st S K) K x y S) (Eq.trans (congrArg (fun ag => b12 N x.1 x.2.1 x.2.2.1 x.2.2.2.1 x.2.2.2.2.1 y.1 ag (fun o5 u1 => K (.exit 2) (stOf sx2 vx2 (x.1, o5, x.2.2.1, ()) (u1, ())) S) (fun o2 => K .ret (stOf sr vr (o2, ()) ()) S)) (funext fun a5 => funext fun a9 => ih (x.1, a5, x.2.2.1, x.2.2.2.1, a9, ()) (y.1, ()))) (by kernel_rfl))
noncomputable def cl6 : Code := sub [1, 1, 1, 1, 0, 1, 0, 0] (bodyOf Try.f7)
theorem be6 (N : Nat) (rec : TS → Dh TryΓ → Prop) (K : Ex → TS → Dh TryΓ → Prop) (x : ShD sl6) (y : VD vl6) (S : Dh TryΓ) :
    evT (cfg N) 139 cl6 (stOf sl6 vl6 x y) S (roundT (fun st S => rec (cutAtT (cfg N) cl6 st) S) K) = b6 N x.1 x.2.1 x.2.2.1 y.1 (fun a5 a6 v1 => rec (stOf sl6 vl6 (x.1, a5, a6, ()) (v1, ())) S) (fun o5 u1 => K (.exit 0) (stOf sx0 vx0 (x.1, o5, ()) (u1, ())) S) (fun o2 => K .ret (stOf sr vr (o2, ()) ()) S) := by kernel_rfl
theorem le6 (N : Nat) (K : Ex → TS → Dh TryΓ → Prop) (S : Dh TryΓ) : ∀ (m : Nat) (x : ShD sl6) (y : VD vl6), loopT (cutAtT (cfg N) cl6) (fun st S K => evT (cfg N) 139 cl6 st S K) m (stOf sl6 vl6 x y) S K = fl6 N m x y S K := by
  intro m
  induction m with
  | zero => intros; rfl
  | succ m ih =>
    intro x y
    exact Eq.trans (be6 N (fun st S => loopT (cutAtT (cfg N) cl6) (fun st S K => evT (cfg N) 139 cl6 st S K) m st S K) K x y S) (Eq.trans (congrArg (fun ag => b6 N x.1 x.2.1 x.2.2.1 y.1 ag (fun o5 u1 => K (.exit 0) (stOf sx0 vx0 (x.1, o5, ()) (u1, ())) S) (fun o2 => K .ret (stOf sr vr (o2, ()) ()) S)) (funext fun a5 => funext fun a6 => funext fun v1 => ih (x.1, a5, a6, ()) (v1, ()))) (by kernel_rfl))
theorem main (N : Nat) (xs : DataL (sp N).ps) (S : Dh TryΓ) (K : DataL (sp N).rs → Dh TryΓ → Prop) :
    fnT (cfg N) Try.f7 (sp N).ps (sp N).rs xs S K = (sp N).run xs S K := by kernel_rfl
theorem tabs : TabsT (cfg big) 139 (bodyOf Try.f7) := tabsT (c := cfg big) [(12, fragT sl12 vl12 (fl12 big big)), (6, fragT sl6 vl6 (fl6 big big))] [] rfl rfl ⟨⟨cl12, by kernel_rfl, loopTie (f := fl12 big) (le12 big) big⟩, ⟨cl6, by kernel_rfl, loopTie (f := fl6 big) (le6 big) big⟩, trivial⟩ trivial
theorem ok : TOK Try.prog 7 (sp big) := tok_of_eq (c := cfg big) (fn := Try.f7) (funsT [(11, T11f.spk big), (12, T12f.spk big), (13, T13f.spk big), (14, T14f.spk big), (15, T15f.spk big), (16, T16f.spk big)] rfl ⟨T11f.okk, T12f.okk, T13f.okk, T14f.okk, T15f.okk, T16f.okk, trivial⟩) trivial (by kernel_rfl) Try.func7 (by kernel_rfl) (by kernel_rfl) (by kernel_rfl) tabs rfl rfl (main big)
theorem okk : TOK Try.prog 7 (spk big) := tok_keep ok
end T7f
/-! granary/granarylaw23.RebalanceLeast -/
namespace T4f
def tab (N : Nat) (k : Nat) : Option (TSp TryΓ) := lk k [(7, T7f.spk N), (8, T8f.spk N), (9, T9f.spk N)]
def P (N : Nat) (a0 : D33) (K : Bool → Prop) : Prop :=
  T8f.P N fun r1 =>
  T7f.P N r1 fun r2 =>
  (match (r2 : Bool) with
  | true => T9f.P N a0 fun r3 =>
  T7f.P N r3 fun r4 =>
  K r4
  | false => K false)
def sp (N : Nat) : TSp TryΓ := ⟨false, [T33], [.bool], fun xs S K => P N xs.1 (fun r0 => K (r0, ()) S), false⟩
def spk (N : Nat) : TSp TryΓ := ⟨false, [T33], [.bool], fun xs S K => P N xs.1 (fun r0 => K (r0, ()) S), true⟩
noncomputable def cfg (N : Nat) : TCfg TryΓ := ⟨Try.prog, tab N, (fun k => (lk k [(1, T33)]).getD .unit), (fun k => lk k []), (fun k => lk k []),
  (fun k => lk k []), (fun k => lk k []), some ⟨[(2, some (.bool, [8]))], [], [], [2]⟩, (fun k => lk k []), [], memN [], (fun k => lk k [])⟩
theorem main (N : Nat) (xs : DataL (sp N).ps) (S : Dh TryΓ) (K : DataL (sp N).rs → Dh TryΓ → Prop) :
    fnT (cfg N) Try.f4 (sp N).ps (sp N).rs xs S K = (sp N).run xs S K := by kernel_rfl
theorem tabs : TabsT (cfg big) 10 (bodyOf Try.f4) := tabsT (c := cfg big) [] [] rfl rfl trivial trivial
theorem ok : TOK Try.prog 4 (sp big) := tok_of_eq (c := cfg big) (fn := Try.f4) (funsT [(7, T7f.spk big), (8, T8f.spk big), (9, T9f.spk big)] rfl ⟨T7f.okk, T8f.okk, T9f.okk, trivial⟩) trivial (by kernel_rfl) Try.func4 (by kernel_rfl) (by kernel_rfl) (by kernel_rfl) tabs rfl rfl (main big)
theorem okk : TOK Try.prog 4 (spk big) := tok_keep ok
end T4f
end Go.Proofs.Ytbikpfccdcblfaa.Eng
