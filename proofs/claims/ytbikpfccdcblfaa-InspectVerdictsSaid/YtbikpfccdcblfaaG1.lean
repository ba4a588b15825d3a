/- Functions of the program as plain predicates, printed by gen.py out of the translation; each is tied to its code by the kernel. -/
import Derived.Test.YtbikpfccdcblfaaEng15
import Derived.Test.YtbikpfccdcblfaaProg
import Derived.KernelRfl
namespace Go.Proofs.Ytbikpfccdcblfaa.Eng
open Go Go.Proofs
set_option linter.unusedVariables false
def TryG : Nat := 0
/-! granary/granarylaw22.num -/
namespace F10
def Q (N : Nat) (a0 : Int) (H : Hp) (K : Int → Prop) : Prop :=
  K a0
def sp (N : Nat) : Sp := ⟨true, fun vs H K =>
  nextV vs fun w1 u1 =>
  deInt .i64 w1 fun a0 =>
  doneV u1 <|
  Q N a0 H (fun r0 => K (.int .i64 r0) H)⟩
noncomputable def cfg (N : Nat) : Cfg := ⟨Try.prog, TryG, (fun k => lk k []), (fun k => lk k []), (fun k => lk k []),
  (fun k => lk k []), (fun k => lk k []), some [2], (fun k => lk k [])⟩
theorem main (N : Nat) (a0 : Int) (H : Hp) (K : Value → Hp → Prop) :
    fnK (cfg N) Try.f10 [.int .i64 a0] H K = Q N a0 H (fun r0 => K (.int .i64 r0) H) := by kernel_rfl
theorem tabs : TabsOK (cfg big) 4 (bodyOf Try.f10) := by
  refine ⟨loops_ok [] rfl ?_, joins_ok [] rfl ?_⟩
  · intro i l hi; cases hi
  · intro i l hi; cases hi
theorem ok : SpOK Try.prog TryG 10 (sp big) := by
  refine sp_of_fnq (c := cfg big) (fn := Try.f10) (funs_ok [] rfl ?_) (by kernel_rfl) Try.func10 (by kernel_rfl) (by kernel_rfl) (by kernel_rfl) tabs ?_ ?_
  · intro i s hi; cases hi
  · intro args H K h
    have g := nextV_elim h; clear h; obtain ⟨_, _, rfl, h⟩ := g
    have g := deInt_elim h; clear h; obtain ⟨a0, rfl, h⟩ := g
    have g := doneV_elim h; clear h; obtain ⟨rfl, h⟩ := g
    have g : DQ H (fun K => Q big a0 H (fun r0 => K (.int .i64 r0) H)) := by
      unfold Q; dsimp only
      repeat' first | exact DQ.k _ | exact DQ.no | refine DQ.gd ?_ | refine DQ.and ?_ | refine DQ.ex fun _ => ?_ | refine DQ.opt fun _ => ?_
    exact g K h
  · intro args H K h
    have g := nextV_elim h; clear h; obtain ⟨_, _, rfl, h⟩ := g
    have g := deInt_elim h; clear h; obtain ⟨a0, rfl, h⟩ := g
    have g := doneV_elim h; clear h; obtain ⟨rfl, h⟩ := g
    exact Eq.mpr (main big a0 H K) h
end F10
/-! granary/inspect.Verdict -/
namespace F5
def b3 (N : Nat) (a3 : Int) (a6 : Option Addr) (a6n : Nat) (a6k : Nat) (a7 : Int) (a8 : Int) (H : Hp) (again : Int → Option Addr → Nat → Nat → Int → Int → Hp → Prop) (kx0 : Int → Hp → Prop) : Prop :=
  (match (decide (a8 < a7) : Bool) with
  | true => optP a6 fun p1 =>
  gd (decide (0 ≤ a8) && decide (a8 < (a6n : Int))) <|
  ∃ (v2 : ByteArray), H.cell p1.block (p1.off + a8.toNat * 5) = some (.string v2) ∧
  ∃ (v3 : Int), H.cell p1.block (p1.off + a8.toNat * 5 + 1) = some (.int .i64 v3) ∧
  ∃ (v4 : Int), H.cell p1.block (p1.off + a8.toNat * 5 + 2) = some (.int .i64 v4) ∧
  ∃ (v5 : Int), H.cell p1.block (p1.off + a8.toNat * 5 + 3) = some (.int .i64 v5) ∧
  ∃ (v6 : Int), H.cell p1.block (p1.off + a8.toNat * 5 + 4) = some (.int .i64 v6) ∧
  let H7 : Hp := H.new (.cells true 27 [.string ((⟨#[]⟩ : ByteArray)), .int .i64 0, .int .i64 0, .int .i64 0, .int .i64 0])
  H7.may H.next 0 5 ∧
  let H8 : Hp := H7.store H.next 0 [.string v2, .int .i64 v3, .int .i64 v4, .int .i64 v5, .int .i64 v6]
  ∃ (v9 : Int), H8.cell H.next 1 = some (.int .i64 v9) ∧
  let x10 : Int := max a3 v9
  let x11 : Int := IntKind.i64.wrap (a8 + 1)
  again x10 a6 a6n a6k a7 x11 H8
  | false => kx0 a3 H)
def l3 (N : Nat) : Nat → Int → Option Addr → Nat → Nat → Int → Int → Hp → (Int → Hp → Prop) → Prop
  | 0, _, _, _, _, _, _, _, _ => False
  | m + 1, a3, a6, a6n, a6k, a7, a8, H, kx0 => b3 N a3 a6 a6n a6k a7 a8 H (fun a3 a6 a6n a6k a7 a8 H => l3 N m a3 a6 a6n a6k a7 a8 H kx0) kx0
def frl3 (N : Nat) : Frag := fragOf [3, 6, 7, 8] fun vs H K =>
  nextV vs fun w1 u1 =>
  deInt .i64 w1 fun a3 =>
  nextV u1 fun w2 u2 =>
  deSlice w2 fun a6 a6n a6k =>
  nextV u2 fun w3 u3 =>
  deInt .i64 w3 fun a7 =>
  nextV u3 fun w4 u4 =>
  deInt .i64 w4 fun a8 =>
  doneV u4 <|
  l3 N N a3 a6 a6n a6k a7 a8 H (fun o3 H => K (.exit 0) [(3, .int .i64 o3)] H)
def P (N : Nat) (a0 : Option Addr) (a0n : Nat) (a0k : Nat) (H : Hp) (K : Int → Hp → Prop) : Prop :=
  l3 N N 0 a0 a0n a0k (((a0n : Nat) : Int)) 0 H
      (fun y2 H1 =>
  K y2 H1)
def sp (N : Nat) : Sp := ⟨false, fun vs H K =>
  nextV vs fun w1 u1 =>
  deSlice w1 fun a0 a0n a0k =>
  doneV u1 <|
  P N a0 a0n a0k H (fun r0 H => K (.int .i64 r0) H)⟩
noncomputable def cfg (N : Nat) : Cfg := ⟨Try.prog, TryG, (fun k => lk k []), (fun k => lk k [(3, frl3 N)]), (fun k => lk k []),
  (fun k => lk k [(3, [3, 6, 7, 8])]), (fun k => lk k [(0, [3])]), some [2], (fun k => lk k [])⟩
noncomputable def cl3 : Code := sub [1, 1, 0, 1, 0, 0] (bodyOf Try.f5)
theorem be3 (N : Nat) (rec : Env → Hp → Prop) (K : Ex → Env → Hp → Prop) (a3 : Int) (a6 : Option Addr) (a6n : Nat) (a6k : Nat) (a7 : Int) (a8 : Int) (H : Hp) :
    ev (cfg N) 18 cl3 [(3, .int .i64 a3), (6, .slice a6 a6n a6k), (7, .int .i64 a7), (8, .int .i64 a8)] H (roundK (fun σ H => rec (cutAt (cfg N) cl3 σ) H) K) = b3 N a3 a6 a6n a6k a7 a8 H (fun a3 a6 a6n a6k a7 a8 H => rec [(3, .int .i64 a3), (6, .slice a6 a6n a6k), (7, .int .i64 a7), (8, .int .i64 a8)] H) (fun o3 H => K (.exit 0) [(3, .int .i64 o3)] H) := by kernel_rfl
theorem le3 (N : Nat) (K : Ex → Env → Hp → Prop) : ∀ (m : Nat) (a3 : Int) (a6 : Option Addr) (a6n : Nat) (a6k : Nat) (a7 : Int) (a8 : Int) (H : Hp),
    loopK (cutAt (cfg N) cl3) (fun σ H K => ev (cfg N) 18 cl3 σ H K) m [(3, .int .i64 a3), (6, .slice a6 a6n a6k), (7, .int .i64 a7), (8, .int .i64 a8)] H K = l3 N m a3 a6 a6n a6k a7 a8 H (fun o3 H => K (.exit 0) [(3, .int .i64 o3)] H) := by
  intro m
  induction m with
  | zero => intro a3 a6 a6n a6k a7 a8 H; rfl
  | succ m ih =>
    intro a3 a6 a6n a6k a7 a8 H
    rw [loopK_succ, be3 N (fun σ H => loopK (cutAt (cfg N) cl3) (fun σ H K => ev (cfg N) 18 cl3 σ H K) m σ H K) K]
    simp only [ih]
    rfl
theorem main (N : Nat) (a0 : Option Addr) (a0n : Nat) (a0k : Nat) (H : Hp) (K : Value → Hp → Prop) :
    fnK (cfg N) Try.f5 [.slice a0 a0n a0k] H K = P N a0 a0n a0k H (fun r0 H => K (.int .i64 r0) H) := by kernel_rfl
theorem tabs : TabsOK (cfg big) 18 (bodyOf Try.f5) := by
  refine ⟨loops_ok [(3, frl3 big)] rfl ?_, joins_ok [] rfl ?_⟩
  · intro i l hi b hb σ H K h
    simp only [List.mem_cons, List.not_mem_nil, or_false, Prod.mk.injEq] at hi
    rcases hi with ⟨rfl, rfl⟩
    · have e : (loopsOf (bodyOf Try.f5)).filter (firstIs 3) = [cl3] := by kernel_rfl
      rw [e, List.mem_singleton] at hb; subst hb
      have h2 := frag_elim h
      clear h
      obtain ⟨vs, rfl, h⟩ := h2
      have g := nextV_elim h; clear h; obtain ⟨_, _, rfl, h⟩ := g
      have g := deInt_elim h; clear h; obtain ⟨a3, rfl, h⟩ := g
      have g := nextV_elim h; clear h; obtain ⟨_, _, rfl, h⟩ := g
      have g := deSlice_elim h; clear h; obtain ⟨a6, a6n, a6k, rfl, h⟩ := g
      have g := nextV_elim h; clear h; obtain ⟨_, _, rfl, h⟩ := g
      have g := deInt_elim h; clear h; obtain ⟨a7, rfl, h⟩ := g
      have g := nextV_elim h; clear h; obtain ⟨_, _, rfl, h⟩ := g
      have g := deInt_elim h; clear h; obtain ⟨a8, rfl, h⟩ := g
      have g := doneV_elim h; clear h; obtain ⟨rfl, h⟩ := g
      exact Eq.mpr (le3 big K big a3 a6 a6n a6k a7 a8 H) h
  · intro i l hi; cases hi
theorem ok : SpOK Try.prog TryG 5 (sp big) := by
  refine sp_of_fn (c := cfg big) (fn := Try.f5) (funs_ok [] rfl ?_) (by kernel_rfl) Try.func5 (by kernel_rfl) (by kernel_rfl) (by kernel_rfl) tabs rfl ?_
  · intro i s hi; cases hi
  · intro args H K h
    have g := nextV_elim h; clear h; obtain ⟨_, _, rfl, h⟩ := g
    have g := deSlice_elim h; clear h; obtain ⟨a0, a0n, a0k, rfl, h⟩ := g
    have g := doneV_elim h; clear h; obtain ⟨rfl, h⟩ := g
    exact Eq.mpr (main big a0 a0n a0k H K) h
end F5
/-! granary/granarylaw22.same -/
namespace F6
def b4 (N : Nat) (a0 : Option Addr) (a0n : Nat) (a0k : Nat) (a1 : Option Addr) (a1n : Nat) (a1k : Nat) (a5 : Int) (H : Hp) (again : Option Addr → Nat → Nat → Option Addr → Nat → Nat → Int → Hp → Prop) (kx0 : Hp → Prop) (kr : Bool → Hp → Prop) : Prop :=
  (match (decide (a5 < (((a0n : Nat) : Int))) : Bool) with
  | true => optP a0 fun p1 =>
  gd (decide (0 ≤ a5) && decide (a5 < (a0n : Int))) <|
  ∃ (v2 : ByteArray), H.cell p1.block (p1.off + a5.toNat * 5) = some (.string v2) ∧
  optP a1 fun p3 =>
  gd (decide (0 ≤ a5) && decide (a5 < (a1n : Int))) <|
  ∃ (v4 : ByteArray), H.cell p3.block (p3.off + a5.toNat * 5) = some (.string v4) ∧
  (match (!decide (v2 = v4) : Bool) with
  | true => kr false H
  | false => optP a0 fun p5 =>
  gd (decide (0 ≤ a5) && decide (a5 < (a0n : Int))) <|
  ∃ (v6 : Int), H.cell p5.block (p5.off + a5.toNat * 5 + 1) = some (.int .i64 v6) ∧
  optP a1 fun p7 =>
  gd (decide (0 ≤ a5) && decide (a5 < (a1n : Int))) <|
  ∃ (v8 : Int), H.cell p7.block (p7.off + a5.toNat * 5 + 1) = some (.int .i64 v8) ∧
  (match (!decide (v6 = v8) : Bool) with
  | true => kr false H
  | false => optP a0 fun p9 =>
  gd (decide (0 ≤ a5) && decide (a5 < (a0n : Int))) <|
  ∃ (v10 : Int), H.cell p9.block (p9.off + a5.toNat * 5 + 2) = some (.int .i64 v10) ∧
  F10.Q N v10 H fun r11 =>
  optP a1 fun p12 =>
  gd (decide (0 ≤ a5) && decide (a5 < (a1n : Int))) <|
  ∃ (v13 : Int), H.cell p12.block (p12.off + a5.toNat * 5 + 2) = some (.int .i64 v13) ∧
  F10.Q N v13 H fun r14 =>
  (match (!decide (r11 = r14) : Bool) with
  | true => kr false H
  | false => optP a0 fun p15 =>
  gd (decide (0 ≤ a5) && decide (a5 < (a0n : Int))) <|
  ∃ (v16 : Int), H.cell p15.block (p15.off + a5.toNat * 5 + 3) = some (.int .i64 v16) ∧
  optP a1 fun p17 =>
  gd (decide (0 ≤ a5) && decide (a5 < (a1n : Int))) <|
  ∃ (v18 : Int), H.cell p17.block (p17.off + a5.toNat * 5 + 3) = some (.int .i64 v18) ∧
  (match (!decide (v16 = v18) : Bool) with
  | true => kr false H
  | false => optP a0 fun p19 =>
  gd (decide (0 ≤ a5) && decide (a5 < (a0n : Int))) <|
  ∃ (v20 : Int), H.cell p19.block (p19.off + a5.toNat * 5 + 4) = some (.int .i64 v20) ∧
  optP a1 fun p21 =>
  gd (decide (0 ≤ a5) && decide (a5 < (a1n : Int))) <|
  ∃ (v22 : Int), H.cell p21.block (p21.off + a5.toNat * 5 + 4) = some (.int .i64 v22) ∧
  (match (!decide (v20 = v22) : Bool) with
  | true => kr false H
  | false => let x23 : Int := IntKind.i64.wrap (a5 + 1)
  again a0 a0n a0k a1 a1n a1k x23 H)))))
  | false => kx0  H)
def l4 (N : Nat) : Nat → Option Addr → Nat → Nat → Option Addr → Nat → Nat → Int → Hp → (Hp → Prop) → (Bool → Hp → Prop) → Prop
  | 0, _, _, _, _, _, _, _, _, _, _ => False
  | m + 1, a0, a0n, a0k, a1, a1n, a1k, a5, H, kx0, kr => b4 N a0 a0n a0k a1 a1n a1k a5 H (fun a0 a0n a0k a1 a1n a1k a5 H => l4 N m a0 a0n a0k a1 a1n a1k a5 H kx0 kr) kx0 kr
def frl4 (N : Nat) : Frag := fragOf [0, 1, 5] fun vs H K =>
  nextV vs fun w1 u1 =>
  deSlice w1 fun a0 a0n a0k =>
  nextV u1 fun w2 u2 =>
  deSlice w2 fun a1 a1n a1k =>
  nextV u2 fun w3 u3 =>
  deInt .i64 w3 fun a5 =>
  doneV u3 <|
  l4 N N a0 a0n a0k a1 a1n a1k a5 H (fun  H => K (.exit 0) [] H) (fun o4 H => K .ret [(4, .bool o4)] H)
def P (N : Nat) (a0 : Option Addr) (a0n : Nat) (a0k : Nat) (a1 : Option Addr) (a1n : Nat) (a1k : Nat) (H : Hp) (K : Bool → Hp → Prop) : Prop :=
  (match (!decide ((((a0n : Nat) : Int)) = (((a1n : Nat) : Int))) : Bool) with
  | true => K false H
  | false => l4 N N a0 a0n a0k a1 a1n a1k 0 H
      (fun  H1 =>
  K true H1)
      (fun y3 H2 =>
  K y3 H2))
def sp (N : Nat) : Sp := ⟨false, fun vs H K =>
  nextV vs fun w1 u1 =>
  deSlice w1 fun a0 a0n a0k =>
  nextV u1 fun w2 u2 =>
  deSlice w2 fun a1 a1n a1k =>
  doneV u2 <|
  P N a0 a0n a0k a1 a1n a1k H (fun r0 H => K (.bool r0) H)⟩
noncomputable def cfg (N : Nat) : Cfg := ⟨Try.prog, TryG, (fun k => lk k [(10, F10.sp N)]), (fun k => lk k [(4, frl4 N)]), (fun k => lk k []),
  (fun k => lk k [(4, [0, 1, 5])]), (fun k => lk k [(0, [])]), some [4], (fun k => lk k [])⟩
noncomputable def cl4 : Code := sub [1, 1, 0, 1, 0, 0] (bodyOf Try.f6)
theorem be4 (N : Nat) (rec : Env → Hp → Prop) (K : Ex → Env → Hp → Prop) (a0 : Option Addr) (a0n : Nat) (a0k : Nat) (a1 : Option Addr) (a1n : Nat) (a1k : Nat) (a5 : Int) (H : Hp) :
    ev (cfg N) 82 cl4 [(0, .slice a0 a0n a0k), (1, .slice a1 a1n a1k), (5, .int .i64 a5)] H (roundK (fun σ H => rec (cutAt (cfg N) cl4 σ) H) K) = b4 N a0 a0n a0k a1 a1n a1k a5 H (fun a0 a0n a0k a1 a1n a1k a5 H => rec [(0, .slice a0 a0n a0k), (1, .slice a1 a1n a1k), (5, .int .i64 a5)] H) (fun  H => K (.exit 0) [] H) (fun o4 H => K .ret [(4, .bool o4)] H) := by kernel_rfl
theorem le4 (N : Nat) (K : Ex → Env → Hp → Prop) : ∀ (m : Nat) (a0 : Option Addr) (a0n : Nat) (a0k : Nat) (a1 : Option Addr) (a1n : Nat) (a1k : Nat) (a5 : Int) (H : Hp),
    loopK (cutAt (cfg N) cl4) (fun σ H K => ev (cfg N) 82 cl4 σ H K) m [(0, .slice a0 a0n a0k), (1, .slice a1 a1n a1k), (5, .int .i64 a5)] H K = l4 N m a0 a0n a0k a1 a1n a1k a5 H (fun  H => K (.exit 0) [] H) (fun o4 H => K .ret [(4, .bool o4)] H) := by
  intro m
  induction m with
  | zero => intro a0 a0n a0k a1 a1n a1k a5 H; rfl
  | succ m ih =>
    intro a0 a0n a0k a1 a1n a1k a5 H
    rw [loopK_succ, be4 N (fun σ H => loopK (cutAt (cfg N) cl4) (fun σ H K => ev (cfg N) 82 cl4 σ H K) m σ H K) K]
    simp only [ih]
    rfl
theorem main (N : Nat) (a0 : Option Addr) (a0n : Nat) (a0k : Nat) (a1 : Option Addr) (a1n : Nat) (a1k : Nat) (H : Hp) (K : Value → Hp → Prop) :
    fnK (cfg N) Try.f6 [.slice a0 a0n a0k, .slice a1 a1n a1k] H K = P N a0 a0n a0k a1 a1n a1k H (fun r0 H => K (.bool r0) H) := by kernel_rfl
theorem tabs : TabsOK (cfg big) 82 (bodyOf Try.f6) := by
  refine ⟨loops_ok [(4, frl4 big)] rfl ?_, joins_ok [] rfl ?_⟩
  · intro i l hi b hb σ H K h
    simp only [List.mem_cons, List.not_mem_nil, or_false, Prod.mk.injEq] at hi
    rcases hi with ⟨rfl, rfl⟩
    · have e : (loopsOf (bodyOf Try.f6)).filter (firstIs 4) = [cl4] := by kernel_rfl
      rw [e, List.mem_singleton] at hb; subst hb
      have h2 := frag_elim h
      clear h
      obtain ⟨vs, rfl, h⟩ := h2
      have g := nextV_elim h; clear h; obtain ⟨_, _, rfl, h⟩ := g
      have g := deSlice_elim h; clear h; obtain ⟨a0, a0n, a0k, rfl, h⟩ := g
      have g := nextV_elim h; clear h; obtain ⟨_, _, rfl, h⟩ := g
      have g := deSlice_elim h; clear h; obtain ⟨a1, a1n, a1k, rfl, h⟩ := g
      have g := nextV_elim h; clear h; obtain ⟨_, _, rfl, h⟩ := g
      have g := deInt_elim h; clear h; obtain ⟨a5, rfl, h⟩ := g
      have g := doneV_elim h; clear h; obtain ⟨rfl, h⟩ := g
      exact Eq.mpr (le4 big K big a0 a0n a0k a1 a1n a1k a5 H) h
  · intro i l hi; cases hi
theorem ok : SpOK Try.prog TryG 6 (sp big) := by
  refine sp_of_fn (c := cfg big) (fn := Try.f6) (funs_ok [(10, F10.sp big)] rfl ?_) (by kernel_rfl) Try.func6 (by kernel_rfl) (by kernel_rfl) (by kernel_rfl) tabs rfl ?_
  · intro i s hi
    simp only [List.mem_cons, List.not_mem_nil, or_false, Prod.mk.injEq] at hi
    rcases hi with ⟨rfl, rfl⟩
    · exact F10.ok
  · intro args H K h
    have g := nextV_elim h; clear h; obtain ⟨_, _, rfl, h⟩ := g
    have g := deSlice_elim h; clear h; obtain ⟨a0, a0n, a0k, rfl, h⟩ := g
    have g := nextV_elim h; clear h; obtain ⟨_, _, rfl, h⟩ := g
    have g := deSlice_elim h; clear h; obtain ⟨a1, a1n, a1k, rfl, h⟩ := g
    have g := doneV_elim h; clear h; obtain ⟨rfl, h⟩ := g
    exact Eq.mpr (main big a0 a0n a0k a1 a1n a1k H K) h
end F6
/-! granary/granarylaw22.InspectVerdicts -/
namespace F3
def b7 (N : Nat) (a0 : Option Addr) (a0n : Nat) (a0k : Nat) (a3 : Option Addr) (a3n : Nat) (a3k : Nat) (a4 : Int) (a5 : Bool) (a6 : Int) (H : Hp) (again : Option Addr → Nat → Nat → Option Addr → Nat → Nat → Int → Bool → Int → Hp → Prop) (kx0 : Option Addr → Nat → Nat → Bool → Hp → Prop) (kr : Bool → Hp → Prop) : Prop :=
  (match (decide (a6 < (((a0n : Nat) : Int))) : Bool) with
  | true => optP a0 fun p6 =>
  gd (decide (0 ≤ a6) && decide (a6 < (a0n : Int))) <|
  ∃ (v7 : Int), H.cell p6.block (p6.off + a6.toNat * 5 + 1) = some (.int .i64 v7) ∧
  (match (decide (a4 < v7) : Bool) with
  | true => kr false H
  | false => (match (a5 : Bool) with
  | true => let x8 : Int := IntKind.i64.wrap (a6 + 1)
  again a0 a0n a0k a3 a3n a3k a4 true x8 H
  | false => optP a0 fun p9 =>
  gd (decide (0 ≤ a6) && decide (a6 < (a0n : Int))) <|
  ∃ (v10 : Int), H.cell p9.block (p9.off + a6.toNat * 5 + 1) = some (.int .i64 v10) ∧
  let x11 : Int := IntKind.i64.wrap (a6 + 1)
  again a0 a0n a0k a3 a3n a3k a4 (decide (v10 = a4)) x11 H))
  | false => kx0 a3 a3n a3k a5 H)
def l7 (N : Nat) : Nat → Option Addr → Nat → Nat → Option Addr → Nat → Nat → Int → Bool → Int → Hp → (Option Addr → Nat → Nat → Bool → Hp → Prop) → (Bool → Hp → Prop) → Prop
  | 0, _, _, _, _, _, _, _, _, _, _, _, _ => False
  | m + 1, a0, a0n, a0k, a3, a3n, a3k, a4, a5, a6, H, kx0, kr => b7 N a0 a0n a0k a3 a3n a3k a4 a5 a6 H (fun a0 a0n a0k a3 a3n a3k a4 a5 a6 H => l7 N m a0 a0n a0k a3 a3n a3k a4 a5 a6 H kx0 kr) kx0 kr
def frl7 (N : Nat) : Frag := fragOf [0, 3, 4, 5, 6] fun vs H K =>
  nextV vs fun w1 u1 =>
  deSlice w1 fun a0 a0n a0k =>
  nextV u1 fun w2 u2 =>
  deSlice w2 fun a3 a3n a3k =>
  nextV u2 fun w3 u3 =>
  deInt .i64 w3 fun a4 =>
  nextV u3 fun w4 u4 =>
  deBool w4 fun a5 =>
  nextV u4 fun w5 u5 =>
  deInt .i64 w5 fun a6 =>
  doneV u5 <|
  l7 N N a0 a0n a0k a3 a3n a3k a4 a5 a6 H (fun o3 o3n o3k o5 H => K (.exit 0) [(3, .slice o3 o3n o3k), (5, .bool o5)] H) (fun o2 H => K .ret [(2, .bool o2)] H)
def b13 (N : Nat) (a3 : Option Addr) (a3n : Nat) (a3k : Nat) (a5 : Bool) (a7 : Int) (H : Hp) (again : Option Addr → Nat → Nat → Bool → Int → Hp → Prop) (kx2 : Option Addr → Nat → Nat → Bool → Hp → Prop) : Prop :=
  (match (decide (a7 < (((a3n : Nat) : Int))) : Bool) with
  | true => optP a3 fun p9 =>
  gd (decide (0 ≤ a7) && decide (a7 < (a3n : Int))) <|
  H.may p9.block (p9.off + a7.toNat * 5 + 1) 1 ∧
  let H10 : Hp := H.store p9.block (p9.off + a7.toNat * 5 + 1) [.int .i64 6]
  let x11 : Int := IntKind.i64.wrap (a7 + 1)
  again a3 a3n a3k a5 x11 H10
  | false => kx2 a3 a3n a3k a5 H)
def l13 (N : Nat) : Nat → Option Addr → Nat → Nat → Bool → Int → Hp → (Option Addr → Nat → Nat → Bool → Hp → Prop) → Prop
  | 0, _, _, _, _, _, _, _ => False
  | m + 1, a3, a3n, a3k, a5, a7, H, kx2 => b13 N a3 a3n a3k a5 a7 H (fun a3 a3n a3k a5 a7 H => l13 N m a3 a3n a3k a5 a7 H kx2) kx2
def frl13 (N : Nat) : Frag := fragOf [3, 5, 7] fun vs H K =>
  nextV vs fun w1 u1 =>
  deSlice w1 fun a3 a3n a3k =>
  nextV u1 fun w2 u2 =>
  deBool w2 fun a5 =>
  nextV u2 fun w3 u3 =>
  deInt .i64 w3 fun a7 =>
  doneV u3 <|
  l13 N N a3 a3n a3k a5 a7 H (fun o3 o3n o3k o5 H => K (.exit 2) [(3, .slice o3 o3n o3k), (5, .bool o5)] H)
def j2 (N : Nat) (a0 : Option Addr) (a0n : Nat) (a0k : Nat) (a3 : Option Addr) (a3n : Nat) (a3k : Nat) (H : Hp) (kr : Bool → Hp → Prop) : Prop :=
  F5.P N a3 a3n a3k H fun r2 H3 =>
  F6.P N a3 a3n a3k a0 a0n a0k H3 fun r4 H5 =>
  (match (!r4 : Bool) with
  | true => kr false H5
  | false => (match (decide (r2 < 0) : Bool) with
  | true => kr false H5
  | false => l7 N N a0 a0n a0k a3 a3n a3k r2 (decide (r2 = 0)) 0 H5
      (fun y7 y7n y7k y8 H6 =>
  l13 N N y7 y7n y7k y8 0 H6
      (fun y10 y10n y10k y11 H9 =>
  (match (decide (0 < (((y10n : Nat) : Int))) : Bool) with
  | true => F5.P N y10 y10n y10k H9 fun r12 H13 =>
  (match (!decide (r12 = 6) : Bool) with
  | true => kr false H13
  | false => kr y11 H13)
  | false => kr y11 H9)))
      (fun y15 H14 =>
  kr y15 H14)))
def frj2 (N : Nat) : Frag := fragOf [0, 3] fun vs H K =>
  nextV vs fun w1 u1 =>
  deSlice w1 fun a0 a0n a0k =>
  nextV u1 fun w2 u2 =>
  deSlice w2 fun a3 a3n a3k =>
  doneV u2 <|
  j2 N a0 a0n a0k a3 a3n a3k H (fun o2 H => K .ret [(2, .bool o2)] H)
def P (N : Nat) (a0 : Option Addr) (a0n : Nat) (a0k : Nat) (H : Hp) (K : Bool → Hp → Prop) : Prop :=
  (match a0 with
  | none => j2 N a0 a0n a0k none 0 0 H
      (fun y17 H16 =>
  K y17 H16)
  | some p1 => H.has p1.block p1.off (a0n * 5) ∧
  (match Nat.beq a0n 0 with
  | true => j2 N a0 a0n a0k none 0 0 H
      (fun y19 H18 =>
  K y19 H18)
  | false => gd (decide (a0n * 48 ≤ room)) <|
  let H20 : Hp := H.new (.cells true 27 (H.take p1.block p1.off (a0n * 5)))
  j2 N a0 a0n a0k ((some ⟨H.next, 0, none⟩)) a0n 5 H20
      (fun y22 H21 =>
  K y22 H21)))
def sp (N : Nat) : Sp := ⟨false, fun vs H K =>
  nextV vs fun w1 u1 =>
  deSlice w1 fun a0 a0n a0k =>
  doneV u1 <|
  P N a0 a0n a0k H (fun r0 H => K (.bool r0) H)⟩
noncomputable def cfg (N : Nat) : Cfg := ⟨Try.prog, TryG, (fun k => lk k [(5, F5.sp N), (6, F6.sp N)]), (fun k => lk k [(7, frl7 N), (13, frl13 N)]), (fun k => lk k [(2, frj2 N)]),
  (fun k => lk k [(2, [0, 3]), (7, [0, 3, 4, 5, 6]), (13, [3, 5, 7])]), (fun k => lk k [(0, [3, 5]), (2, [3, 5])]), some [2], (fun k => lk k [(2, [2])])⟩
noncomputable def cl7 : Code := sub [1, 1, 1, 1, 1, 0, 1, 0, 0] (bodyOf Try.f3)
theorem be7 (N : Nat) (rec : Env → Hp → Prop) (K : Ex → Env → Hp → Prop) (a0 : Option Addr) (a0n : Nat) (a0k : Nat) (a3 : Option Addr) (a3n : Nat) (a3k : Nat) (a4 : Int) (a5 : Bool) (a6 : Int) (H : Hp) :
    ev (cfg N) 64 cl7 [(0, .slice a0 a0n a0k), (3, .slice a3 a3n a3k), (4, .int .i64 a4), (5, .bool a5), (6, .int .i64 a6)] H (roundK (fun σ H => rec (cutAt (cfg N) cl7 σ) H) K) = b7 N a0 a0n a0k a3 a3n a3k a4 a5 a6 H (fun a0 a0n a0k a3 a3n a3k a4 a5 a6 H => rec [(0, .slice a0 a0n a0k), (3, .slice a3 a3n a3k), (4, .int .i64 a4), (5, .bool a5), (6, .int .i64 a6)] H) (fun o3 o3n o3k o5 H => K (.exit 0) [(3, .slice o3 o3n o3k), (5, .bool o5)] H) (fun o2 H => K .ret [(2, .bool o2)] H) := by kernel_rfl
theorem le7 (N : Nat) (K : Ex → Env → Hp → Prop) : ∀ (m : Nat) (a0 : Option Addr) (a0n : Nat) (a0k : Nat) (a3 : Option Addr) (a3n : Nat) (a3k : Nat) (a4 : Int) (a5 : Bool) (a6 : Int) (H : Hp),
    loopK (cutAt (cfg N) cl7) (fun σ H K => ev (cfg N) 64 cl7 σ H K) m [(0, .slice a0 a0n a0k), (3, .slice a3 a3n a3k), (4, .int .i64 a4), (5, .bool a5), (6, .int .i64 a6)] H K = l7 N m a0 a0n a0k a3 a3n a3k a4 a5 a6 H (fun o3 o3n o3k o5 H => K (.exit 0) [(3, .slice o3 o3n o3k), (5, .bool o5)] H) (fun o2 H => K .ret [(2, .bool o2)] H) := by
  intro m
  induction m with
  | zero => intro a0 a0n a0k a3 a3n a3k a4 a5 a6 H; rfl
  | succ m ih =>
    intro a0 a0n a0k a3 a3n a3k a4 a5 a6 H
    rw [loopK_succ, be7 N (fun σ H => loopK (cutAt (cfg N) cl7) (fun σ H K => ev (cfg N) 64 cl7 σ H K) m σ H K) K]
    simp only [ih]
    rfl
noncomputable def cl13 : Code := sub [1, 1, 1, 1, 1, 1, 0, 1, 0, 0] (bodyOf Try.f3)
theorem be13 (N : Nat) (rec : Env → Hp → Prop) (K : Ex → Env → Hp → Prop) (a3 : Option Addr) (a3n : Nat) (a3k : Nat) (a5 : Bool) (a7 : Int) (H : Hp) :
    ev (cfg N) 64 cl13 [(3, .slice a3 a3n a3k), (5, .bool a5), (7, .int .i64 a7)] H (roundK (fun σ H => rec (cutAt (cfg N) cl13 σ) H) K) = b13 N a3 a3n a3k a5 a7 H (fun a3 a3n a3k a5 a7 H => rec [(3, .slice a3 a3n a3k), (5, .bool a5), (7, .int .i64 a7)] H) (fun o3 o3n o3k o5 H => K (.exit 2) [(3, .slice o3 o3n o3k), (5, .bool o5)] H) := by kernel_rfl
theorem le13 (N : Nat) (K : Ex → Env → Hp → Prop) : ∀ (m : Nat) (a3 : Option Addr) (a3n : Nat) (a3k : Nat) (a5 : Bool) (a7 : Int) (H : Hp),
    loopK (cutAt (cfg N) cl13) (fun σ H K => ev (cfg N) 64 cl13 σ H K) m [(3, .slice a3 a3n a3k), (5, .bool a5), (7, .int .i64 a7)] H K = l13 N m a3 a3n a3k a5 a7 H (fun o3 o3n o3k o5 H => K (.exit 2) [(3, .slice o3 o3n o3k), (5, .bool o5)] H) := by
  intro m
  induction m with
  | zero => intro a3 a3n a3k a5 a7 H; rfl
  | succ m ih =>
    intro a3 a3n a3k a5 a7 H
    rw [loopK_succ, be13 N (fun σ H => loopK (cutAt (cfg N) cl13) (fun σ H K => ev (cfg N) 64 cl13 σ H K) m σ H K) K]
    simp only [ih]
    rfl
noncomputable def cj2 : Code := sub [1, 1] (bodyOf Try.f3)
theorem je2 (N : Nat) (K : Ex → Env → Hp → Prop) (a0 : Option Addr) (a0n : Nat) (a0k : Nat) (a3 : Option Addr) (a3n : Nat) (a3k : Nat) (H : Hp) :
    ev (cfg N) 64 cj2 [(0, .slice a0 a0n a0k), (3, .slice a3 a3n a3k)] H (endsK (cfg N) cj2 K) = j2 N a0 a0n a0k a3 a3n a3k H (fun o2 H => K .ret [(2, .bool o2)] H) := by kernel_rfl
theorem main (N : Nat) (a0 : Option Addr) (a0n : Nat) (a0k : Nat) (H : Hp) (K : Value → Hp → Prop) :
    fnK (cfg N) Try.f3 [.slice a0 a0n a0k] H K = P N a0 a0n a0k H (fun r0 H => K (.bool r0) H) := by kernel_rfl
theorem tabs : TabsOK (cfg big) 64 (bodyOf Try.f3) := by
  refine ⟨loops_ok [(7, frl7 big), (13, frl13 big)] rfl ?_, joins_ok [(2, frj2 big)] rfl ?_⟩
  · intro i l hi b hb σ H K h
    simp only [List.mem_cons, List.not_mem_nil, or_false, Prod.mk.injEq] at hi
    rcases hi with ⟨rfl, rfl⟩ | ⟨rfl, rfl⟩
    · have e : (loopsOf (bodyOf Try.f3)).filter (firstIs 7) = [cl7] := by kernel_rfl
      rw [e, List.mem_singleton] at hb; subst hb
      have h2 := frag_elim h
      clear h
      obtain ⟨vs, rfl, h⟩ := h2
      have g := nextV_elim h; clear h; obtain ⟨_, _, rfl, h⟩ := g
      have g := deSlice_elim h; clear h; obtain ⟨a0, a0n, a0k, rfl, h⟩ := g
      have g := nextV_elim h; clear h; obtain ⟨_, _, rfl, h⟩ := g
      have g := deSlice_elim h; clear h; obtain ⟨a3, a3n, a3k, rfl, h⟩ := g
      have g := nextV_elim h; clear h; obtain ⟨_, _, rfl, h⟩ := g
      have g := deInt_elim h; clear h; obtain ⟨a4, rfl, h⟩ := g
      have g := nextV_elim h; clear h; obtain ⟨_, _, rfl, h⟩ := g
      have g := deBool_elim h; clear h; obtain ⟨a5, rfl, h⟩ := g
      have g := nextV_elim h; clear h; obtain ⟨_, _, rfl, h⟩ := g
      have g := deInt_elim h; clear h; obtain ⟨a6, rfl, h⟩ := g
      have g := doneV_elim h; clear h; obtain ⟨rfl, h⟩ := g
      exact Eq.mpr (le7 big K big a0 a0n a0k a3 a3n a3k a4 a5 a6 H) h
    · have e : (loopsOf (bodyOf Try.f3)).filter (firstIs 13) = [cl13] := by kernel_rfl
      rw [e, List.mem_singleton] at hb; subst hb
      have h2 := frag_elim h
      clear h
      obtain ⟨vs, rfl, h⟩ := h2
      have g := nextV_elim h; clear h; obtain ⟨_, _, rfl, h⟩ := g
      have g := deSlice_elim h; clear h; obtain ⟨a3, a3n, a3k, rfl, h⟩ := g
      have g := nextV_elim h; clear h; obtain ⟨_, _, rfl, h⟩ := g
      have g := deBool_elim h; clear h; obtain ⟨a5, rfl, h⟩ := g
      have g := nextV_elim h; clear h; obtain ⟨_, _, rfl, h⟩ := g
      have g := deInt_elim h; clear h; obtain ⟨a7, rfl, h⟩ := g
      have g := doneV_elim h; clear h; obtain ⟨rfl, h⟩ := g
      exact Eq.mpr (le13 big K big a3 a3n a3k a5 a7 H) h
  · intro i l hi b hb σ H K h
    simp only [List.mem_cons, List.not_mem_nil, or_false, Prod.mk.injEq] at hi
    rcases hi with ⟨rfl, rfl⟩
    · have e : (tailsOf (bodyOf Try.f3)).filter (firstIs 2) = [cj2] := by kernel_rfl
      rw [e, List.mem_singleton] at hb; subst hb
      have h2 := frag_elim h
      clear h
      obtain ⟨vs, rfl, h⟩ := h2
      have g := nextV_elim h; clear h; obtain ⟨_, _, rfl, h⟩ := g
      have g := deSlice_elim h; clear h; obtain ⟨a0, a0n, a0k, rfl, h⟩ := g
      have g := nextV_elim h; clear h; obtain ⟨_, _, rfl, h⟩ := g
      have g := deSlice_elim h; clear h; obtain ⟨a3, a3n, a3k, rfl, h⟩ := g
      have g := doneV_elim h; clear h; obtain ⟨rfl, h⟩ := g
      exact Eq.mpr (je2 big K a0 a0n a0k a3 a3n a3k H) h
theorem ok : SpOK Try.prog TryG 3 (sp big) := by
  refine sp_of_fn (c := cfg big) (fn := Try.f3) (funs_ok [(5, F5.sp big), (6, F6.sp big)] rfl ?_) (by kernel_rfl) Try.func3 (by kernel_rfl) (by kernel_rfl) (by kernel_rfl) tabs rfl ?_
  · intro i s hi
    simp only [List.mem_cons, List.not_mem_nil, or_false, Prod.mk.injEq] at hi
    rcases hi with ⟨rfl, rfl⟩ | ⟨rfl, rfl⟩
    · exact F5.ok
    · exact F6.ok
  · intro args H K h
    have g := nextV_elim h; clear h; obtain ⟨_, _, rfl, h⟩ := g
    have g := deSlice_elim h; clear h; obtain ⟨a0, a0n, a0k, rfl, h⟩ := g
    have g := doneV_elim h; clear h; obtain ⟨rfl, h⟩ := g
    exact Eq.mpr (main big a0 a0n a0k H K) h
end F3
end Go.Proofs.Ytbikpfccdcblfaa.Eng
