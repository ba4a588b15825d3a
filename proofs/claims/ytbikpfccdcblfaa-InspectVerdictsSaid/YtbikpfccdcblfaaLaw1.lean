/- InspectVerdicts: the statement, out of the walk and of what it computes. -/
import Derived.Test.YtbikpfccdcblfaaRows
import Derived.Test.YtbikpfccdcblfaaDom1
import Derived.Test.YtbikpfccdcblfaaEng16
import Derived.WalkKit
import Derived.ProofKit
import Derived.OpenShut
import Derived.ShutString
import Derived.ChangeOld
import Derived.Below
import Derived.Carry
import Derived.SizedLaws
import Derived.Deep.Slices
namespace Go.Proofs.Ytbikpfccdcblfaa.Eng
open Go Go.Proofs Go.ChangeShapes Go.WideShapes Go.ChangeAt Go.RowKit
set_option linter.unusedVariables false
set_option linter.unusedSimpArgs false

/-- The input as findings. -/
theorem findings_in {H : Type} {enc : TypeId × Value → H} {W : World} {fuel : Nat} {a : Option Addr} {len cap : Nat} {d : DataW H} {ps : List MemPlace} (hf : DataW.trod enc Try.prog W 0 (fun _ => true) true fuel 22 [.slice a len cap] = some (d, ps)) :
    (a = none ∧ len = 0 ∧ cap = 0) ∨ ∃ (x : Addr) (rs : List FR) (es sp : List (DataW H)), a = some x ∧ len ≤ cap ∧ rs.length = len ∧ d = .slice es sp ∧ es.length = len ∧
      ∀ i r, rs[i]? = some r → W.cell? (x.add (i * 5)) = some (.string r.p) ∧ W.cell? (x.add (i * 5 + 1)) = some (.int .i64 r.k) ∧ W.cell? (x.add (i * 5 + 2)) = some (.int .i64 r.c) ∧ W.cell? (x.add (i * 5 + 3)) = some (.int .i64 r.v) ∧ W.cell? (x.add (i * 5 + 4)) = some (.int .i64 r.n) := by
  have c27 : Try.prog.cellsOf 27 = 5 := by kernel_rfl
  have c9 : Try.prog.cellsOf 9 = 1 := by kernel_rfl
  have c3 : Try.prog.cellsOf 3 = 1 := by kernel_rfl
  have c25 : Try.prog.cellsOf 25 = 1 := by kernel_rfl
  rcases Deep.open_slice Try.underlying22 hf with ⟨hcs, _⟩ | ⟨x, l, c, m, n, D, Pl, hcs, _, hl, _, hm, hx, hel⟩
  · left
    simpa using hcs
  right
  simp only [List.cons.injEq, Value.slice.injEq, and_true] at hcs
  obtain ⟨rfl, rfl, rfl⟩ := hcs
  simp only [if_true] at hm
  subst hm
  rw [c27] at hel
  have each : ∀ i, i < len → ∃ r : FR, W.cell? (x.add (i * 5)) = some (.string r.p) ∧ W.cell? (x.add (i * 5 + 1)) = some (.int .i64 r.k) ∧ W.cell? (x.add (i * 5 + 2)) = some (.int .i64 r.c) ∧ W.cell? (x.add (i * 5 + 3)) = some (.int .i64 r.v) ∧ W.cell? (x.add (i * 5 + 4)) = some (.int .i64 r.n) := by
    intro i hi
    obtain ⟨cs, h1, h2⟩ := hel i (by omega)
    obtain ⟨_, hlen, hcell⟩ := World.cells?_some h1
    obtain ⟨xs, k, hk, hxy, _, hxl, hfl⟩ := DataW.trod_struct Try.underlying27 h2
    match xs, hxl, cs, hlen with
    | [y0, y1, y2, y3, y4], _, [v0, v1, v2, v3, v4], _ =>
      have g0 := hfl 0 _ rfl
      have g1 := hfl 1 _ rfl
      have g2 := hfl 2 _ rfl
      have g3 := hfl 3 _ rfl
      have g4 := hfl 4 _ rfl
      simp [c9, c3, c25] at g0 g1 g2 g3 g4
      obtain ⟨s0, e0, _⟩ := DataW.trod_string Try.underlying9 g0
      obtain ⟨n1, e1, _⟩ := DataW.trod_int Try.underlying3 g1
      obtain ⟨n2, e2, _⟩ := DataW.trod_int Try.underlying25 g2
      obtain ⟨n3, e3, _⟩ := DataW.trod_int Try.underlying3 g3
      obtain ⟨n4, e4, _⟩ := DataW.trod_int Try.underlying3 g4
      simp only [List.cons.injEq, and_true] at e0 e1 e2 e3 e4
      subst e0; subst e1; subst e2; subst e3; subst e4
      have q0 := hcell 0 (by omega)
      have q1 := hcell 1 (by omega)
      have q2 := hcell 2 (by omega)
      have q3 := hcell 3 (by omega)
      have q4 := hcell 4 (by omega)
      rw [Deep.add_add] at q0 q1 q2 q3 q4
      exact ⟨⟨s0, n1, n2, n3, n4⟩, by simpa using q0, by simpa using q1, by simpa using q2, by simpa using q3, by simpa using q4⟩
  have inst : Inhabited FR := ⟨⟨⟨#[]⟩, 0, 0, 0, 0⟩⟩
  obtain ⟨q, hq⟩ := Deep.choose_lt each
  simp only [Prod.mk.injEq] at hx
  refine ⟨x, (List.range len).map q, _, _, rfl, hl, by simp, hx.1, by simp, fun i r hi => ?_⟩
  rw [List.getElem?_map] at hi
  by_cases hlt : i < len
  · rw [List.getElem?_range hlt] at hi
    simp only [Option.map_some, Option.some.injEq] at hi
    subst hi
    exact hq i hlt
  · rw [List.getElem?_eq_none (by simp; omega)] at hi
    cases hi

theorem own1 : ownKnob Try.prog.godebug = none := by kernel_rfl
theorem laidOut1 : laidOutB Try.prog = true := by kernel_rfl
theorem walk1 (W : World) (a : Option Addr) (len cap : Nat) (h : (a = none ∧ len = 0 ∧ cap = 0) ∨ ∃ (x : Addr) (rs : List FR) (C : Array Value) (e : TypeId) (fz : Nat × Nat), a = some x ∧ x.spot = none ∧ len ≤ cap ∧ rs.length = len ∧ len * 48 ≤ 140737488355328 ∧ W.heap[x.block]? = some (.cells C e fz) ∧
      ∀ i r, rs[i]? = some r → W.cell? (x.add (i * 5)) = some (.string r.p) ∧ W.cell? (x.add (i * 5 + 1)) = some (.int .i64 r.k) ∧ W.cell? (x.add (i * 5 + 2)) = some (.int .i64 r.c) ∧ W.cell? (x.add (i * 5 + 3)) = some (.int .i64 r.v) ∧ W.cell? (x.add (i * 5 + 4)) = some (.int .i64 r.n)) :
    Calls Try.prog 3 #[.slice a len cap] W fun e w' => e = .returned (.bool true) ∧ Below W.heap.size W w' := by
  have fin : ∀ (ρ : Ren) (H : Hp) (args : List Value), F3.sp big |>.run args H (fun v _ => v = .bool true) → Rep Try.prog TryG ρ W.heap.size H W.heap → VRs ρ args [.slice a len cap] →
      Calls Try.prog 3 #[.slice a len cap] W fun e w' => e = .returned (.bool true) ∧ Below W.heap.size W w' := by
    intro ρ H args hr r hv
    refine (F3.ok.calls Try.func3 (by kernel_rfl) (by kernel_rfl) hr r hv).mono fun e w' ⟨v, he, ρ', v0, H', hk, _, hvr, _, hb⟩ => ?_
    subst hk
    rw [hvr.bool_inv] at he
    exact ⟨he, hb⟩
  rcases h with ⟨rfl, rfl, rfl⟩ | ⟨x, rs, C, e, fz, rfl, hsp, hlc, hlen, hsz, hC, hcell⟩
  · refine fin _ _ [.slice none 0 0] ?_ (Rep.empty Try.prog W) (.cons .snil (.nil _))
    exact F3_nil (k := 0) (K := fun r0 _ => Value.bool r0 = .bool true) (fun _ => rfl) ⟨fun _ => none, 0⟩
  · obtain ⟨b, o, sp⟩ := x
    simp only at hsp
    subst hsp
    have hlt : b < W.heap.size := (Array.getElem?_eq_some_iff.1 hC).1
    have hcs : ∀ i v, (cellsOf rs)[i]? = some v → C[o + i]? = some v ∧ ((∃ s, v = .string s) ∨ ∃ n, v = .int .i64 n) := by
      intro i v hv
      have hil : i < rs.length * 5 := by have := (List.getElem?_eq_some_iff.1 hv).1; rwa [cellsOf_len] at this
      have hq : i / 5 < rs.length := by omega
      have hg : rs[i / 5]? = some rs[i / 5] := by simp [hq]
      obtain ⟨a0, a1, a2, a3, a4⟩ := hcell (i / 5) _ hg
      obtain ⟨c0, c1, c2, c3, c4⟩ := cellsOf_get rs (i / 5) _ hg
      have hat : ∀ j u, W.cell? ((⟨b, o, none⟩ : Addr).add j) = some u → C[o + j]? = some u := by
        intro j u hj
        have : ((⟨b, o, none⟩ : Addr).add j) = ⟨b, o + j, none⟩ := by
          unfold Addr.add
          split
          · rename_i e; subst e; rfl
          · rfl
        rw [this, cell_of_block hC] at hj
        exact hj
      have five : i = i / 5 * 5 ∨ i = i / 5 * 5 + 1 ∨ i = i / 5 * 5 + 2 ∨ i = i / 5 * 5 + 3 ∨ i = i / 5 * 5 + 4 := by omega
      rcases five with e | e | e | e | e <;> rw [e] at hv ⊢
      · rw [c0] at hv; cases hv; exact ⟨hat _ _ a0, .inl ⟨_, rfl⟩⟩
      · rw [c1] at hv; cases hv; exact ⟨hat _ _ a1, .inr ⟨_, rfl⟩⟩
      · rw [c2] at hv; cases hv; exact ⟨hat _ _ a2, .inr ⟨_, rfl⟩⟩
      · rw [c3] at hv; cases hv; exact ⟨hat _ _ a3, .inr ⟨_, rfl⟩⟩
      · rw [c4] at hv; cases hv; exact ⟨hat _ _ a4, .inr ⟨_, rfl⟩⟩
    have r := (Rep.empty Try.prog W).see (o := o) (e := 27) (cs := cellsOf rs) hC hlt (fun i v hv => by
      obtain ⟨h1, h2⟩ := hcs i v hv
      refine ⟨v, h1, ?_, ?_⟩
      · rcases h2 with ⟨s, rfl⟩ | ⟨n, rfl⟩
        · exact .string s
        · exact .int _ _
      · rcases h2 with ⟨s, rfl⟩ | ⟨n, rfl⟩ <;> rfl)
    subst hlen
    refine fin _ _ [.slice (some ⟨0, 0, none⟩) rs.length 0] ?_ r (.cons (.slice (Ren.add_self _ _ _) (.inl rfl) hlc (fun h => absurd rfl h)) (.nil _))
    exact F3_ok (rs := rs) (k := 0) (K := fun r0 _ => Value.bool r0 = .bool true) hsz (fun _ => rfl)

set_option maxRecDepth 100000 in
theorem lifted1 (os : Os) (started : os.Started) (H : Type) (enc : TypeId × Value → H) :
    ReturnsInHanded {} Try.checked os 3 .any (Rows.inspectVerdictsSpec.pre6 enc Try.prog Try.f3 Rows.inspectVerdictsRow.domain false) (Rows.inspectVerdictsSpec.post enc Try.prog Try.f3 false true false false) := by
  refine returnsInHanded_of_change_sized (C := Try.checked) own1 started (by kernel_rfl) Try.func3
    (ChangeSpec.witness6 (enc := enc) (C := Try.checked) false ⟨#[], #[.slice none 0 0], []⟩ 8 (by kernel_rfl) (by kernel_rfl) (by kernel_rfl) (by kernel_rfl)) ?_
  intro W base args ds gs before hval0 hW hcnd hsz0 _
  have hsz : (DataW.weightsEach Try.prog (Try.f3.params.toList ++ Rows.inspectVerdictsSpec.plain.varTypes Try.prog) (ds ++ gs)).all (· ≤ reachBytes) = true := hsz0
  have hval : ∀ (j : Nat) t v, Try.f3.params[j]? = some t → args[j]? = some v → Value.okWide Try.prog W .any base t v := hval0
  have hW' := hW
  obtain ⟨p, q, hA0, hV, rfl, hfz, hnd⟩ := hW
  have hA : DataW.TrodAll enc Try.prog W 0 (fun _ => true) true Try.f3.params.toList args.toList ds p := hA0
  rw [Try.params3] at hA hval hsz
  obtain ⟨v0, vs0, d0, ds0, p0, q0, hargs, rfl, rfl, h0, r0⟩ := trodAll_cons hA
  obtain ⟨rfl, rfl, rfl⟩ := trodAll_nil r0
  obtain rfl : args = #[v0] := by cases args; simp_all
  obtain ⟨rfl, rfl⟩ := trodVars_none hV
  have hv := hval 0 22 v0 rfl rfl
  obtain ⟨a0, len0, cap0, rfl⟩ := okWide_slice Try.underlying22 hv
  have k0 := h0
  have lt0 : ∀ x ∈ p0, x.block < W.heap.size := by obtain ⟨m, hm⟩ := k0; exact DataW.trod_lt m _ _ _ hm
  have wk : Calls Try.prog 3 #[.slice a0 len0 cap0] W fun e w' => e = .returned (.bool true) ∧ Below W.heap.size W w' := by
    refine walk1 W a0 len0 cap0 ?_
    obtain ⟨fuel, hf⟩ := h0
    rcases findings_in hf with h | ⟨x, rs, es, sp, rfl, hl, hr, rfl, hes, hcell⟩
    · exact .inl h
    · right
      simp only [Value.okWide, Try.underlying22, Cell.okWide, Cell.ok] at hv
      obtain ⟨_, _, _, hspot, row, cells, hshape, _⟩ := hv
      have hb : 48 = Try.prog.bytesOf 27 := by kernel_rfl
      have hs := sized_slice hsz (j := 0) (t := 22) (e := 27) (elems := es) (spare := sp) rfl rfl Try.underlying22
      rw [hes, ← hb] at hs
      have hlt := reachBytes_lt
      unfold World.shape? at hshape
      split at hshape
      · rename_i C e' fz hC
        exact ⟨x, rs, C, e', fz, rfl, hspot, hl, hr, by
          have h1 : len0 * 48 ≤ (len0 + sp.length) * 48 := Nat.mul_le_mul_right _ (Nat.le_add_right _ _)
          have h2 : (2 : Nat) ^ 47 = 140737488355328 := rfl
          omega, hC, hcell⟩
      · cases hshape
  clear hA0 hval0 hsz0 hsz
  refine wk.mono fun e W' ⟨he, bel⟩ => ?_
  subst he
  exact ⟨_, rfl, _, _, _, [], _, [], hW', trodAll_mk1 (shut_bool Try.underlying4 _), (trodAll_cons_mk (Below.trod laidOut1 (by kernel_rfl) (of_decide_eq_true (by kernel_rfl)) k0 bel lt0) trodAll_mk0), rfl, bel.frame _, fun h => by cases h⟩
theorem inspectVerdicts_over : Rows.inspectVerdictsRow.holds Try.pinned (OpenSpec.ofChange Rows.inspectVerdictsSpec) :=
  OpenClaim.holds_of_wide 3 Try.f3 rfl rfl rfl rfl rfl rfl rfl ⟨rfl, rfl, rfl, rfl, rfl⟩ rfl rfl rfl rfl rfl (by kernel_rfl) Try.func3 (by kernel_rfl)
    (of_decide_eq_true (by kernel_rfl)) (by unfold Func.isWrapper; first | (rw [if_pos (by decide +kernel)]; kernel_rfl) | (rw [if_neg (by decide +kernel)]; exact ⟨rfl, rfl⟩))
    (fun os started H enc _ => lifted1 os started H enc)
end Go.Proofs.Ytbikpfccdcblfaa.Eng
namespace Go.Proofs.Ytbikpfccdcblfaa
theorem inspectVerdicts_holds : Rows.InspectVerdictsSaid := Eng.inspectVerdicts_over
#print axioms inspectVerdicts_holds
end Go.Proofs.Ytbikpfccdcblfaa
