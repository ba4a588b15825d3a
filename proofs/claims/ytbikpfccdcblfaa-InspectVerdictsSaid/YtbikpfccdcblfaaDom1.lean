/- InspectVerdicts: what the walked code computes, in plain terms. -/
import Derived.Test.YtbikpfccdcblfaaG1
import Derived.IntWalk
namespace Go.Proofs.Ytbikpfccdcblfaa.Eng
open Go Go.Proofs
set_option linter.unusedVariables false
set_option linter.unusedSimpArgs false

/-- A finding. -/
structure FR where
  p : ByteArray
  k : Int
  c : Int
  v : Int
  n : Int
def ext (H H' : Hp) : Prop := H.next ≤ H'.next ∧ ∀ b, b < H.next → H'.obj b = H.obj b
theorem ext.refl (H : Hp) : ext H H := ⟨Nat.le_refl _, fun _ _ => rfl⟩
theorem ext.trans {A B C : Hp} (h : ext A B) (k : ext B C) : ext A C := ⟨Nat.le_trans h.1 k.1, fun b hb => (k.2 b (Nat.lt_of_lt_of_le hb h.1)).trans (h.2 b hb)⟩
theorem ext.new (H : Hp) (o : AObj) : ext H (H.new o) := ⟨Nat.le_succ _, fun b hb => by simp only [Hp.new]; rw [if_neg (by omega)]⟩
theorem ext.cell {H H' : Hp} (h : ext H H') {b : Nat} (hb : b < H.next) (o : Nat) : H'.cell b o = H.cell b o := by unfold Hp.cell; rw [h.2 b hb]
def RowsAt (H : Hp) (b o : Nat) (rs : List FR) : Prop := ∀ i r, rs[i]? = some r → H.cell b (o + i * 5) = some (.string r.p) ∧ H.cell b (o + i * 5 + 1) = some (.int .i64 r.k) ∧ H.cell b (o + i * 5 + 2) = some (.int .i64 r.c) ∧
  H.cell b (o + i * 5 + 3) = some (.int .i64 r.v) ∧ H.cell b (o + i * 5 + 4) = some (.int .i64 r.n)
theorem RowsAt.ext {H H' : Hp} {b o : Nat} {rs : List FR} (h : RowsAt H b o rs) (e : ext H H') (hb : b < H.next) : RowsAt H' b o rs := fun i r hi => by
  obtain ⟨a1, a2, a3, a4, a5⟩ := h i r hi
  exact ⟨(e.cell hb _).trans a1, (e.cell hb _).trans a2, (e.cell hb _).trans a3, (e.cell hb _).trans a4, (e.cell hb _).trans a5⟩
def vmax (x : Int) (rs : List FR) : Int := rs.foldl (fun m r => max m r.k) x
theorem wrap_succ {j n : Nat} (h : j < n) (hn : n < 2 ^ 62) : IntKind.i64.wrap ((j : Int) + 1) = ((j + 1 : Nat) : Int) := by
  rw [IntWalk.i64_in]
  · omega
  · omega

theorem may_new (H : Hp) (e : TypeId) (cs : List Value) (n : Nat) (h : n ≤ cs.length) : (H.new (.cells true e cs)).may H.next 0 n := ⟨e, cs, by simp [Hp.new], by simpa using h⟩
theorem temp_new (H : Hp) (cs vs : List Value) (h : cs.length = vs.length) : ext H ((H.new (.cells true 27 cs)).store H.next 0 vs) := by
  refine ⟨?_, fun b hb => ?_⟩
  · simp [Hp.store, Hp.new, Hp.put]
  · simp only [Hp.store, Hp.new, if_true, Hp.put]
    rw [if_neg (by omega), if_neg (by omega)]

theorem F5_l3 {N b o k : Nat} {rs : List FR} (hn : rs.length < 2 ^ 62) : ∀ (m j : Nat) (x : Int) (H : Hp) (K : Int → Hp → Prop), rs.length - j < m → j ≤ rs.length → b < H.next → RowsAt H b o rs → (∀ H', ext H H' → K (vmax x (rs.drop j)) H') →
    F5.l3 N m x (some ⟨b, o, none⟩) rs.length k (rs.length : Int) (j : Int) H K := by
  intro m
  induction m with
  | zero => intro j x H K h; omega
  | succ m ih =>
    intro j x H K hm hj hb hr hK
    unfold F5.l3 F5.b3
    by_cases hlt : j < rs.length
    · have hd : decide ((j : Int) < (rs.length : Int)) = true := by simpa using hlt
      have hget : rs[j]? = some rs[j] := by simp [hlt]
      obtain ⟨a1, a2, a3, a4, a5⟩ := hr j rs[j] hget
      rw [hd]
      dsimp only [optP]
      have hd2 : (decide (0 ≤ (j : Int)) && true) = true := by simp
      rw [gd_iff]
      refine ⟨hd2, _, by simpa using a1, _, by simpa using a2, _, by simpa using a3, _, by simpa using a4, _, by simpa using a5, ?_, rs[j].k, ?_, ?_⟩
      · exact may_new _ _ _ _ (by simp)
      · simp [Hp.store, Hp.new, Hp.cell, Hp.put, setL]
      · rw [wrap_succ hlt hn]
        have e := temp_new H [.string ((⟨#[]⟩ : ByteArray)), .int .i64 0, .int .i64 0, .int .i64 0, .int .i64 0] [.string rs[j].p, .int .i64 rs[j].k, .int .i64 rs[j].c, .int .i64 rs[j].v, .int .i64 rs[j].n] rfl
        refine ih (j + 1) _ _ K (by omega) hlt (Nat.lt_of_lt_of_le hb e.1) (hr.ext e hb) fun H' h' => ?_
        have : rs.drop j = rs[j] :: rs.drop (j + 1) := by simp
        rw [this] at hK
        exact hK H' (e.trans h')
    · have hd : decide ((j : Int) < (rs.length : Int)) = false := by simpa using hlt
      rw [hd]
      have : rs.drop j = [] := List.drop_eq_nil_of_le (by omega)
      rw [this] at hK
      exact hK H (ext.refl H)
theorem F5_some {N b o k : Nat} {rs : List FR} (hN : rs.length < N) (hn : rs.length < 2 ^ 62) {H : Hp} {K : Int → Hp → Prop} (hb : b < H.next) (hr : RowsAt H b o rs) (hK : ∀ H', ext H H' → K (vmax 0 rs) H') :
    F5.P N (some ⟨b, o, none⟩) rs.length k H K := by
  unfold F5.P
  exact F5_l3 hn N 0 0 H _ (by omega) (by omega) hb hr (by simpa using hK)
theorem F5_none {N k : Nat} {H : Hp} {K : Int → Hp → Prop} (hK : K 0 H) : F5.P (N + 1) none 0 k H K := by
  unfold F5.P F5.l3 F5.b3
  exact hK

theorem F6_l4 {N b o k b' o' k' : Nat} {rs : List FR} (hn : rs.length < 2 ^ 62) {H : Hp} (hr : RowsAt H b o rs) (hr' : RowsAt H b' o' rs) {Kx : Hp → Prop} {Kr : Bool → Hp → Prop} (hK : Kx H) : ∀ (m j : Nat), rs.length - j < m → j ≤ rs.length →
    F6.l4 N m (some ⟨b, o, none⟩) rs.length k (some ⟨b', o', none⟩) rs.length k' (j : Int) H Kx Kr := by
  intro m
  induction m with
  | zero => intro j h; omega
  | succ m ih =>
    intro j hm hj
    unfold F6.l4 F6.b4
    by_cases hlt : j < rs.length
    · have hd : decide ((j : Int) < (rs.length : Int)) = true := by simpa using hlt
      have hget : rs[j]? = some rs[j] := by simp [hlt]
      obtain ⟨a1, a2, a3, a4, a5⟩ := hr j rs[j] hget
      obtain ⟨c1, c2, c3, c4, c5⟩ := hr' j rs[j] hget
      rw [hd]
      have hd2 : (decide (0 ≤ (j : Int)) && true) = true := by simp
      dsimp only [optP]
      rw [gd_iff]
      refine ⟨hd2, _, by simpa using a1, ?_⟩
      rw [gd_iff]
      refine ⟨hd2, _, by simpa using c1, ?_⟩
      rw [show (!decide (rs[j].p = rs[j].p)) = false by simp]
      dsimp only
      rw [gd_iff]
      refine ⟨hd2, _, by simpa using a2, ?_⟩
      rw [gd_iff]
      refine ⟨hd2, _, by simpa using c2, ?_⟩
      rw [show (!decide (rs[j].k = rs[j].k)) = false by simp]
      dsimp only
      rw [gd_iff]
      refine ⟨hd2, _, by simpa using a3, ?_⟩
      unfold F10.Q
      dsimp only
      rw [gd_iff]
      refine ⟨hd2, _, by simpa using c3, ?_⟩
      rw [show (!decide (rs[j].c = rs[j].c)) = false by simp]
      dsimp only
      rw [gd_iff]
      refine ⟨hd2, _, by simpa using a4, ?_⟩
      rw [gd_iff]
      refine ⟨hd2, _, by simpa using c4, ?_⟩
      rw [show (!decide (rs[j].v = rs[j].v)) = false by simp]
      dsimp only
      rw [gd_iff]
      refine ⟨hd2, _, by simpa using a5, ?_⟩
      rw [gd_iff]
      refine ⟨hd2, _, by simpa using c5, ?_⟩
      rw [show (!decide (rs[j].n = rs[j].n)) = false by simp]
      dsimp only
      rw [wrap_succ hlt hn]
      exact ih (j + 1) (by omega) hlt
    · have hd : decide ((j : Int) < (rs.length : Int)) = false := by simpa using hlt
      rw [hd]
      exact hK
theorem F6_some {N b o k b' o' k' : Nat} {rs : List FR} (hN : rs.length < N) (hn : rs.length < 2 ^ 62) {H : Hp} (hr : RowsAt H b o rs) (hr' : RowsAt H b' o' rs) {K : Bool → Hp → Prop} (hK : K true H) :
    F6.P N (some ⟨b, o, none⟩) rs.length k (some ⟨b', o', none⟩) rs.length k' H K := by
  unfold F6.P
  rw [show (!decide (((rs.length : Nat) : Int) = ((rs.length : Nat) : Int))) = false by simp]
  exact F6_l4 hn hr hr' hK N 0 (by omega) (by omega)
theorem F6_nil {N k k' : Nat} {a : Option Addr} {H : Hp} {K : Bool → Hp → Prop} (hK : K true H) : F6.P (N + 1) none 0 k a 0 k' H K := by
  unfold F6.P F6.l4 F6.b4
  exact hK

theorem vmax_ge (rs : List FR) : ∀ x, x ≤ vmax x rs ∧ ∀ r ∈ rs, r.k ≤ vmax x rs := by
  induction rs with
  | nil => exact fun x => ⟨Int.le_refl _, fun r hr => by cases hr⟩
  | cons r rs ih =>
    intro x
    obtain ⟨h1, h2⟩ := ih (max x r.k)
    have e : vmax x (r :: rs) = vmax (max x r.k) rs := rfl
    rw [e]
    refine ⟨by omega, fun r' hr' => ?_⟩
    rcases List.mem_cons.1 hr' with rfl | hr'
    · omega
    · exact h2 r' hr'
theorem vmax_in (rs : List FR) : ∀ x, vmax x rs = x ∨ ∃ r ∈ rs, vmax x rs = r.k := by
  induction rs with
  | nil => exact fun x => .inl rfl
  | cons r rs ih =>
    intro x
    have e : vmax x (r :: rs) = vmax (max x r.k) rs := rfl
    rw [e]
    rcases ih (max x r.k) with h | ⟨r', h1, h2⟩
    · rcases Int.le_total x r.k with hx | hx
      · exact .inr ⟨r, List.mem_cons_self, by rw [h]; omega⟩
      · exact .inl (by rw [h]; omega)
    · exact .inr ⟨r', List.mem_cons_of_mem _ h1, h2⟩

/-- is the verdict there? -/
theorem F3_l7 {N b o k : Nat} {rs : List FR} (hn : rs.length < 2 ^ 62) {H : Hp} (hr : RowsAt H b o rs) {a3 : Option Addr} {a3n a3k : Nat} {v : Int} (hv : ∀ r ∈ rs, r.k ≤ v) {Kx : Option Addr → Nat → Nat → Bool → Hp → Prop} {Kr : Bool → Hp → Prop} : ∀ (m j : Nat) (t : Bool), rs.length - j < m → j ≤ rs.length →
    Kx a3 a3n a3k (t || (rs.drop j).any fun r => decide (r.k = v)) H → F3.l7 N m (some ⟨b, o, none⟩) rs.length k a3 a3n a3k v t (j : Int) H Kx Kr := by
  intro m
  induction m with
  | zero => intro j t h; omega
  | succ m ih =>
    intro j t hm hj hK
    unfold F3.l7 F3.b7
    by_cases hlt : j < rs.length
    · have hd : decide ((j : Int) < (rs.length : Int)) = true := by simpa using hlt
      have hget : rs[j]? = some rs[j] := by simp [hlt]
      obtain ⟨a1, a2, a3, a4, a5⟩ := hr j rs[j] hget
      rw [hd]
      have hd2 : (decide (0 ≤ (j : Int)) && true) = true := by simp
      have hle := hv rs[j] (List.getElem_mem hlt)
      have hdr : rs.drop j = rs[j] :: rs.drop (j + 1) := by simp
      rw [hdr, List.any_cons] at hK
      dsimp only [optP]
      rw [gd_iff]
      refine ⟨hd2, _, by simpa using a2, ?_⟩
      rw [show decide (v < rs[j].k) = false by simpa using hle]
      dsimp only
      rw [wrap_succ hlt hn]
      cases t with
      | true => exact ih (j + 1) true (by omega) hlt (by simpa using hK)
      | false =>
        dsimp only
        rw [gd_iff]
        refine ⟨hd2, _, by simpa using a2, ?_⟩
        exact ih (j + 1) _ (by omega) hlt (by simpa using hK)
    · have hd : decide ((j : Int) < (rs.length : Int)) = false := by simpa using hlt
      rw [hd]
      have hdr : rs.drop j = [] := List.drop_eq_nil_of_le (by omega)
      rw [hdr] at hK
      simpa using hK
/-- the list written over -/
def OwnAt (H : Hp) (b : Nat) (n : Nat) : Prop := ∃ e cs, H.obj b = some (.cells true e cs) ∧ cs.length = n
def setK (rs : List FR) (j : Nat) : List FR := (rs.zipIdx).map fun (r, i) => if i < j then { r with k := 6 } else r
theorem setK_get (rs : List FR) (j i : Nat) : (setK rs j)[i]? = (rs[i]?).map fun r => if i < j then { r with k := 6 } else r := by
  simp [setK, List.getElem?_zipIdx]
  cases rs[i]? <;> simp
theorem store_cell {H : Hp} {b n o : Nat} (h : OwnAt H b n) (ho : o < n) (v : Value) (o' : Nat) : (H.store b o [v]).cell b o' = if o' = o then some v else H.cell b o' := by
  obtain ⟨e, cs, h1, h2⟩ := h
  simp only [Hp.store, h1, Hp.cell, Hp.put, if_true, setL]
  split
  · rename_i e; subst e; simp [h2, ho]
  · rename_i e; rw [List.getElem?_set_ne (fun x => e x.symm)]
theorem store_own {H : Hp} {b n o : Nat} (h : OwnAt H b n) (v : Value) : OwnAt (H.store b o [v]) b n := by
  obtain ⟨e, cs, h1, h2⟩ := h
  exact ⟨e, cs.set o v, by simp [Hp.store, h1, Hp.put, setL], by simpa using h2⟩
theorem F3_l13 {N b k : Nat} {rs : List FR} (hn : rs.length < 2 ^ 62) {t : Bool} {Kx : Option Addr → Nat → Nat → Bool → Hp → Prop} (nx : Nat) : ∀ (m j : Nat) (H : Hp), rs.length - j < m → j ≤ rs.length → H.next = nx → OwnAt H b (rs.length * 5) → RowsAt H b 0 (setK rs j) →
    (∀ H', H'.next = nx → RowsAt H' b 0 (setK rs rs.length) → Kx (some ⟨b, 0, none⟩) rs.length k t H') → F3.l13 N m (some ⟨b, 0, none⟩) rs.length k t (j : Int) H Kx := by
  intro m
  induction m with
  | zero => intro j H h; omega
  | succ m ih =>
    intro j H hm hj hnx ho hr hK
    unfold F3.l13 F3.b13
    by_cases hlt : j < rs.length
    · have hd : decide ((j : Int) < (rs.length : Int)) = true := by simpa using hlt
      rw [hd]
      have hd2 : (decide (0 ≤ (j : Int)) && true) = true := by simp
      dsimp only [optP]
      rw [gd_iff]
      refine ⟨hd2, ?_, ?_⟩
      · obtain ⟨e, cs, h1, h2⟩ := ho
        exact ⟨e, cs, h1, by simp; omega⟩
      · rw [wrap_succ hlt hn]
        have hat : 0 + (j : Int).toNat * 5 + 1 = j * 5 + 1 := by simp
        rw [hat]
        have hin : j * 5 + 1 < rs.length * 5 := by omega
        refine ih (j + 1) _ (by omega) hlt ?_ (store_own ho _) (fun i r hi => ?_) hK
        · obtain ⟨e, cs, h1, h2⟩ := ho
          simpa [Hp.store, h1, Hp.put] using hnx
        · rw [setK_get] at hi
          cases hg : rs[i]? with
          | none => rw [hg] at hi; cases hi
          | some r0 =>
            rw [hg] at hi
            simp only [Option.map_some, Option.some.injEq] at hi
            have hr0 := hr i (if i < j then { r0 with k := 6 } else r0) (by rw [setK_get, hg]; rfl)
            have cn : ∀ x, x ≠ j * 5 + 1 → (H.store b (j * 5 + 1) [.int .i64 6]).cell b x = H.cell b x := fun x hx => by rw [store_cell ho hin, if_neg hx]
            by_cases hij : i = j
            · subst hij
              simp only [Nat.lt_irrefl, if_false] at hr0
              simp only [Nat.lt_succ_self, if_true] at hi
              subst hi
              refine ⟨(cn _ (by omega)).trans hr0.1, ?_, (cn _ (by omega)).trans hr0.2.2.1, (cn _ (by omega)).trans hr0.2.2.2.1, (cn _ (by omega)).trans hr0.2.2.2.2⟩
              rw [store_cell ho hin, if_pos (by omega)]
            · have hc : (i < j + 1) ↔ (i < j) := by omega
              simp only [hc] at hi
              subst hi
              exact ⟨(cn _ (by omega)).trans hr0.1, (cn _ (by omega)).trans hr0.2.1, (cn _ (by omega)).trans hr0.2.2.1, (cn _ (by omega)).trans hr0.2.2.2.1, (cn _ (by omega)).trans hr0.2.2.2.2⟩
    · have hd : decide ((j : Int) < (rs.length : Int)) = false := by simpa using hlt
      rw [hd]
      have : j = rs.length := by omega
      subst this
      exact hK H hnx hr
theorem setK_all (rs : List FR) : ∀ r ∈ setK rs rs.length, r.k = 6 := by
  intro r hr
  obtain ⟨i, hi⟩ := List.mem_iff_getElem?.1 hr
  rw [setK_get] at hi
  cases hg : rs[i]? with
  | none => rw [hg] at hi; cases hi
  | some r0 =>
    rw [hg] at hi
    have hlt : i < rs.length := (List.getElem?_eq_some_iff.1 hg).1
    simp only [Option.map_some, Option.some.injEq, hlt, if_true] at hi
    rw [← hi]
theorem setK_len (rs : List FR) (j : Nat) : (setK rs j).length = rs.length := by simp [setK]
theorem any_max (rs : List FR) : (decide (vmax 0 rs = 0) || rs.any fun r => decide (r.k = vmax 0 rs)) = true := by
  rcases vmax_in rs 0 with h | ⟨r, h1, h2⟩
  · simp [h]
  · have : (rs.any fun r => decide (r.k = vmax 0 rs)) = true := List.any_eq_true.2 ⟨r, h1, by simp [h2]⟩
    rw [this]; simp
theorem vmax_six {rs : List FR} (h : ∀ r ∈ rs, r.k = 6) (hn : 0 < rs.length) : vmax 0 rs = 6 := by
  rcases vmax_in rs 0 with h0 | ⟨r, h1, h2⟩
  · have h2 := (vmax_ge rs 0).2 rs[0] (List.getElem_mem hn)
    rw [h rs[0] (List.getElem_mem hn)] at h2
    omega
  · rw [h2, h r h1]
/-- The copy's cells. -/
def cellsOf (rs : List FR) : List Value := rs.flatMap fun r => [.string r.p, .int .i64 r.k, .int .i64 r.c, .int .i64 r.v, .int .i64 r.n]
theorem cellsOf_get : ∀ (rs : List FR) (i : Nat) (r : FR), rs[i]? = some r → (cellsOf rs)[i * 5]? = some (.string r.p) ∧ (cellsOf rs)[i * 5 + 1]? = some (.int .i64 r.k) ∧ (cellsOf rs)[i * 5 + 2]? = some (.int .i64 r.c) ∧
    (cellsOf rs)[i * 5 + 3]? = some (.int .i64 r.v) ∧ (cellsOf rs)[i * 5 + 4]? = some (.int .i64 r.n)
  | [], _, _, h => by simp at h
  | r :: rs, 0, _, h => by
    simp only [List.getElem?_cons_zero, Option.some.injEq] at h
    subst h
    simp [cellsOf]
  | q :: rs, i + 1, r, h => by
    have := cellsOf_get rs i r (by simpa using h)
    have e : cellsOf (q :: rs) = [.string q.p, .int .i64 q.k, .int .i64 q.c, .int .i64 q.v, .int .i64 q.n] ++ cellsOf rs := by simp [cellsOf]
    rw [e]
    have g : ∀ x, ([Value.string q.p, .int .i64 q.k, .int .i64 q.c, .int .i64 q.v, .int .i64 q.n] ++ cellsOf rs)[(i + 1) * 5 + x]? = (cellsOf rs)[i * 5 + x]? := fun x => by
      rw [List.getElem?_append_right (by simp; omega)]
      congr 1
      simp; omega
    exact ⟨(g 0).trans this.1, (g 1).trans this.2.1, (g 2).trans this.2.2.1, (g 3).trans this.2.2.2.1, (g 4).trans this.2.2.2.2⟩
theorem cellsOf_len (rs : List FR) : (cellsOf rs).length = rs.length * 5 := by
  induction rs with
  | nil => rfl
  | cons r rs ih =>
    have e : cellsOf (r :: rs) = [.string r.p, .int .i64 r.k, .int .i64 r.c, .int .i64 r.v, .int .i64 r.n] ++ cellsOf rs := by simp [cellsOf]
    rw [e, List.length_append, ih]; simp; omega
/-- The input: one row of findings, from cell 0 of block 0. -/
def inH (rs : List FR) : Hp := ⟨fun b => if b = 0 then some (.cells false 27 (cellsOf rs)) else none, 1⟩
theorem rows_of_cells {H : Hp} {b : Nat} {own : Bool} {rs : List FR} (h : H.obj b = some (.cells own 27 (cellsOf rs))) : RowsAt H b 0 rs := fun i r hi => by
  have := cellsOf_get rs i r hi
  simp only [Hp.cell, h, Nat.zero_add]
  exact this
theorem F3_ok {rs : List FR} {k : Nat} (hn : rs.length * 48 ≤ 140737488355328) {K : Bool → Hp → Prop} (hK : ∀ H, K true H) : F3.P big (some ⟨0, 0, none⟩) rs.length k (inH rs) K := by
  have h62 : rs.length < 2 ^ 62 := by omega
  have hbig : rs.length < big := by unfold big; omega
  have h0 : (inH rs).obj 0 = some (.cells false 27 (cellsOf rs)) := rfl
  unfold F3.P
  dsimp only
  refine ⟨⟨_, _, _, h0, by rw [cellsOf_len]; omega⟩, ?_⟩
  cases hz : rs.length with
  | zero =>
    rw [show Nat.beq 0 0 = true from rfl]
    dsimp only
    unfold F3.j2
    have e : rs = [] := List.eq_nil_of_length_eq_zero hz
    subst e
    rw [show big = 18446744073709551615 + 1 from rfl]
    refine F5_none ?_
    refine F6_nil ?_
    dsimp only [Bool.not_true]
    rw [show decide ((0 : Int) < 0) = false from rfl, show decide ((0 : Int) = 0) = true from rfl]
    dsimp only
    unfold F3.l7 F3.b7
    dsimp only [List.length_nil]
    rw [show decide ((0 : Int) < ((0 : Nat) : Int)) = false from rfl]
    dsimp only
    unfold F3.l13 F3.b13
    rw [show decide ((0 : Int) < ((0 : Nat) : Int)) = false from rfl]
    dsimp only
    exact hK _
  | succ n1 =>
    rw [← hz]
    rw [show Nat.beq rs.length 0 = false by rw [hz]; rfl]
    dsimp only
    rw [gd_iff]
    refine ⟨decide_eq_true (by unfold room; exact hn), ?_⟩
    have ht : (inH rs).take 0 0 (rs.length * 5) = cellsOf rs := by
      simp only [Hp.take, Hp.row, h0, List.drop_zero]
      rw [List.take_of_length_le (by rw [cellsOf_len]; omega)]
    rw [ht]
    have h1 : ((inH rs).new (.cells true 27 (cellsOf rs))).obj 1 = some (.cells true 27 (cellsOf rs)) := rfl
    have h1' : ((inH rs).new (.cells true 27 (cellsOf rs))).obj 0 = some (.cells false 27 (cellsOf rs)) := rfl
    generalize hH : (inH rs).new (.cells true 27 (cellsOf rs)) = H1 at h1 h1'
    have hnx : H1.next = 2 := by rw [← hH]; rfl
    show F3.j2 big (some ⟨0, 0, none⟩) rs.length k (some ⟨1, 0, none⟩) rs.length 5 H1 _
    unfold F3.j2
    have r1 := rows_of_cells h1
    have r0 := rows_of_cells h1'
    refine F5_some hbig h62 (by omega) r1 fun H2 e2 => ?_
    have r1' := r1.ext e2 (by omega)
    have r0' := r0.ext e2 (by omega)
    refine F6_some hbig h62 r1' r0' ?_
    dsimp only [Bool.not_true]
    have hv := vmax_ge rs 0
    rw [show decide (vmax 0 rs < 0) = false by simpa using hv.1]
    dsimp only
    refine F3_l7 h62 r0' hv.2 big 0 _ (by omega) (by omega) ?_
    rw [List.drop_zero, any_max]
    have ho : OwnAt H2 1 (rs.length * 5) := ⟨27, cellsOf rs, by rw [e2.2 1 (by omega)]; exact h1, cellsOf_len rs⟩
    have hs0 : setK rs 0 = rs := by
      apply List.ext_getElem?
      intro i
      rw [setK_get]
      cases rs[i]? <;> simp
    refine F3_l13 h62 H2.next big 0 H2 (by omega) (by omega) rfl ho (by rw [hs0]; exact r1') fun H3 hx r3 => ?_
    rw [show decide ((0 : Int) < ((rs.length : Nat) : Int)) = true by simp; omega]
    dsimp only
    have hl := setK_len rs rs.length
    have goal := F5_some (N := big) (b := 1) (o := 0) (k := 5) (rs := setK rs rs.length) (by rw [hl]; exact hbig) (by rw [hl]; exact h62) (H := H3) (K := fun r12 H13 =>
      (match (!decide (r12 = 6) : Bool) with
      | true => K false H13
      | false => K true H13)) (by rw [hx]; have := e2.1; omega) r3 fun H' _ => by
        rw [vmax_six (setK_all rs) (by rw [hl]; omega)]
        exact hK _
    rw [hl] at goal
    exact goal
theorem F3_nil {k : Nat} {K : Bool → Hp → Prop} (hK : ∀ H, K true H) (H : Hp) : F3.P big none 0 k H K := by
  unfold F3.P
  dsimp only
  unfold F3.j2
  rw [show big = 18446744073709551615 + 1 from rfl]
  refine F5_none ?_
  refine F6_nil ?_
  dsimp only [Bool.not_true]
  rw [show decide ((0 : Int) < 0) = false from rfl, show decide ((0 : Int) = 0) = true from rfl]
  dsimp only
  unfold F3.l7 F3.b7
  rw [show decide ((0 : Int) < ((0 : Nat) : Int)) = false from rfl]
  dsimp only
  unfold F3.l13 F3.b13
  rw [show decide ((0 : Int) < ((0 : Nat) : Int)) = false from rfl]
  dsimp only
  exact hK _
end Go.Proofs.Ytbikpfccdcblfaa.Eng
