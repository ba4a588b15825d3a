/- Small facts for the plain laws: numbers, guards, ranges. -/
import Derived.Test.YtbikpfccdcblfaaKd
import Derived.IntWalk
import Derived.Test.YtbikpfccdcblfaaKe
namespace Go.Proofs.Ytbikpfccdcblfaa.Eng
open Go
set_option linter.unusedVariables false

theorem i64n {n : Int} (h1 : 0 ≤ n) (h2 : n ≤ 9223372036854775807) : IntKind.i64.wrap n = n := Go.IntWalk.i64_in n ⟨by omega, h2⟩
theorem matT {b : Bool} {p q : Prop} (h : b = true) (hp : p) : (match (generalizing := false) b with | true => p | false => q) := by subst h; exact hp
theorem matF {b : Bool} {p q : Prop} (h : b = false) (hp : q) : (match (generalizing := false) b with | true => p | false => q) := by subst h; exact hp
/-- An element is read. -/
theorem at_ok {α : Type} {xs : List α} {i : Nat} {F : α → Prop} (h : i < xs.length) (hf : F xs[i]) : gd (decide (0 ≤ (i : Int)) && decide ((i : Int) < ((xs.length : Nat) : Int))) (optP (xs[(i : Int).toNat]?) F) := by
  refine gd_iff.2 ⟨by simp [h], ?_⟩
  rw [Int.toNat_natCast, List.getElem?_eq_getElem h]
  exact hf
theorem atI_ok {α : Type} {xs : List α} {j : Int} {F : α → Prop} (h0 : 0 ≤ j) (h : j.toNat < xs.length) (hf : F xs[j.toNat]) : gd (decide (0 ≤ j) && decide (j < ((xs.length : Nat) : Int))) (optP (xs[j.toNat]?) F) := by
  refine gd_iff.2 ⟨by simp; omega, ?_⟩
  rw [List.getElem?_eq_getElem h]
  exact hf
/-- The next of a list's rest. -/
theorem drop_next {α : Type} {xs : List α} {i : Nat} {x : α} {r : List α} (h : xs.drop i = x :: r) : ∃ h1 : i < xs.length, xs[i] = x ∧ xs.drop (i + 1) = r := by
  have h1 : i < xs.length := by
    rcases Nat.lt_or_ge i xs.length with h1 | h1
    · exact h1
    · rw [List.drop_eq_nil_of_le h1] at h; cases h
  refine ⟨h1, ?_⟩
  rw [List.drop_eq_getElem_cons h1] at h
  exact ⟨(List.cons.inj h).1, (List.cons.inj h).2⟩
theorem drop_end {α : Type} {xs : List α} {i : Nat} (h : xs.drop i = []) : xs.length ≤ i := by simpa using h
theorem lt_dec {i n : Nat} (h : i < n) : decide ((i : Int) < ((n : Nat) : Int)) = true := by simp [h]
theorem ge_dec {i n : Nat} (h : n ≤ i) : decide ((i : Int) < ((n : Nat) : Int)) = false := by simp; omega
theorem next_i {i n : Nat} (h : i < n) (hn : n ≤ 4611686018427387904) : IntKind.i64.wrap ((i : Int) + 1) = ((i + 1 : Nat) : Int) := by rw [i64n (by omega) (by omega)]; simp
end Go.Proofs.Ytbikpfccdcblfaa.Eng
/- RebalanceLeast: what the small functions compute. -/
namespace Go.Proofs.Ytbikpfccdcblfaa.Eng
open Go
set_option linter.unusedVariables false

theorem big_lt {n : Nat} (h : n ≤ 4611686018427387904) : n < big := by unfold big; omega

/-! parts: how many partitions -/
def nodesOf (c : D30) : List D52 := c.2.2.2.2.2.2.2.2.2.2.2.2.2.2.2.2.2.2.2.2.2.2.1
def partsF (ns : List D52) : Nat := (ns.map fun n => n.2.1.length).sum
theorem T25_l3 {N : Nat} {ns : List D52} (hn : ns.length ≤ 4611686018427387904) {k : Int → Prop} : ∀ (r : List D52) (i a m : Nat), ns.drop i = r → r.length < m → a + partsF r ≤ 4611686018427387904 → k ((a + partsF r : Nat) : Int) → T25f.l3 N ns ((ns.length : Nat) : Int) m a i k
  | [], i, a, m + 1, hd, hm, hb, hk => matF (ge_dec (drop_end hd)) (by simpa [partsF] using hk)
  | x :: r, i, a, m + 1, hd, hm, hb, hk => by
    obtain ⟨h1, h2, h3⟩ := drop_next hd
    refine matT (lt_dec h1) (at_ok h1 ?_)
    rw [h2]
    have e : partsF (x :: r) = x.2.1.length + partsF r := by simp [partsF]
    rw [e] at hb hk
    show T25f.l3 N ns _ m (IntKind.i64.wrap ((a : Int) + ((x.2.1.length : Nat) : Int))) (IntKind.i64.wrap ((i : Int) + 1)) k
    rw [next_i h1 hn, i64n (by omega) (by omega), show (a : Int) + ((x.2.1.length : Nat) : Int) = ((a + x.2.1.length : Nat) : Int) by simp]
    exact T25_l3 hn r (i + 1) (a + x.2.1.length) m h3 (by simpa using hm) (by omega) (by rw [Nat.add_assoc]; exact hk)
theorem T25_ok {c : D30} {k : Int → Prop} (hn : (nodesOf c).length ≤ 4611686018427387904) (hb : partsF (nodesOf c) ≤ 4611686018427387904) (hk : k ((partsF (nodesOf c) : Nat) : Int)) : T25f.P big c k :=
  T25_l3 hn (nodesOf c) 0 0 big rfl (big_lt hn) (by simpa using hb) (by simpa using hk)

/-! placeOf: where in a list -/
def placeF (xs : List Int) (x : Int) : Int := match xs.findIdx? (fun y => decide (y = x)) with | some i => (i : Int) | none => -1
theorem T15_l2 {N : Nat} {xs : List Int} {x : Int} (hn : xs.length ≤ 4611686018427387904) {k0 : Prop} {k : Int → Prop} : ∀ (r : List Int) (i m : Nat), xs.drop i = r → r.length < m → (match r.findIdx? (fun y => decide (y = x)) with | some j => k ((i + j : Nat) : Int) | none => k0) → T15f.l2 N xs x m i k0 k
  | [], i, m + 1, hd, hm, hk => matF (ge_dec (drop_end hd)) hk
  | y :: r, i, m + 1, hd, hm, hk => by
    obtain ⟨h1, h2, h3⟩ := drop_next hd
    refine matT (lt_dec h1) (at_ok h1 ?_)
    rw [h2]
    rw [List.findIdx?_cons] at hk
    by_cases e : y = x
    · refine matT (decide_eq_true e) ?_
      rw [if_pos (decide_eq_true e)] at hk
      simpa using hk
    · refine matF (decide_eq_false e) ?_
      rw [if_neg (by simp [e])] at hk
      show T15f.l2 N xs x m (IntKind.i64.wrap ((i : Int) + 1)) k0 k
      rw [next_i h1 hn]
      refine T15_l2 hn r (i + 1) m h3 (by simpa using hm) ?_
      cases hf : r.findIdx? (fun y => decide (y = x)) with
      | none => rw [hf] at hk; exact hk
      | some j =>
        rw [hf] at hk
        have hk : k ((i + (j + 1) : Nat) : Int) := hk
        show k ((i + 1 + j : Nat) : Int)
        rwa [show i + 1 + j = i + (j + 1) by omega]
theorem T15_ok {xs : List Int} {x : Int} {k : Int → Prop} (hn : xs.length ≤ 4611686018427387904) (hk : k (placeF xs x)) : T15f.P big xs x k := by
  refine T15_l2 hn xs 0 big rfl (big_lt hn) ?_
  unfold placeF at hk
  cases hf : xs.findIdx? (fun y => decide (y = x)) with
  | none => rw [hf] at hk; exact hk
  | some j => rw [hf] at hk; simpa using hk
/-! within -/
theorem T21_ok {a b c : Int} {k : Bool → Prop} (hk : k (decide (b ≤ a ∧ a ≤ c))) : T21f.P big a b c k := by
  unfold T21f.P
  by_cases h : b ≤ a
  · refine matT (decide_eq_true h) ?_
    simpa [h] using hk
  · refine matF (decide_eq_false h) ?_
    simpa [h] using hk

/-! round: the partitions that a partition's replicas lie at -/
def seenF (home : List Int) (t : List Int) (p : Nat) : Bool := t.any fun q => decide (home[q.toNat]? = home[p]?)
def roundG (home : List Int) (part : Nat) (k : Int) : Nat → Nat → List Int → List Int
  | 0, _, t => t
  | n + 1, s, t => if (t.length : Int) < k then
      (if seenF home t ((part + s) % home.length) then roundG home part k n (s + 1) t else roundG home part k n (s + 1) (t ++ [(((part + s) % home.length : Nat) : Int)]))
    else t
def roundF (home : List Int) (part : Nat) (k : Int) : List Int := roundG home part k home.length 0 []
def inR0 (home t : List Int) : Prop := ∀ q ∈ t, 0 ≤ q ∧ q.toNat < home.length
theorem T22_l7 {N : Nat} {home t : List Int} {a1 k a8 : Int} {p : Nat} (hp : p < home.length) (ht : inR0 home t) (hn : t.length ≤ 4611686018427387904) {kx1 kx2 : Prop} : ∀ (r : List Int) (i m : Nat), t.drop i = r → r.length < m → (if seenF home r p then kx1 else kx2) → T22f.l7 N home a1 k t a8 p t ((t.length : Nat) : Int) m i kx1 kx2
  | [], i, m + 1, hd, hm, hk => matF (ge_dec (drop_end hd)) hk
  | q :: r, i, m + 1, hd, hm, hk => by
    obtain ⟨h1, h2, h3⟩ := drop_next hd
    refine matT (lt_dec h1) (at_ok h1 ?_)
    rw [h2]
    obtain ⟨q0, q1⟩ := ht q (h2 ▸ List.getElem_mem h1)
    refine atI_ok q0 q1 (at_ok hp ?_)
    have es : seenF home (q :: r) p = (decide (home[q.toNat] = home[p]) || seenF home r p) := by
      simp [seenF, q1, hp]
    rw [es] at hk
    by_cases e : home[q.toNat] = home[p]
    · refine matT (decide_eq_true e) ?_
      simpa [e] using hk
    · refine matF (decide_eq_false e) ?_
      show T22f.l7 N home a1 k t a8 p t _ m (IntKind.i64.wrap ((i : Int) + 1)) kx1 kx2
      rw [next_i h1 hn]
      refine T22_l7 hp ht hn r (i + 1) m h3 (by simpa using hm) ?_
      simpa [e] using hk
theorem inR0.snoc {home t : List Int} (h : inR0 home t) {p : Nat} (hp : p < home.length) : inR0 home (t ++ [(p : Int)]) := fun q hq => by
  rcases List.mem_append.1 hq with hq | hq
  · exact h q hq
  · rw [List.mem_singleton] at hq; subst hq; exact ⟨by omega, by simpa using hp⟩
theorem T22_l3 {home : List Int} {part : Nat} {k : Int} (hl : home.length ≤ 1048576) (hpart : part < home.length) {kx : List Int → Prop} : ∀ (n s m : Nat) (t : List Int), s + n = home.length → n < m → inR0 home t → t.length ≤ s → kx (roundG home part k n s t) → T22f.l3 big home part k m t s kx
  | 0, s, m + 1, t, hs, hm, ht, hle, hk => matF (ge_dec (by omega)) hk
  | n + 1, s, m + 1, t, hs, hm, ht, hle, hk => by
    have h1 : s < home.length := by omega
    refine matT (lt_dec h1) ?_
    unfold roundG at hk
    by_cases c : (t.length : Int) < k
    · rw [if_pos c] at hk
      refine matT (decide_eq_true c) ?_
      have hp : (part + s) % home.length < home.length := Nat.mod_lt _ (by omega)
      refine gd_iff.2 ⟨by rw [Bool.not_eq_true', decide_eq_false_iff_not]; omega, ?_⟩
      have ew : IntKind.i64.wrap ((part : Int) + (s : Int)) = ((part + s : Nat) : Int) := by rw [i64n (by omega) (by omega)]; simp
      have em : (IntKind.i64.wrap ((part : Int) + (s : Int))).tmod ((home.length : Nat) : Int) = (((part + s) % home.length : Nat) : Int) := by
        rw [ew, Int.tmod_eq_emod_of_nonneg (Int.natCast_nonneg _)]; simp
      show T22f.l7 big home part k t s ((IntKind.i64.wrap ((part : Int) + (s : Int))).tmod ((home.length : Nat) : Int)) t ((t.length : Nat) : Int) big 0 _ _
      rw [em]
      refine T22_l7 hp ht (by omega) t 0 big rfl (big_lt (by omega)) ?_
      cases hc : seenF home t ((part + s) % home.length) with
      | true =>
        rw [hc] at hk
        rw [if_pos rfl] at hk ⊢
        show T22f.l3 big home part k m t (IntKind.i64.wrap ((s : Int) + 1)) kx
        rw [next_i h1 (by omega)]
        exact T22_l3 hl hpart n (s + 1) m t (by omega) (by omega) ht (by omega) hk
      | false =>
        rw [hc] at hk
        rw [if_neg (by simp)] at hk ⊢
        refine gd_iff.2 ⟨by simp [room]; omega, ?_⟩
        show T22f.l3 big home part k m (t ++ [(((part + s) % home.length : Nat) : Int)]) (IntKind.i64.wrap ((s : Int) + 1)) kx
        rw [next_i h1 (by omega)]
        exact T22_l3 hl hpart n (s + 1) m _ (by omega) (by omega) (ht.snoc hp) (by simp; omega) hk
    · rw [if_neg c] at hk
      exact matF (decide_eq_false c) hk
theorem T22_ok {home : List Int} {part : Nat} {k : Int} (hl : home.length ≤ 1048576) (hpart : part < home.length) {kx : List Int → Prop} (hk : kx (roundF home part k)) : T22f.P big home part k kx :=
  T22_l3 hl hpart home.length 0 big [] (by omega) (big_lt (by omega)) (fun q hq => by cases hq) (by simp) hk
end Go.Proofs.Ytbikpfccdcblfaa.Eng
/- RebalanceLeast: the checks of a cluster: each answers, one way or the other. -/
namespace Go.Proofs.Ytbikpfccdcblfaa.Eng
open Go
set_option linter.unusedVariables false

/-! nameOK -/
theorem T26_j8 (N : Nat) (a3 : Int) (a5 a6 : Bool) (a16 : List Int) (a17 a18 : Int) : (∀ (kn : Prop) (kr : Bool → Prop), kn → T26f.j8 N a3 a5 a6 a16 a17 a18 kn kr) ∨ (∀ (kn : Prop) (kr : Bool → Prop), kr false → T26f.j8 N a3 a5 a6 a16 a17 a18 kn kr) := by
  cases a5
  · cases a6
    · exact .inr fun _ _ h => h
    · by_cases e : a3 = 0
      · exact .inr fun _ _ h => matT (decide_eq_true e) h
      · exact .inl fun _ _ h => matF (decide_eq_false e) h
  · exact .inl fun _ _ h => h
theorem T26_j7 (N : Nat) (a3 a4 : Int) (a5 : Bool) (a16 : List Int) (a17 a18 : Int) : (∀ (kn : Prop) (kr : Bool → Prop), kn → T26f.j7 N a3 a4 a5 a16 a17 a18 kn kr) ∨ (∀ (kn : Prop) (kr : Bool → Prop), kr false → T26f.j7 N a3 a4 a5 a16 a17 a18 kn kr) := by
  by_cases e : 48 ≤ a4
  · by_cases e2 : a4 ≤ 57
    · rcases T26_j8 N a3 a5 true a16 a17 a18 with h | h
      · exact .inl fun kn kr hk => matT (decide_eq_true e) (matT (decide_eq_true e2) (h _ _ hk))
      · exact .inr fun kn kr hk => matT (decide_eq_true e) (matT (decide_eq_true e2) (h _ _ hk))
    · rcases T26_j8 N a3 a5 (decide (a4 = 45)) a16 a17 a18 with h | h
      · exact .inl fun kn kr hk => matT (decide_eq_true e) (matF (decide_eq_false e2) (h _ _ hk))
      · exact .inr fun kn kr hk => matT (decide_eq_true e) (matF (decide_eq_false e2) (h _ _ hk))
  · rcases T26_j8 N a3 a5 (decide (a4 = 45)) a16 a17 a18 with h | h
    · exact .inl fun kn kr hk => matF (decide_eq_false e) (h _ _ hk)
    · exact .inr fun kn kr hk => matF (decide_eq_false e) (h _ _ hk)
theorem T26_l4 {N : Nat} {xs : List Int} (hn : xs.length ≤ 4611686018427387904) : ∀ (r : List Int) (i m : Nat), xs.drop i = r → r.length < m → (∀ (k0 : Prop) (kr : Bool → Prop), k0 → T26f.l4 N xs ((xs.length : Nat) : Int) m i k0 kr) ∨ (∀ (k0 : Prop) (kr : Bool → Prop), kr false → T26f.l4 N xs ((xs.length : Nat) : Int) m i k0 kr)
  | [], i, m + 1, hd, hm => .inl fun k0 kr h => matF (ge_dec (drop_end hd)) h
  | y :: r, i, m + 1, hd, hm => by
    obtain ⟨h1, h2, h3⟩ := drop_next hd
    have ih := T26_l4 (N := N) hn r (i + 1) m h3 (by simpa using hm)
    have key : ∀ b : Bool, (∀ (kn : Prop) (kr : Bool → Prop), kn → T26f.j7 N i y b xs ((xs.length : Nat) : Int) i kn kr) ∨ (∀ (kn : Prop) (kr : Bool → Prop), kr false → T26f.j7 N i y b xs ((xs.length : Nat) : Int) i kn kr) := fun b => T26_j7 N i y b xs _ i
    have stp : ∀ (k0 : Prop) (kr : Bool → Prop) (b : Bool), b = (if 97 ≤ y then decide (y ≤ 122) else false) → T26f.j7 N i y b xs ((xs.length : Nat) : Int) i (T26f.l4 N xs ((xs.length : Nat) : Int) m (IntKind.i64.wrap ((i : Int) + 1)) k0 kr) kr → T26f.l4 N xs ((xs.length : Nat) : Int) (m + 1) i k0 kr := fun k0 kr b hb h => by
      refine matT (lt_dec h1) (at_ok h1 ?_)
      rw [h2]
      by_cases e : 97 ≤ y
      · rw [if_pos e] at hb; subst hb
        exact matT (decide_eq_true e) h
      · rw [if_neg e] at hb; subst hb
        exact matF (decide_eq_false e) h
    rcases key (if 97 ≤ y then decide (y ≤ 122) else false) with hj | hj
    · rcases ih with h | h
      · exact .inl fun k0 kr hk => stp k0 kr _ rfl (hj _ _ (by rw [next_i h1 hn]; exact h k0 kr hk))
      · exact .inr fun k0 kr hk => stp k0 kr _ rfl (hj _ _ (by rw [next_i h1 hn]; exact h k0 kr hk))
    · exact .inr fun k0 kr hk => stp k0 kr _ rfl (hj _ _ hk)
theorem T26_ok (s : List UInt8) : ∃ b, ∀ K : Bool → Prop, K b → T26f.P big s K := by
  by_cases e1 : ((s.length : Nat) : Int) < 1
  · exact ⟨false, fun K h => matT (decide_eq_true e1) h⟩
  by_cases e2 : (40 : Int) < ((s.length : Nat) : Int)
  · exact ⟨false, fun K h => matF (decide_eq_false e1) (matT (decide_eq_true e2) h)⟩
  have hb : (bytesD s).length = s.length := by simp [bytesD]
  rcases T26_l4 (N := big) (xs := bytesD s) (by omega) (bytesD s) 0 big rfl (big_lt (by omega)) with h | h
  · exact ⟨true, fun K hk => matF (decide_eq_false e1) (matF (decide_eq_false e2) (gd_iff.2 ⟨decide_eq_true (by unfold room; omega), h _ _ hk⟩))⟩
  · exact ⟨false, fun K hk => matF (decide_eq_false e1) (matF (decide_eq_false e2) (gd_iff.2 ⟨decide_eq_true (by unfold room; omega), h _ _ hk⟩))⟩

/-! IntsAreSorted -/
theorem T53_ok (a b : Int) (K : Bool → Prop) (h : K (decide (a < b))) : T53f.P big a b K := by
  show (match (generalizing := false) (!decide (a = a)) with | true => _ | false => _)
  exact matF (by simp) h
theorem T52_l2 {xs : List Int} (hn : xs.length ≤ 4611686018427387904) : ∀ (i m : Nat), i < m → (i = 0 ∨ i < xs.length) → (∀ (k0 : Prop) (kr : Bool → Prop), k0 → T52f.l2 big xs m i k0 kr) ∨ (∀ (k0 : Prop) (kr : Bool → Prop), kr false → T52f.l2 big xs m i k0 kr)
  | 0, m + 1, hm, hi => .inl fun k0 kr h => by
    unfold T52f.l2 T52f.b2
    exact h
  | i + 1, m + 1, hm, hi => by
    have h1 : i + 1 < xs.length := by omega
    have ih := T52_l2 hn i m (by omega) (by omega)
    have e1 : IntKind.i64.wrap (((i + 1 : Nat) : Int) - 1) = ((i : Nat) : Int) := by rw [i64n (by omega) (by omega)]; omega
    have stp : ∀ (k0 : Prop) (kr : Bool → Prop), (match (generalizing := false) decide (xs[i + 1] < xs[i]) with | true => kr false | false => T52f.l2 big xs m (IntKind.i64.wrap (((i + 1 : Nat) : Int) - 1)) k0 kr) → T52f.l2 big xs (m + 1) (i + 1 : Nat) k0 kr := fun k0 kr h => by
      refine matT (decide_eq_true (by omega)) (at_ok h1 ?_)
      show gd (decide (0 ≤ IntKind.i64.wrap (((i + 1 : Nat) : Int) - 1)) && decide (IntKind.i64.wrap (((i + 1 : Nat) : Int) - 1) < ((xs.length : Nat) : Int))) (optP (xs[(IntKind.i64.wrap (((i + 1 : Nat) : Int) - 1)).toNat]?) _)
      have hat : ∀ F : Int → Prop, F xs[i] → _ := fun F hf => at_ok (xs := xs) (i := i) (F := F) (by omega) hf
      rw [e1]
      refine hat _ ?_
      refine T53_ok _ _ _ ?_
      rw [e1] at h
      exact h
    by_cases e : xs[i + 1] < xs[i]
    · exact .inr fun k0 kr h => stp k0 kr (matT (decide_eq_true e) h)
    · rcases ih with h | h
      · exact .inl fun k0 kr hk => stp k0 kr (matF (decide_eq_false e) (by rw [e1]; exact h k0 kr hk))
      · exact .inr fun k0 kr hk => stp k0 kr (matF (decide_eq_false e) (by rw [e1]; exact h k0 kr hk))
theorem T51_ok (xs : List Int) (hn : xs.length ≤ 4611686018427387904) : ∃ b, ∀ K : Bool → Prop, K b → T51f.P big xs K := by
  cases xs with
  | nil =>
    refine ⟨true, fun K h => ?_⟩
    show T52f.l2 big [] big (IntKind.i64.wrap (((([] : List Int).length : Nat) : Int) - 1)) (K true) (fun y => K y)
    have e1 : IntKind.i64.wrap (((([] : List Int).length : Nat) : Int) - 1) = -1 := by decide
    rw [e1]
    show T52f.l2 big [] (18446744073709551615 + 1) (-1) (K true) (fun y => K y)
    unfold T52f.l2 T52f.b2
    exact h
  | cons x xs =>
    have e1 : IntKind.i64.wrap ((((x :: xs).length : Nat) : Int) - 1) = ((xs.length : Nat) : Int) := by
      have : ((x :: xs).length : Int) = (xs.length : Int) + 1 := by simp
      rw [this, i64n (by omega) (by simp at hn; omega)]; omega
    rcases T52_l2 (xs := x :: xs) hn xs.length big (by simp at hn; unfold big; omega) (.inr (by simp)) with h | h
    · exact ⟨true, fun K hk => by
        show T52f.l2 big (x :: xs) big (IntKind.i64.wrap ((((x :: xs).length : Nat) : Int) - 1)) (K true) (fun y => K y)
        rw [e1]; exact h _ _ hk⟩
    · exact ⟨false, fun K hk => by
        show T52f.l2 big (x :: xs) big (IntKind.i64.wrap ((((x :: xs).length : Nat) : Int) - 1)) (K true) (fun y => K y)
        rw [e1]; exact h _ _ hk⟩
end Go.Proofs.Ytbikpfccdcblfaa.Eng
/- RebalanceLeast: the settings' bounds. -/
namespace Go.Proofs.Ytbikpfccdcblfaa.Eng
open Go
set_option linter.unusedVariables false

def rowsF : List D72 := [(T27f.s_replicas, 1, 16, (some 30), ()), (T27f.s_width, 1, 16, (some 31), ()), (T27f.s_chunks, 1, 16, (some 32), ()), (T27f.s_retain, 1, 8, (some 33), ()), (T27f.s_block, 1, 4096, (some 34), ()), (T27f.s_rate, 1, 65536, (some 35), ()), (T27f.s_per, 1, 1024, (some 36), ()), (T27f.s_burst, 1, 65536, (some 37), ()), (T27f.s_tries, 1, 64, (some 38), ()), (T27f.s_base, 1, 1024, (some 39), ()), (T27f.s_most, 1, 1024, (some 40), ()), (T27f.s_quota, 1, 1073741824, (some 41), ()), (T27f.s_room, 1, 1073741824, (some 42), ()), (T27f.s_depot, 1, 1073741824, (some 43), ()), (T27f.s_resend, 1, 1024, (some 44), ()), (T27f.s_limit, 1, 64, (some 45), ()), (T27f.s_patience, 1, 65536, (some 46), ()), (T27f.s_getwait, 1, 1024, (some 47), ()), (T27f.s_strikes, 1, 64, (some 48), ()), (T27f.s_ban, 1, 1024, (some 49), ()), (T27f.s_home, 0, 7, (some 50), ())]
theorem T27_ok {K : List D72 → Prop} (h : K rowsF) : T27f.P big K := h
/-- One row: the value that it bounds, its bounds. -/
def rowF (c : D30) : Nat → Int × Int × Int
  | 0 => (c.2.1, 1, 16)
  | 1 => (c.2.2.1, 1, 16)
  | 2 => (c.2.2.2.1, 1, 16)
  | 3 => (c.2.2.2.2.1, 1, 8)
  | 4 => (c.2.2.2.2.2.1, 1, 4096)
  | 5 => (c.2.2.2.2.2.2.1, 1, 65536)
  | 6 => (c.2.2.2.2.2.2.2.1, 1, 1024)
  | 7 => (c.2.2.2.2.2.2.2.2.1, 1, 65536)
  | 8 => (c.2.2.2.2.2.2.2.2.2.1, 1, 64)
  | 9 => (c.2.2.2.2.2.2.2.2.2.2.1, 1, 1024)
  | 10 => (c.2.2.2.2.2.2.2.2.2.2.2.1, 1, 1024)
  | 11 => (c.2.2.2.2.2.2.2.2.2.2.2.2.1, 1, 1073741824)
  | 12 => (c.2.2.2.2.2.2.2.2.2.2.2.2.2.1, 1, 1073741824)
  | 13 => (c.2.2.2.2.2.2.2.2.2.2.2.2.2.2.1, 1, 1073741824)
  | 14 => (c.2.2.2.2.2.2.2.2.2.2.2.2.2.2.2.1, 1, 1024)
  | 15 => (c.2.2.2.2.2.2.2.2.2.2.2.2.2.2.2.2.1, 1, 64)
  | 16 => (c.2.2.2.2.2.2.2.2.2.2.2.2.2.2.2.2.2.1, 1, 65536)
  | 17 => (c.2.2.2.2.2.2.2.2.2.2.2.2.2.2.2.2.2.2.1, 1, 1024)
  | 18 => (c.2.2.2.2.2.2.2.2.2.2.2.2.2.2.2.2.2.2.2.1, 1, 64)
  | 19 => (c.2.2.2.2.2.2.2.2.2.2.2.2.2.2.2.2.2.2.2.2.1, 1, 1024)
  | 20 => (c.2.2.2.2.2.2.2.2.2.2.2.2.2.2.2.2.2.2.2.2.2.1, 0, 7)
  | _ => (0, 0, 0)
theorem T20_end {x lo hi : Int} {ag : Prop} {kr : List Int → Int → Prop} (h : if lo ≤ x ∧ x ≤ hi then ag else kr [] 64) : T21f.P big x lo hi fun r => (match (generalizing := false) !r with | true => kr [] 64 | false => ag) := by
  refine T21_ok ?_
  by_cases e : lo ≤ x ∧ x ≤ hi
  · rw [if_pos e] at h
    exact matF (by simp [e]) h
  · rw [if_neg e] at h
    exact matT (by simp [e]) h
theorem T20_b4_0 (c : D30) (again : Int → Prop) (kx : D30 → Prop) (kr : List Int → Int → Prop) (h : if 1 ≤ c.2.1 ∧ c.2.1 ≤ 16 then again 1 else kr [] 64) : T20f.b4 big rowsF 21 0 c again kx kr := by
  have e : IntKind.i64.wrap ((0 : Int) + 1) = 1 := by decide
  have h2 : if 1 ≤ c.2.1 ∧ c.2.1 ≤ 16 then again (IntKind.i64.wrap ((0 : Int) + 1)) else kr [] 64 := by rw [e]; exact h
  exact T20_end h2
theorem T20_b4_1 (c : D30) (again : Int → Prop) (kx : D30 → Prop) (kr : List Int → Int → Prop) (h : if 1 ≤ c.2.2.1 ∧ c.2.2.1 ≤ 16 then again 2 else kr [] 64) : T20f.b4 big rowsF 21 1 c again kx kr := by
  have e : IntKind.i64.wrap ((1 : Int) + 1) = 2 := by decide
  have h2 : if 1 ≤ c.2.2.1 ∧ c.2.2.1 ≤ 16 then again (IntKind.i64.wrap ((1 : Int) + 1)) else kr [] 64 := by rw [e]; exact h
  exact T20_end h2
theorem T20_b4_2 (c : D30) (again : Int → Prop) (kx : D30 → Prop) (kr : List Int → Int → Prop) (h : if 1 ≤ c.2.2.2.1 ∧ c.2.2.2.1 ≤ 16 then again 3 else kr [] 64) : T20f.b4 big rowsF 21 2 c again kx kr := by
  have e : IntKind.i64.wrap ((2 : Int) + 1) = 3 := by decide
  have h2 : if 1 ≤ c.2.2.2.1 ∧ c.2.2.2.1 ≤ 16 then again (IntKind.i64.wrap ((2 : Int) + 1)) else kr [] 64 := by rw [e]; exact h
  exact T20_end h2
theorem T20_b4_3 (c : D30) (again : Int → Prop) (kx : D30 → Prop) (kr : List Int → Int → Prop) (h : if 1 ≤ c.2.2.2.2.1 ∧ c.2.2.2.2.1 ≤ 8 then again 4 else kr [] 64) : T20f.b4 big rowsF 21 3 c again kx kr := by
  have e : IntKind.i64.wrap ((3 : Int) + 1) = 4 := by decide
  have h2 : if 1 ≤ c.2.2.2.2.1 ∧ c.2.2.2.2.1 ≤ 8 then again (IntKind.i64.wrap ((3 : Int) + 1)) else kr [] 64 := by rw [e]; exact h
  exact T20_end h2
theorem T20_b4_4 (c : D30) (again : Int → Prop) (kx : D30 → Prop) (kr : List Int → Int → Prop) (h : if 1 ≤ c.2.2.2.2.2.1 ∧ c.2.2.2.2.2.1 ≤ 4096 then again 5 else kr [] 64) : T20f.b4 big rowsF 21 4 c again kx kr := by
  have e : IntKind.i64.wrap ((4 : Int) + 1) = 5 := by decide
  have h2 : if 1 ≤ c.2.2.2.2.2.1 ∧ c.2.2.2.2.2.1 ≤ 4096 then again (IntKind.i64.wrap ((4 : Int) + 1)) else kr [] 64 := by rw [e]; exact h
  exact T20_end h2
theorem T20_b4_5 (c : D30) (again : Int → Prop) (kx : D30 → Prop) (kr : List Int → Int → Prop) (h : if 1 ≤ c.2.2.2.2.2.2.1 ∧ c.2.2.2.2.2.2.1 ≤ 65536 then again 6 else kr [] 64) : T20f.b4 big rowsF 21 5 c again kx kr := by
  have e : IntKind.i64.wrap ((5 : Int) + 1) = 6 := by decide
  have h2 : if 1 ≤ c.2.2.2.2.2.2.1 ∧ c.2.2.2.2.2.2.1 ≤ 65536 then again (IntKind.i64.wrap ((5 : Int) + 1)) else kr [] 64 := by rw [e]; exact h
  exact T20_end h2
theorem T20_b4_6 (c : D30) (again : Int → Prop) (kx : D30 → Prop) (kr : List Int → Int → Prop) (h : if 1 ≤ c.2.2.2.2.2.2.2.1 ∧ c.2.2.2.2.2.2.2.1 ≤ 1024 then again 7 else kr [] 64) : T20f.b4 big rowsF 21 6 c again kx kr := by
  have e : IntKind.i64.wrap ((6 : Int) + 1) = 7 := by decide
  have h2 : if 1 ≤ c.2.2.2.2.2.2.2.1 ∧ c.2.2.2.2.2.2.2.1 ≤ 1024 then again (IntKind.i64.wrap ((6 : Int) + 1)) else kr [] 64 := by rw [e]; exact h
  exact T20_end h2
theorem T20_b4_7 (c : D30) (again : Int → Prop) (kx : D30 → Prop) (kr : List Int → Int → Prop) (h : if 1 ≤ c.2.2.2.2.2.2.2.2.1 ∧ c.2.2.2.2.2.2.2.2.1 ≤ 65536 then again 8 else kr [] 64) : T20f.b4 big rowsF 21 7 c again kx kr := by
  have e : IntKind.i64.wrap ((7 : Int) + 1) = 8 := by decide
  have h2 : if 1 ≤ c.2.2.2.2.2.2.2.2.1 ∧ c.2.2.2.2.2.2.2.2.1 ≤ 65536 then again (IntKind.i64.wrap ((7 : Int) + 1)) else kr [] 64 := by rw [e]; exact h
  exact T20_end h2
theorem T20_b4_8 (c : D30) (again : Int → Prop) (kx : D30 → Prop) (kr : List Int → Int → Prop) (h : if 1 ≤ c.2.2.2.2.2.2.2.2.2.1 ∧ c.2.2.2.2.2.2.2.2.2.1 ≤ 64 then again 9 else kr [] 64) : T20f.b4 big rowsF 21 8 c again kx kr := by
  have e : IntKind.i64.wrap ((8 : Int) + 1) = 9 := by decide
  have h2 : if 1 ≤ c.2.2.2.2.2.2.2.2.2.1 ∧ c.2.2.2.2.2.2.2.2.2.1 ≤ 64 then again (IntKind.i64.wrap ((8 : Int) + 1)) else kr [] 64 := by rw [e]; exact h
  exact T20_end h2
theorem T20_b4_9 (c : D30) (again : Int → Prop) (kx : D30 → Prop) (kr : List Int → Int → Prop) (h : if 1 ≤ c.2.2.2.2.2.2.2.2.2.2.1 ∧ c.2.2.2.2.2.2.2.2.2.2.1 ≤ 1024 then again 10 else kr [] 64) : T20f.b4 big rowsF 21 9 c again kx kr := by
  have e : IntKind.i64.wrap ((9 : Int) + 1) = 10 := by decide
  have h2 : if 1 ≤ c.2.2.2.2.2.2.2.2.2.2.1 ∧ c.2.2.2.2.2.2.2.2.2.2.1 ≤ 1024 then again (IntKind.i64.wrap ((9 : Int) + 1)) else kr [] 64 := by rw [e]; exact h
  exact T20_end h2
theorem T20_b4_10 (c : D30) (again : Int → Prop) (kx : D30 → Prop) (kr : List Int → Int → Prop) (h : if 1 ≤ c.2.2.2.2.2.2.2.2.2.2.2.1 ∧ c.2.2.2.2.2.2.2.2.2.2.2.1 ≤ 1024 then again 11 else kr [] 64) : T20f.b4 big rowsF 21 10 c again kx kr := by
  have e : IntKind.i64.wrap ((10 : Int) + 1) = 11 := by decide
  have h2 : if 1 ≤ c.2.2.2.2.2.2.2.2.2.2.2.1 ∧ c.2.2.2.2.2.2.2.2.2.2.2.1 ≤ 1024 then again (IntKind.i64.wrap ((10 : Int) + 1)) else kr [] 64 := by rw [e]; exact h
  exact T20_end h2
theorem T20_b4_11 (c : D30) (again : Int → Prop) (kx : D30 → Prop) (kr : List Int → Int → Prop) (h : if 1 ≤ c.2.2.2.2.2.2.2.2.2.2.2.2.1 ∧ c.2.2.2.2.2.2.2.2.2.2.2.2.1 ≤ 1073741824 then again 12 else kr [] 64) : T20f.b4 big rowsF 21 11 c again kx kr := by
  have e : IntKind.i64.wrap ((11 : Int) + 1) = 12 := by decide
  have h2 : if 1 ≤ c.2.2.2.2.2.2.2.2.2.2.2.2.1 ∧ c.2.2.2.2.2.2.2.2.2.2.2.2.1 ≤ 1073741824 then again (IntKind.i64.wrap ((11 : Int) + 1)) else kr [] 64 := by rw [e]; exact h
  exact T20_end h2
theorem T20_b4_12 (c : D30) (again : Int → Prop) (kx : D30 → Prop) (kr : List Int → Int → Prop) (h : if 1 ≤ c.2.2.2.2.2.2.2.2.2.2.2.2.2.1 ∧ c.2.2.2.2.2.2.2.2.2.2.2.2.2.1 ≤ 1073741824 then again 13 else kr [] 64) : T20f.b4 big rowsF 21 12 c again kx kr := by
  have e : IntKind.i64.wrap ((12 : Int) + 1) = 13 := by decide
  have h2 : if 1 ≤ c.2.2.2.2.2.2.2.2.2.2.2.2.2.1 ∧ c.2.2.2.2.2.2.2.2.2.2.2.2.2.1 ≤ 1073741824 then again (IntKind.i64.wrap ((12 : Int) + 1)) else kr [] 64 := by rw [e]; exact h
  exact T20_end h2
theorem T20_b4_13 (c : D30) (again : Int → Prop) (kx : D30 → Prop) (kr : List Int → Int → Prop) (h : if 1 ≤ c.2.2.2.2.2.2.2.2.2.2.2.2.2.2.1 ∧ c.2.2.2.2.2.2.2.2.2.2.2.2.2.2.1 ≤ 1073741824 then again 14 else kr [] 64) : T20f.b4 big rowsF 21 13 c again kx kr := by
  have e : IntKind.i64.wrap ((13 : Int) + 1) = 14 := by decide
  have h2 : if 1 ≤ c.2.2.2.2.2.2.2.2.2.2.2.2.2.2.1 ∧ c.2.2.2.2.2.2.2.2.2.2.2.2.2.2.1 ≤ 1073741824 then again (IntKind.i64.wrap ((13 : Int) + 1)) else kr [] 64 := by rw [e]; exact h
  exact T20_end h2
theorem T20_b4_14 (c : D30) (again : Int → Prop) (kx : D30 → Prop) (kr : List Int → Int → Prop) (h : if 1 ≤ c.2.2.2.2.2.2.2.2.2.2.2.2.2.2.2.1 ∧ c.2.2.2.2.2.2.2.2.2.2.2.2.2.2.2.1 ≤ 1024 then again 15 else kr [] 64) : T20f.b4 big rowsF 21 14 c again kx kr := by
  have e : IntKind.i64.wrap ((14 : Int) + 1) = 15 := by decide
  have h2 : if 1 ≤ c.2.2.2.2.2.2.2.2.2.2.2.2.2.2.2.1 ∧ c.2.2.2.2.2.2.2.2.2.2.2.2.2.2.2.1 ≤ 1024 then again (IntKind.i64.wrap ((14 : Int) + 1)) else kr [] 64 := by rw [e]; exact h
  exact T20_end h2
theorem T20_b4_15 (c : D30) (again : Int → Prop) (kx : D30 → Prop) (kr : List Int → Int → Prop) (h : if 1 ≤ c.2.2.2.2.2.2.2.2.2.2.2.2.2.2.2.2.1 ∧ c.2.2.2.2.2.2.2.2.2.2.2.2.2.2.2.2.1 ≤ 64 then again 16 else kr [] 64) : T20f.b4 big rowsF 21 15 c again kx kr := by
  have e : IntKind.i64.wrap ((15 : Int) + 1) = 16 := by decide
  have h2 : if 1 ≤ c.2.2.2.2.2.2.2.2.2.2.2.2.2.2.2.2.1 ∧ c.2.2.2.2.2.2.2.2.2.2.2.2.2.2.2.2.1 ≤ 64 then again (IntKind.i64.wrap ((15 : Int) + 1)) else kr [] 64 := by rw [e]; exact h
  exact T20_end h2
theorem T20_b4_16 (c : D30) (again : Int → Prop) (kx : D30 → Prop) (kr : List Int → Int → Prop) (h : if 1 ≤ c.2.2.2.2.2.2.2.2.2.2.2.2.2.2.2.2.2.1 ∧ c.2.2.2.2.2.2.2.2.2.2.2.2.2.2.2.2.2.1 ≤ 65536 then again 17 else kr [] 64) : T20f.b4 big rowsF 21 16 c again kx kr := by
  have e : IntKind.i64.wrap ((16 : Int) + 1) = 17 := by decide
  have h2 : if 1 ≤ c.2.2.2.2.2.2.2.2.2.2.2.2.2.2.2.2.2.1 ∧ c.2.2.2.2.2.2.2.2.2.2.2.2.2.2.2.2.2.1 ≤ 65536 then again (IntKind.i64.wrap ((16 : Int) + 1)) else kr [] 64 := by rw [e]; exact h
  exact T20_end h2
theorem T20_b4_17 (c : D30) (again : Int → Prop) (kx : D30 → Prop) (kr : List Int → Int → Prop) (h : if 1 ≤ c.2.2.2.2.2.2.2.2.2.2.2.2.2.2.2.2.2.2.1 ∧ c.2.2.2.2.2.2.2.2.2.2.2.2.2.2.2.2.2.2.1 ≤ 1024 then again 18 else kr [] 64) : T20f.b4 big rowsF 21 17 c again kx kr := by
  have e : IntKind.i64.wrap ((17 : Int) + 1) = 18 := by decide
  have h2 : if 1 ≤ c.2.2.2.2.2.2.2.2.2.2.2.2.2.2.2.2.2.2.1 ∧ c.2.2.2.2.2.2.2.2.2.2.2.2.2.2.2.2.2.2.1 ≤ 1024 then again (IntKind.i64.wrap ((17 : Int) + 1)) else kr [] 64 := by rw [e]; exact h
  exact T20_end h2
theorem T20_b4_18 (c : D30) (again : Int → Prop) (kx : D30 → Prop) (kr : List Int → Int → Prop) (h : if 1 ≤ c.2.2.2.2.2.2.2.2.2.2.2.2.2.2.2.2.2.2.2.1 ∧ c.2.2.2.2.2.2.2.2.2.2.2.2.2.2.2.2.2.2.2.1 ≤ 64 then again 19 else kr [] 64) : T20f.b4 big rowsF 21 18 c again kx kr := by
  have e : IntKind.i64.wrap ((18 : Int) + 1) = 19 := by decide
  have h2 : if 1 ≤ c.2.2.2.2.2.2.2.2.2.2.2.2.2.2.2.2.2.2.2.1 ∧ c.2.2.2.2.2.2.2.2.2.2.2.2.2.2.2.2.2.2.2.1 ≤ 64 then again (IntKind.i64.wrap ((18 : Int) + 1)) else kr [] 64 := by rw [e]; exact h
  exact T20_end h2
theorem T20_b4_19 (c : D30) (again : Int → Prop) (kx : D30 → Prop) (kr : List Int → Int → Prop) (h : if 1 ≤ c.2.2.2.2.2.2.2.2.2.2.2.2.2.2.2.2.2.2.2.2.1 ∧ c.2.2.2.2.2.2.2.2.2.2.2.2.2.2.2.2.2.2.2.2.1 ≤ 1024 then again 20 else kr [] 64) : T20f.b4 big rowsF 21 19 c again kx kr := by
  have e : IntKind.i64.wrap ((19 : Int) + 1) = 20 := by decide
  have h2 : if 1 ≤ c.2.2.2.2.2.2.2.2.2.2.2.2.2.2.2.2.2.2.2.2.1 ∧ c.2.2.2.2.2.2.2.2.2.2.2.2.2.2.2.2.2.2.2.2.1 ≤ 1024 then again (IntKind.i64.wrap ((19 : Int) + 1)) else kr [] 64 := by rw [e]; exact h
  exact T20_end h2
theorem T20_b4_20 (c : D30) (again : Int → Prop) (kx : D30 → Prop) (kr : List Int → Int → Prop) (h : if 0 ≤ c.2.2.2.2.2.2.2.2.2.2.2.2.2.2.2.2.2.2.2.2.2.1 ∧ c.2.2.2.2.2.2.2.2.2.2.2.2.2.2.2.2.2.2.2.2.2.1 ≤ 7 then again 21 else kr [] 64) : T20f.b4 big rowsF 21 20 c again kx kr := by
  have e : IntKind.i64.wrap ((20 : Int) + 1) = 21 := by decide
  have h2 : if 0 ≤ c.2.2.2.2.2.2.2.2.2.2.2.2.2.2.2.2.2.2.2.2.2.1 ∧ c.2.2.2.2.2.2.2.2.2.2.2.2.2.2.2.2.2.2.2.2.2.1 ≤ 7 then again (IntKind.i64.wrap ((20 : Int) + 1)) else kr [] 64 := by rw [e]; exact h
  exact T20_end h2
def Q20 (c : D30) (m : Nat) (i : Int) : Prop := (∀ (kx : D30 → Prop) (kr : List Int → Int → Prop), kx c → T20f.l4 big rowsF 21 c m i kx kr) ∨ (∀ (kx : D30 → Prop) (kr : List Int → Int → Prop), kr [] 64 → T20f.l4 big rowsF 21 c m i kx kr)
theorem Q20_end (c : D30) (m : Nat) : Q20 c (m + 1) 21 := .inl fun kx kr h => h
theorem Q20_step {c : D30} {m : Nat} {i j : Int} {p : Prop} [Decidable p] (hb : ∀ (again : Int → Prop) (kx : D30 → Prop) (kr : List Int → Int → Prop), (if p then again j else kr [] 64) → T20f.b4 big rowsF 21 i c again kx kr) (h : Q20 c m j) : Q20 c (m + 1) i := by
  by_cases e : p
  · rcases h with h | h
    · exact .inl fun kx kr hk => hb _ _ _ (by rw [if_pos e]; exact h kx kr hk)
    · exact .inr fun kx kr hk => hb _ _ _ (by rw [if_pos e]; exact h kx kr hk)
  · exact .inr fun kx kr hk => hb _ _ _ (by rw [if_neg e]; exact hk)
theorem Q20_all (c : D30) (m : Nat) : Q20 c (m + 21) 1 :=
  (Q20_step (T20_b4_1 c) (Q20_step (T20_b4_2 c) (Q20_step (T20_b4_3 c) (Q20_step (T20_b4_4 c) (Q20_step (T20_b4_5 c) (Q20_step (T20_b4_6 c) (Q20_step (T20_b4_7 c) (Q20_step (T20_b4_8 c) (Q20_step (T20_b4_9 c) (Q20_step (T20_b4_10 c) (Q20_step (T20_b4_11 c) (Q20_step (T20_b4_12 c) (Q20_step (T20_b4_13 c) (Q20_step (T20_b4_14 c) (Q20_step (T20_b4_15 c) (Q20_step (T20_b4_16 c) (Q20_step (T20_b4_17 c) (Q20_step (T20_b4_18 c) (Q20_step (T20_b4_19 c) (Q20_step (T20_b4_20 c) (Q20_end c m)))))))))))))))))))))
/-- The settings: all lie within their bounds (the first among them: the replicas), or it ends there. -/
theorem T20_l4 (c : D30) : (1 ≤ c.2.1 ∧ c.2.1 ≤ 16 ∧ ∀ (kx : D30 → Prop) (kr : List Int → Int → Prop), kx c → T20f.l4 big rowsF 21 c big 0 kx kr) ∨ (∀ (kx : D30 → Prop) (kr : List Int → Int → Prop), kr [] 64 → T20f.l4 big rowsF 21 c big 0 kx kr) := by
  have hb := T20_b4_0 c
  have hq := Q20_all c 18446744073709551594
  by_cases e : 1 ≤ c.2.1 ∧ c.2.1 ≤ 16
  · rcases hq with h | h
    · exact .inl ⟨e.1, e.2, fun kx kr hk => hb _ _ _ (by rw [if_pos e]; exact h kx kr hk)⟩
    · exact .inr fun kx kr hk => hb _ _ _ (by rw [if_pos e]; exact h kx kr hk)
  · exact .inr fun kx kr hk => hb (fun a17 => T20f.l4 big rowsF 21 c 18446744073709551615 a17 kx kr) _ _ (by rw [if_neg e]; exact hk)
end Go.Proofs.Ytbikpfccdcblfaa.Eng
/- RebalanceLeast: homes; checked. -/
namespace Go.Proofs.Ytbikpfccdcblfaa.Eng
open Go
set_option linter.unusedVariables false

theorem T28_l3 {N : Nat} {ns : List D52} {c : D30} (hn : ns.length ≤ 4611686018427387904) {k : Int → D30 → Prop} : ∀ (r : List D52) (i a m : Nat), ns.drop i = r → r.length < m → a + partsF r ≤ 4611686018427387904 → k ((a + partsF r : Nat) : Int) c → T28f.l3 N ns ((ns.length : Nat) : Int) c m a i k
  | [], i, a, m + 1, hd, hm, hb, hk => matF (ge_dec (drop_end hd)) (by simpa [partsF] using hk)
  | x :: r, i, a, m + 1, hd, hm, hb, hk => by
    obtain ⟨h1, h2, h3⟩ := drop_next hd
    refine matT (lt_dec h1) (at_ok h1 ?_)
    rw [h2]
    have e : partsF (x :: r) = x.2.1.length + partsF r := by simp [partsF]
    rw [e] at hb hk
    show T28f.l3 N ns _ c m (IntKind.i64.wrap ((a : Int) + ((x.2.1.length : Nat) : Int))) (IntKind.i64.wrap ((i : Int) + 1)) k
    rw [next_i h1 hn, i64n (by omega) (by omega), show (a : Int) + ((x.2.1.length : Nat) : Int) = ((a + x.2.1.length : Nat) : Int) by simp]
    exact T28_l3 hn r (i + 1) (a + x.2.1.length) m h3 (by simpa using hm) (by omega) (by rw [Nat.add_assoc]; exact hk)
/-- All entries are made -1: what is left is as long, and no entry is above a bound. -/
def lowH (b : Nat) (home : List Int) : Prop := ∀ v ∈ home, v < (b : Int)
theorem lowH.set {b : Nat} {home : List Int} (h : lowH b home) {i : Nat} {v : Int} (hv : v < (b : Int)) : lowH b (home.set i v) := fun u hu => by
  rcases List.mem_or_eq_of_mem_set hu with hu | hu
  · exact h u hu
  · subst hu; exact hv
def hasN (home : List Int) : Prop := ∃ v ∈ home, 0 ≤ v
theorem T28_l11 {N : Nat} {a4 : Int} {c : D30} {n b : Nat} (hn : n ≤ 4611686018427387904) : ∀ (j i m : Nat) (home : List Int), i + j = n → j < m → home.length = n → lowH b home → ∃ home' : List Int, home'.length = n ∧ lowH b home' ∧ ∀ (k : List Int → D30 → Prop), k home' c → T28f.l11 N a4 ((n : Nat) : Int) c m home i k
  | 0, i, m + 1, home, hi, hm, hl, hh => ⟨home, hl, hh, fun k hk => matF (ge_dec (by omega)) hk⟩
  | j + 1, i, m + 1, home, hi, hm, hl, hh => by
    obtain ⟨home', e1, e2, e3⟩ := T28_l11 (N := N) (a4 := a4) (c := c) (b := b) hn j (i + 1) m (home.set i (-1)) (by omega) (by omega) (by simpa using hl) (hh.set (by omega))
    refine ⟨home', e1, e2, fun k hk => ?_⟩
    refine matT (lt_dec (by omega)) (at_ok (by omega) ?_)
    show T28f.l11 N a4 _ c m (home.set ((i : Int)).toNat (-1)) (IntKind.i64.wrap ((i : Int) + 1)) k
    rw [next_i (n := n) (by omega) hn, Int.toNat_natCast]
    exact e3 k hk
/-- One node's partitions. -/
theorem T28_l21 {N : Nat} {tot a9 b : Nat} {a41 : List D52} {a42 a43 : Int} {ps : List Int} (hb : a9 < b) (hn : ps.length ≤ 4611686018427387904) : ∀ (r : List Int) (i m : Nat) (home : List Int), ps.drop i = r → r.length < m → home.length = tot → lowH b home →
    (∃ home' : List Int, home'.length = tot ∧ (lowH b home' ∧ (r ≠ [] ∨ hasN home → hasN home')) ∧ ∀ (k6 : List Int → Prop) (kr : List Int → Int → Prop), k6 home' → T28f.l21 N (tot : Int) (a9 : Int) a41 a42 a43 ps ((ps.length : Nat) : Int) m home i k6 kr) ∨
    (∀ (k6 : List Int → Prop) (kr : List Int → Int → Prop), kr [] 66 → T28f.l21 N (tot : Int) (a9 : Int) a41 a42 a43 ps ((ps.length : Nat) : Int) m home i k6 kr)
  | [], i, m + 1, home, hd, hm, hl, hh => .inl ⟨home, hl, ⟨hh, fun h => h.resolve_left fun h => h rfl⟩, fun k6 kr hk => matF (ge_dec (drop_end hd)) hk⟩
  | p :: r, i, m + 1, home, hd, hm, hl, hh => by
    obtain ⟨h1, h2, h3⟩ := drop_next hd
    by_cases e1 : p < 0
    · exact .inr fun k6 kr hk => matT (lt_dec h1) (at_ok h1 (by rw [h2]; exact matT (decide_eq_true e1) hk))
    by_cases e2 : (tot : Int) ≤ p
    · exact .inr fun k6 kr hk => matT (lt_dec h1) (at_ok h1 (by rw [h2]; exact matF (decide_eq_false e1) (matT (decide_eq_true e2) hk)))
    have q0 : 0 ≤ p := by omega
    have q1 : p.toNat < home.length := by omega
    by_cases e3 : 0 ≤ home[p.toNat]
    · exact .inr fun k6 kr hk => matT (lt_dec h1) (at_ok h1 (by rw [h2]; exact matF (decide_eq_false e1) (matF (decide_eq_false e2) (atI_ok q0 q1 (matT (decide_eq_true e3) hk)))))
    have stp : ∀ (k6 : List Int → Prop) (kr : List Int → Int → Prop), T28f.l21 N (tot : Int) (a9 : Int) a41 a42 a43 ps ((ps.length : Nat) : Int) m (home.set p.toNat a9) ((i + 1 : Nat) : Int) k6 kr → T28f.l21 N (tot : Int) (a9 : Int) a41 a42 a43 ps ((ps.length : Nat) : Int) (m + 1) home i k6 kr := fun k6 kr hk => by
      refine matT (lt_dec h1) (at_ok h1 ?_)
      rw [h2]
      refine matF (decide_eq_false e1) (matF (decide_eq_false e2) (atI_ok q0 q1 (matF (decide_eq_false e3) (atI_ok q0 q1 ?_))))
      show T28f.l21 N (tot : Int) (a9 : Int) a41 a42 a43 ps ((ps.length : Nat) : Int) m (home.set p.toNat a9) (IntKind.i64.wrap ((i : Int) + 1)) k6 kr
      rw [next_i h1 hn]
      exact hk
    rcases T28_l21 (N := N) (tot := tot) (a41 := a41) (a42 := a42) (a43 := a43) hb hn r (i + 1) m (home.set p.toNat a9) h3 (by simpa using hm) (by simpa using hl) (hh.set (by omega)) with ⟨home', g1, g2, g3⟩ | g
    · exact .inl ⟨home', g1, ⟨g2.1, fun _ => g2.2 (.inr ⟨(a9 : Int), List.mem_iff_getElem.2 ⟨p.toNat, by simpa using q1, by simp⟩, by omega⟩)⟩, fun k6 kr hk => stp k6 kr (g3 k6 kr hk)⟩
    · exact .inr fun k6 kr hk => stp k6 kr (g k6 kr hk)
/-- All nodes' partitions. -/
theorem T28_l16 {tot : Nat} {ns : List D52} (hn : ns.length ≤ 4611686018427387904) (hp : ∀ x ∈ ns, x.2.1.length ≤ 4611686018427387904) : ∀ (r : List D52) (i m : Nat) (home : List Int), ns.drop i = r → r.length < m → home.length = tot → lowH ns.length home →
    (∃ home' : List Int, home'.length = tot ∧ (lowH ns.length home' ∧ (1 ≤ partsF r ∨ hasN home → hasN home')) ∧ ∀ (k4 : List Int → Prop) (kr : List Int → Int → Prop), k4 home' → T28f.l16 big (tot : Int) ns ((ns.length : Nat) : Int) m home i k4 kr) ∨
    (∀ (k4 : List Int → Prop) (kr : List Int → Int → Prop), kr [] 66 → T28f.l16 big (tot : Int) ns ((ns.length : Nat) : Int) m home i k4 kr)
  | [], i, m + 1, home, hd, hm, hl, hh => .inl ⟨home, hl, ⟨hh, fun h => h.resolve_left fun h => absurd h (by simp [partsF])⟩, fun k4 kr hk => matF (ge_dec (drop_end hd)) hk⟩
  | x :: r, i, m + 1, home, hd, hm, hl, hh => by
    obtain ⟨h1, h2, h3⟩ := drop_next hd
    have hx := hp x (h2 ▸ List.getElem_mem h1)
    obtain ⟨b, hs⟩ := T51_ok x.2.1 hx
    cases b with
    | false => exact .inr fun k4 kr hk => matT (lt_dec h1) (at_ok h1 (by rw [h2]; exact hs _ hk))
    | true =>
      have stp : ∀ (k4 : List Int → Prop) (kr : List Int → Int → Prop), T28f.l21 big (tot : Int) (i : Int) ns ((ns.length : Nat) : Int) (i : Int) x.2.1 ((x.2.1.length : Nat) : Int) big home 0 (fun y9 => T28f.l16 big (tot : Int) ns ((ns.length : Nat) : Int) m y9 (IntKind.i64.wrap ((i : Int) + 1)) k4 kr) (fun y11 y12 => kr y11 y12) → T28f.l16 big (tot : Int) ns ((ns.length : Nat) : Int) (m + 1) home i k4 kr := fun k4 kr hk => by
        refine matT (lt_dec h1) (at_ok h1 ?_)
        rw [h2]
        exact hs _ hk
      rcases T28_l21 (N := big) (tot := tot) (a9 := i) (b := ns.length) (a41 := ns) (a42 := ((ns.length : Nat) : Int)) (a43 := (i : Int)) (by omega) hx x.2.1 0 big home rfl (big_lt hx) hl hh with ⟨home', g1, g2, g3⟩ | g
      · rcases T28_l16 hn hp r (i + 1) m home' h3 (by simpa using hm) g1 g2.1 with ⟨home2, f1, f2, f3⟩ | f
        · exact .inl ⟨home2, f1, ⟨f2.1, fun h => f2.2 (by
            have e : partsF (x :: r) = x.2.1.length + partsF r := by simp [partsF]
            by_cases z : 1 ≤ partsF r
            · exact .inl z
            · refine .inr (g2.2 (h.imp (fun h e2 => ?_) id))
              rw [e, e2] at h
              simp at h
              omega)⟩, fun k4 kr hk => stp k4 kr (g3 _ _ (by rw [next_i h1 hn]; exact f3 k4 kr hk))⟩
        · exact .inr fun k4 kr hk => stp k4 kr (g3 _ _ (by rw [next_i h1 hn]; exact f k4 kr hk))
      · exact .inr fun k4 kr hk => stp k4 kr (g _ _ hk)
end Go.Proofs.Ytbikpfccdcblfaa.Eng
/- RebalanceLeast: homes, checked: they answer; what a checked cluster is. -/
namespace Go.Proofs.Ytbikpfccdcblfaa.Eng
open Go
set_option linter.unusedVariables false

/-- What is asked of the lengths. -/
structure Fine (c : D30) : Prop where
  ns : (nodesOf c).length ≤ 4611686018427387904
  ps : ∀ x ∈ nodesOf c, x.2.1.length ≤ 140737488355328
theorem partsF_le {ns : List D52} (h : ∀ x ∈ ns, x.2.1.length ≤ 140737488355328) : partsF ns ≤ ns.length * 140737488355328 := by
  induction ns with
  | nil => simp [partsF]
  | cons x r ih =>
    have h1 := ih fun y hy => h y (List.mem_cons_of_mem _ hy)
    have h2 := h x List.mem_cons_self
    have : partsF (x :: r) = x.2.1.length + partsF r := by simp [partsF]
    rw [this, List.length_cons]
    omega
structure GoodH (c : D30) (home : List Int) : Prop where
  len : home.length = partsF (nodesOf c)
  pos : 1 ≤ home.length
  le : home.length ≤ 64
  low : lowH (nodesOf c).length home
  some : hasN home
theorem T28_ok {c : D30} (hf : Fine c) (h1 : 1 ≤ (nodesOf c).length) (h16 : (nodesOf c).length ≤ 16) : ∃ (home : List Int) (e : Int), (e = 0 → GoodH c home) ∧ ∀ K : List Int → Int → Prop, K home e → T28f.P big c K := by
  have hpl := partsF_le hf.ps
  have hle : partsF (nodesOf c) ≤ 4611686018427387904 := by omega
  have hstart : ∀ K : List Int → Int → Prop, _ → T28f.P big c K := fun K hk => T28_l3 (N := big) (ns := nodesOf c) (c := c) hf.ns (nodesOf c) 0 0 big rfl (big_lt hf.ns) (by simpa using hle) hk
  by_cases e1 : 1 ≤ partsF (nodesOf c) ∧ partsF (nodesOf c) ≤ 64
  · obtain ⟨home1, g1, g2, g3⟩ := T28_l11 (N := big) (a4 := ((0 + partsF (nodesOf c) : Nat) : Int)) (c := c) (n := (List.replicate (0 + partsF (nodesOf c)) (0 : Int)).length) (b := (nodesOf c).length) (by simp; omega) (List.replicate (0 + partsF (nodesOf c)) (0 : Int)).length 0 big (List.replicate (0 + partsF (nodesOf c)) (0 : Int)) (by simp) (big_lt (by simp; omega)) rfl (fun v hv => by
      have := (List.mem_replicate.1 hv).2; omega)
    rw [List.length_replicate] at g1
    have hps : ∀ x ∈ nodesOf c, x.2.1.length ≤ 4611686018427387904 := fun x hx => by have := hf.ps x hx; omega
    have pre : ∀ K : List Int → Int → Prop, T28f.l16 big ((0 + partsF (nodesOf c) : Nat) : Int) (nodesOf c) (((nodesOf c).length : Nat) : Int) big home1 0 (fun y13 => K y13 0) (fun y14 y15 => K y14 y15) → T28f.P big c K := fun K hk => by
      refine hstart K (T21_ok (matF (by simp; omega) ?_))
      refine gd_iff.2 ⟨by simp [room]; omega, ?_⟩
      rw [Int.toNat_natCast]
      exact g3 _ hk
    rcases T28_l16 (tot := 0 + partsF (nodesOf c)) hf.ns hps (nodesOf c) 0 big home1 rfl (big_lt hf.ns) g1 g2 with ⟨home2, f1, f2, f3⟩ | f
    · exact ⟨home2, 0, fun _ => ⟨by omega, by omega, by omega, f2.1, f2.2 (.inl e1.1)⟩, fun K hk => pre K (f3 _ _ hk)⟩
    · exact ⟨[], 66, (fun h => absurd h (by decide)), fun K hk => pre K (f _ _ hk)⟩
  · refine ⟨[], 66, (fun h => absurd h (by decide)), fun K hk => hstart K (T21_ok (matT ?_ hk))⟩
    simp
    omega
theorem T20_l15 {ns : List D52} {c : D30} (hn : ns.length ≤ 4611686018427387904) : ∀ (r : List D52) (i a m : Nat), ns.drop i = r → r.length < m → a ≤ i →
    (∃ a2 : Int, ∀ (kx : Int → D30 → Prop) (kr : List Int → Int → Prop), kx a2 c → T20f.l15 big ns ((ns.length : Nat) : Int) c m a i kx kr) ∨
    (∀ (kx : Int → D30 → Prop) (kr : List Int → Int → Prop), kr [] 65 → T20f.l15 big ns ((ns.length : Nat) : Int) c m a i kx kr)
  | [], i, a, m + 1, hd, hm, ha => .inl ⟨a, fun kx kr hk => matF (ge_dec (drop_end hd)) hk⟩
  | x :: r, i, a, m + 1, hd, hm, ha => by
    obtain ⟨h1, h2, h3⟩ := drop_next hd
    by_cases e1 : 0 ≤ x.1 ∧ x.1 ≤ 7
    · by_cases e2 : (0 : Int) < ((x.2.1.length : Nat) : Int)
      · have stp : ∀ (kx : Int → D30 → Prop) (kr : List Int → Int → Prop), T20f.l15 big ns ((ns.length : Nat) : Int) c m ((a + 1 : Nat) : Int) ((i + 1 : Nat) : Int) kx kr → T20f.l15 big ns ((ns.length : Nat) : Int) c (m + 1) a i kx kr := fun kx kr hk => by
          refine matT (lt_dec h1) (at_ok h1 ?_)
          rw [h2]
          refine T21_ok (matF (by simp [e1]) (matT (decide_eq_true e2) ?_))
          show T20f.l15 big ns ((ns.length : Nat) : Int) c m (IntKind.i64.wrap ((a : Int) + 1)) (IntKind.i64.wrap ((i : Int) + 1)) kx kr
          rw [next_i h1 hn, next_i (i := a) (n := ns.length) (by omega) hn]
          exact hk
        rcases T20_l15 hn r (i + 1) (a + 1) m h3 (by simpa using hm) (by omega) with ⟨a2, g⟩ | g
        · exact .inl ⟨a2, fun kx kr hk => stp kx kr (g kx kr hk)⟩
        · exact .inr fun kx kr hk => stp kx kr (g kx kr hk)
      · have stp : ∀ (kx : Int → D30 → Prop) (kr : List Int → Int → Prop), T20f.l15 big ns ((ns.length : Nat) : Int) c m a ((i + 1 : Nat) : Int) kx kr → T20f.l15 big ns ((ns.length : Nat) : Int) c (m + 1) a i kx kr := fun kx kr hk => by
          refine matT (lt_dec h1) (at_ok h1 ?_)
          rw [h2]
          refine T21_ok (matF (by simp [e1]) (matF (decide_eq_false e2) ?_))
          show T20f.l15 big ns ((ns.length : Nat) : Int) c m a (IntKind.i64.wrap ((i : Int) + 1)) kx kr
          rw [next_i h1 hn]
          exact hk
        rcases T20_l15 hn r (i + 1) a m h3 (by simpa using hm) (by omega) with ⟨a2, g⟩ | g
        · exact .inl ⟨a2, fun kx kr hk => stp kx kr (g kx kr hk)⟩
        · exact .inr fun kx kr hk => stp kx kr (g kx kr hk)
    · refine .inr fun kx kr hk => matT (lt_dec h1) (at_ok h1 ?_)
      rw [h2]
      refine T21_ok (matT ?_ hk)
      rw [Bool.not_eq_true', decide_eq_false_iff_not]
      exact e1
/-- What is known of a checked cluster. -/
structure Good (c : D30) (home : List Int) : Prop extends GoodH c home where
  nodes : (nodesOf c).length ≤ 16
  rep1 : 1 ≤ c.2.1
  rep2 : c.2.1 ≤ 16
theorem T20_ok {c : D30} (hf : Fine c) : ∃ (home : List Int) (e : Int), (e = 0 → Good c home) ∧ ∀ K : List Int → Int → Prop, K home e → T20f.P big c K := by
  obtain ⟨b, hb⟩ := T26_ok c.1
  cases b with
  | false => exact ⟨[], 63, (fun h => absurd h (by decide)), fun K hk => hb _ hk⟩
  | true =>
  rcases T20_l4 c with ⟨r1, r2, h4⟩ | h4
  rotate_left
  · exact ⟨[], 64, (fun h => absurd h (by decide)), fun K hk => hb _ (T27_ok (h4 _ _ hk))⟩
  by_cases e1 : c.2.2.2.2.2.2.2.2.1 < c.2.2.2.2.2.1
  · exact ⟨[], 64, (fun h => absurd h (by decide)), fun K hk => hb _ (T27_ok (h4 _ _ (matT (decide_eq_true e1) hk)))⟩
  by_cases e2 : c.2.2.2.2.2.2.2.2.2.2.2.1 < c.2.2.2.2.2.2.2.2.2.2.1
  · exact ⟨[], 64, (fun h => absurd h (by decide)), fun K hk => hb _ (T27_ok (h4 _ _ (matF (decide_eq_false e1) (matT (decide_eq_true e2) hk))))⟩
  by_cases e3 : 1 ≤ (((nodesOf c).length : Nat) : Int) ∧ (((nodesOf c).length : Nat) : Int) ≤ 16
  rotate_left
  · refine ⟨[], 65, (fun h => absurd h (by decide)), fun K hk => hb _ (T27_ok (h4 _ _ (matF (decide_eq_false e1) (matF (decide_eq_false e2) (T21_ok (matT ?_ hk))))))⟩
    rw [Bool.not_eq_true', decide_eq_false_iff_not]
    exact e3
  have n3 : (!decide (1 ≤ (((nodesOf c).length : Nat) : Int) ∧ (((nodesOf c).length : Nat) : Int) ≤ 16)) = false := by simp only [decide_eq_true e3, Bool.not_true]
  rcases T20_l15 (c := c) hf.ns (nodesOf c) 0 0 big rfl (big_lt hf.ns) (Nat.le_refl _) with ⟨a2, g⟩ | g
  rotate_left
  · exact ⟨[], 65, (fun h => absurd h (by decide)), fun K hk => hb _ (T27_ok (h4 _ _ (matF (decide_eq_false e1) (matF (decide_eq_false e2) (T21_ok (matF n3 (g _ _ hk)))))))⟩
  obtain ⟨home, e, hg, hh⟩ := T28_ok hf (by omega) (by omega)
  have all : ∀ K : List Int → Int → Prop, _ → T20f.P big c K := fun K hk => hb _ (T27_ok (h4 _ _ (matF (decide_eq_false e1) (matF (decide_eq_false e2) (T21_ok (matF n3 (g _ _ (hh _ hk))))))))
  by_cases e4 : e = 0
  rotate_left
  · exact ⟨[], e, (fun h => absurd h e4), fun K hk => all K (matT (by simp [e4]) hk)⟩
  by_cases e5 : a2 < c.2.1
  · exact ⟨[], 67, (fun h => absurd h (by decide)), fun K hk => all K (matF (by simp [e4]) (matT (decide_eq_true e5) hk))⟩
  by_cases e6 : 512 < IntKind.i64.wrap (IntKind.i64.wrap (((home.length : Nat) : Int) * c.2.1) * c.2.2.2.1)
  · exact ⟨[], 3, (fun h => absurd h (by decide)), fun K hk => all K (matF (by simp [e4]) (matF (decide_eq_false e5) (matT (decide_eq_true e6) hk)))⟩
  · exact ⟨home, 0, (fun _ => ⟨hg e4, by omega, r1, r2⟩), fun K hk => all K (matF (by simp [e4]) (matF (decide_eq_false e5) (matF (decide_eq_false e6) hk)))⟩
end Go.Proofs.Ytbikpfccdcblfaa.Eng
/- RebalanceLeast: owners, holds. -/
namespace Go.Proofs.Ytbikpfccdcblfaa.Eng
open Go
set_option linter.unusedVariables false

/-- A checked cluster, and its homes. -/
structure Chk (c : D30) (home : List Int) : Prop extends Good c home where
  fine : Fine c
  run : ∀ K : List Int → Int → Prop, K home 0 → T20f.P big c K
theorem roundG_in {home : List Int} {part : Nat} {k : Int} (hl : 0 < home.length) : ∀ (n s : Nat) (t : List Int), inR0 home t → inR0 home (roundG home part k n s t)
  | 0, _, t, h => h
  | n + 1, s, t, h => by
    unfold roundG
    split
    · split
      · exact roundG_in hl n (s + 1) t h
      · exact roundG_in hl n (s + 1) _ (h.snoc (Nat.mod_lt _ hl))
    · exact h
theorem round_in {home : List Int} {part : Nat} {k : Int} (hl : 0 < home.length) : inR0 home (roundF home part k) := roundG_in hl _ _ _ fun q hq => by cases hq
theorem roundG_len {home : List Int} {part : Nat} {k : Int} : ∀ (n s : Nat) (t : List Int), (roundG home part k n s t).length ≤ t.length + n
  | 0, _, t => Nat.le_refl _
  | n + 1, s, t => by
    unfold roundG
    split
    · split
      · have := roundG_len (home := home) (part := part) (k := k) n (s + 1) t; omega
      · have := roundG_len (home := home) (part := part) (k := k) n (s + 1) (t ++ [(((part + s) % home.length : Nat) : Int)])
        rw [List.length_append, List.length_singleton] at this
        omega
    · omega
theorem round_len {home : List Int} {part : Nat} {k : Int} : (roundF home part k).length ≤ home.length := by
  have := roundG_len (home := home) (part := part) (k := k) home.length 0 []
  simpa [roundF] using this
/-- The owners of a partition. -/
def homeAt (home : List Int) (q : Int) : Int := home.getD q.toNat 0
def ownersF (home : List Int) (k : Int) (p : Nat) : List Int := (roundF home p k).map (homeAt home)
theorem T14_l8 {home rd : List Int} (hn : rd.length ≤ 1048576) (hr : inR0 home rd) {kx : List Int → Prop} : ∀ (r : List Int) (i m : Nat) (a : List Int), rd.drop i = r → r.length < m → a.length = i → kx (a ++ r.map (homeAt home)) → T14f.l8 big home rd ((rd.length : Nat) : Int) m a i kx
  | [], i, m + 1, a, hd, hm, ha, hk => matF (ge_dec (drop_end hd)) (by simpa using hk)
  | q :: r, i, m + 1, a, hd, hm, ha, hk => by
    obtain ⟨h1, h2, h3⟩ := drop_next hd
    obtain ⟨q0, q1⟩ := hr q (h2 ▸ List.getElem_mem h1)
    refine matT (lt_dec h1) (at_ok h1 ?_)
    rw [h2]
    refine atI_ok q0 q1 (gd_iff.2 ⟨decide_eq_true (by simp [room]; omega), ?_⟩)
    show T14f.l8 big home rd _ m (a ++ [home[q.toNat]]) (IntKind.i64.wrap ((i : Int) + 1)) kx
    rw [next_i h1 (by omega)]
    refine T14_l8 hn hr r (i + 1) m _ h3 (by simpa using hm) (by simp [ha]) ?_
    have e : homeAt home q = home[q.toNat] := by simp [homeAt, q1]
    simpa [e] using hk
theorem T14_ok {c : D30} {home : List Int} (h : Chk c home) {p : Int} (h0 : 0 ≤ p) (h1 : p < home.length) {K : List Int → Int → Prop} (hk : K (ownersF home c.2.1 p.toNat) 0) : T14f.P big c p K := by
  refine h.run _ ?_
  have hp := h.pos
  have hl := h.le
  have e : IntKind.i64.wrap (((home.length : Nat) : Int) - 1) = ((home.length : Nat) : Int) - 1 := i64n (by omega) (by omega)
  show T21f.P big p 0 (IntKind.i64.wrap (((home.length : Nat) : Int) - 1)) _
  rw [e]
  refine T21_ok (matF (by simp; omega) ?_)
  have ep : p = ((p.toNat : Nat) : Int) := by omega
  rw [ep]
  refine T22_ok (by omega) (by omega) ?_
  have hrl := round_len (home := home) (part := p.toNat) (k := c.2.1)
  refine T14_l8 (by omega) (round_in (by omega)) (roundF home p.toNat c.2.1) 0 big [] rfl (big_lt (by omega)) rfl ?_
  simpa [ownersF] using hk
end Go.Proofs.Ytbikpfccdcblfaa.Eng
/- RebalanceLeast: holds. -/
namespace Go.Proofs.Ytbikpfccdcblfaa.Eng
open Go
set_option linter.unusedVariables false

/-- Where n stands among a partition's owners. -/
def holdP (n : Int) (p : Nat) : List Int → Nat → List D49
  | [], _ => []
  | o :: r, i => if o = n then ((p : Int), (i : Int), ()) :: holdP n p r (i + 1) else holdP n p r (i + 1)
def holdsG (home : List Int) (k n : Int) : Nat → Nat → List D49
  | 0, _ => []
  | j + 1, p => holdP n p (ownersF home k p) 0 ++ holdsG home k n j (p + 1)
def holdsF (home : List Int) (k n : Int) : List D49 := holdsG home k n home.length 0
theorem holdP_len {n : Int} {p : Nat} : ∀ {os : List Int} {i : Nat}, (holdP n p os i).length ≤ os.length
  | [], _ => Nat.le_refl _
  | o :: r, i => by
    unfold holdP
    have := holdP_len (n := n) (p := p) (os := r) (i := i + 1)
    split <;> simp <;> omega
theorem owners_len {home : List Int} {k : Int} {p : Nat} : (ownersF home k p).length ≤ home.length := by
  unfold ownersF; rw [List.length_map]; exact round_len
theorem holdsG_len {home : List Int} {k n : Int} : ∀ {j p : Nat}, (holdsG home k n j p).length ≤ j * home.length
  | 0, _ => by simp [holdsG]
  | j + 1, p => by
    unfold holdsG
    have h1 := holdsG_len (home := home) (k := k) (n := n) (j := j) (p := p + 1)
    have h2 := holdP_len (n := n) (p := p) (os := ownersF home k p) (i := 0)
    have h3 := owners_len (home := home) (k := k) (p := p)
    rw [List.length_append, Nat.succ_mul]
    omega
theorem T13_l11 {home rd : List Int} {a1 : Int} {p : Nat} {a28 : Int} {c : D30} (hn : rd.length ≤ 1048576) (hr : inR0 home rd) {kx : List D49 → D30 → Prop} : ∀ (r : List Int) (i m : Nat) (a : List D49), rd.drop i = r → r.length < m → a.length + r.length ≤ 1048576 → kx (a ++ holdP a1 p (r.map (homeAt home)) i) c → T13f.l11 big a1 home (p : Int) a28 (p : Int) rd ((rd.length : Nat) : Int) c m a i kx
  | [], i, m + 1, a, hd, hm, ha, hk => matF (ge_dec (drop_end hd)) (by simpa [holdP] using hk)
  | q :: r, i, m + 1, a, hd, hm, ha, hk => by
    obtain ⟨h1, h2, h3⟩ := drop_next hd
    obtain ⟨q0, q1⟩ := hr q (h2 ▸ List.getElem_mem h1)
    refine matT (lt_dec h1) (at_ok h1 ?_)
    rw [h2]
    refine atI_ok q0 q1 ?_
    have e : homeAt home q = home[q.toNat] := by simp [homeAt, q1]
    rw [List.map_cons, e] at hk
    unfold holdP at hk
    rw [List.length_cons] at ha hm
    by_cases e1 : home[q.toNat] = a1
    · rw [if_pos e1] at hk
      refine matT (decide_eq_true e1) (gd_iff.2 ⟨decide_eq_true (by simp [room]; omega), ?_⟩)
      show T13f.l11 big a1 home (p : Int) a28 (p : Int) rd _ c m (a ++ [((p : Int), (i : Int), ())]) (IntKind.i64.wrap ((i : Int) + 1)) kx
      rw [next_i h1 (by omega)]
      exact T13_l11 hn hr r (i + 1) m _ h3 (by omega) (by rw [List.length_append, List.length_singleton]; omega) (by simpa using hk)
    · rw [if_neg e1] at hk
      refine matF (decide_eq_false e1) ?_
      show T13f.l11 big a1 home (p : Int) a28 (p : Int) rd _ c m a (IntKind.i64.wrap ((i : Int) + 1)) kx
      rw [next_i h1 (by omega)]
      exact T13_l11 hn hr r (i + 1) m a h3 (by omega) (by omega) hk
theorem T13_l8 {c : D30} {home : List Int} {n : Int} (hl : home.length ≤ 64) {kx : List D49 → Prop} : ∀ (j p m : Nat) (a : List D49), p + j = home.length → j < m → a.length ≤ p * 64 → kx (a ++ holdsG home c.2.1 n j p) → T13f.l8 big n home ((home.length : Nat) : Int) m a p c kx
  | 0, p, m + 1, a, hp, hm, ha, hk => matF (ge_dec (by omega)) (by simpa [holdsG] using hk)
  | j + 1, p, m + 1, a, hp, hm, ha, hk => by
    have h1 : p < home.length := by omega
    have hrl := round_len (home := home) (part := p) (k := c.2.1)
    refine matT (lt_dec h1) (T22_ok (by omega) h1 ?_)
    refine T13_l11 (by omega) (round_in (by omega)) (roundF home p c.2.1) 0 big a rfl (big_lt (by omega)) (by omega) ?_
    show T13f.l8 big n home ((home.length : Nat) : Int) m (a ++ holdP n p (ownersF home c.2.1 p) 0) (IntKind.i64.wrap ((p : Int) + 1)) c kx
    rw [next_i h1 (by omega)]
    have h2 := holdP_len (n := n) (p := p) (os := ownersF home c.2.1 p) (i := 0)
    have h3 := owners_len (home := home) (k := c.2.1) (p := p)
    refine T13_l8 hl j (p + 1) m _ (by omega) (by omega) (by rw [List.length_append]; omega) ?_
    rw [List.append_assoc]
    exact hk
theorem T13_ok {c : D30} {home : List Int} (h : Chk c home) {n : Int} (h0 : 0 ≤ n) (h1 : n < (nodesOf c).length) {K : List D49 → Int → Prop} (hk : K (holdsF home c.2.1 n) 0) : T13f.P big c n K := by
  refine h.run _ ?_
  have hl := h.le
  have hn := h.nodes
  have e : IntKind.i64.wrap ((((nodesOf c).length : Nat) : Int) - 1) = (((nodesOf c).length : Nat) : Int) - 1 := i64n (by omega) (by omega)
  show T21f.P big n 0 (IntKind.i64.wrap ((((nodesOf c).length : Nat) : Int) - 1)) _
  rw [e]
  refine T21_ok (matF (by simp; omega) ?_)
  exact T13_l8 hl home.length 0 big [] (by omega) (big_lt (by omega)) (by simp) (by simpa [holdsF] using hk)
end Go.Proofs.Ytbikpfccdcblfaa.Eng
/- RebalanceLeast: fit, replicas. -/
namespace Go.Proofs.Ytbikpfccdcblfaa.Eng
open Go
set_option linter.unusedVariables false

/-- Two checked clusters that fit. -/
structure Fit (c d : D30) (hc hd : List Int) : Prop where
  was : Chk c hc
  next : Chk d hd
  len : hc.length = hd.length
theorem T24_of {c : D30} {home : List Int} {e : Int} (r : ∀ K : List Int → Int → Prop, K home e → T20f.P big c K) (K : Int → Prop) (hk : K e) : T24f.P big c K := r (fun _ y => K y) hk
theorem fit_ok {c d : D30} (fc : Fine c) (fd : Fine d) : (∃ hc hd, Fit c d hc hd ∧ ∀ K : Int → Prop, K 0 → T19f.P big c d K) ∨ ∃ e : Int, e ≠ 0 ∧ ∀ K : Int → Prop, K e → T19f.P big c d K := by
  obtain ⟨hc, e1, g1, q1⟩ := T20_ok fc
  have r1 := T24_of q1
  by_cases z1 : e1 = 0
  rotate_left
  · exact .inr ⟨e1, z1, fun K hk => r1 _ (matT (by simp [z1]) hk)⟩
  obtain ⟨hd, e2, g2, q2⟩ := T20_ok fd
  have r2 := T24_of q2
  by_cases z2 : e2 = 0
  rotate_left
  · exact .inr ⟨e2, z2, fun K hk => r1 _ (matF (by simp [z1]) (r2 _ (matT (by simp [z2]) hk)))⟩
  have n1 := g1 z1
  have n2 := g2 z2
  have pc := partsF_le fc.ps
  have pd := partsF_le fd.ps
  have k1 := n1.nodes
  have k2 := n2.nodes
  by_cases z3 : c.1 = d.1
  rotate_left
  · exact .inr ⟨90, by decide, fun K hk => r1 _ (matF (by simp [z1]) (r2 _ (matF (by simp [z2]) (matT (by simp [z3]) hk))))⟩
  have pre : ∀ K : Int → Prop, _ → T19f.P big c d K := fun K hk => r1 _ (matF (by simp [z1]) (r2 _ (matF (by simp [z2]) (matF (by simp [z3]) (T25_ok fc.ns (by omega) (T25_ok fd.ns (by omega) hk))))))
  by_cases z4 : partsF (nodesOf c) = partsF (nodesOf d)
  rotate_left
  · exact .inr ⟨90, by decide, fun K hk => pre K (matT (by simp; omega) hk)⟩
  by_cases z5 : c.2.2.1 = d.2.2.1
  rotate_left
  · exact .inr ⟨90, by decide, fun K hk => pre K (matF (by simp [z4]) (matT (by simp [z5]) hk))⟩
  by_cases z6 : c.2.2.2.1 = d.2.2.2.1
  rotate_left
  · exact .inr ⟨90, by decide, fun K hk => pre K (matF (by simp [z4]) (matF (by simp [z5]) (matT (by simp [z6]) hk)))⟩
  subst z1
  subst z2
  exact .inl ⟨hc, hd, ⟨⟨n1, fc, q1⟩, ⟨n2, fd, q2⟩, by rw [n1.len, n2.len, z4]⟩, fun K hk => pre K (matF (by simp [z4]) (matF (by simp [z5]) (matF (by simp [z6]) hk)))⟩
end Go.Proofs.Ytbikpfccdcblfaa.Eng
/- RebalanceLeast: replicas, Leaves. -/
namespace Go.Proofs.Ytbikpfccdcblfaa.Eng
open Go
set_option linter.unusedVariables false

def hasKey (l : List (Int × Int)) (p : Int) : Bool := (tfind (t := .int .i64) (v := .int .i64) p l).isSome
theorem eqI_iff (a b : Int) : eqD (.int .i64) a b = decide (a = b) := rfl
theorem hasKey_set (k x p : Int) : ∀ l : List (Int × Int), hasKey (tset (t := .int .i64) (v := .int .i64) k x l) p = (decide (p = k) || hasKey l p)
  | [] => by
    unfold hasKey
    simp only [tset, tfind, eqI_iff]
    by_cases e : p = k
    · simp [e]; rfl
    · simp [e]
  | q :: r => by
    have ih := hasKey_set k x p r
    unfold hasKey at ih ⊢
    simp only [tset, eqI_iff]
    by_cases e : k = q.1
    · simp only [decide_eq_true e, cond_true, tfind, eqI_iff]
      by_cases e2 : p = k
      · simp [e2]; rfl
      · simp [e2, ← e]
    · simp only [decide_eq_false e, cond_false, tfind, eqI_iff]
      by_cases e2 : p = q.1
      · simp [e2]
      · simp only [decide_eq_false e2, cond_false]; exact ih
theorem T29_l6 {xs : List D49} (hn : xs.length ≤ 4611686018427387904) : ∀ (r : List D49) (i m : Nat) (l : List (Int × Int)), xs.drop i = r → r.length < m → ∃ l2 : List (Int × Int), (∀ p, hasKey l2 p = (r.any (fun x => decide (p = x.1)) || hasKey l p)) ∧ ∀ kx : List (Int × Int) → Prop, kx l2 → T29f.l6 big xs ((xs.length : Nat) : Int) m l i kx
  | [], i, m + 1, l, hd, hm => ⟨l, fun p => by simp, fun kx hk => matF (ge_dec (drop_end hd)) hk⟩
  | x :: r, i, m + 1, l, hd, hm => by
    obtain ⟨h1, h2, h3⟩ := drop_next hd
    obtain ⟨l2, g1, g2⟩ := T29_l6 hn r (i + 1) m (tset (t := .int .i64) (v := .int .i64) x.1 x.2.1 l) h3 (by simpa using hm)
    refine ⟨l2, fun p => ?_, fun kx hk => matT (lt_dec h1) (at_ok h1 ?_)⟩
    · rw [g1, hasKey_set]
      simp only [List.any_cons]
      cases decide (p = x.1) <;> cases r.any (fun x => decide (p = x.1)) <;> rfl
    · rw [h2]
      show T29f.l6 big xs _ m (tset (t := .int .i64) (v := .int .i64) x.1 x.2.1 l) (IntKind.i64.wrap ((i : Int) + 1)) kx
      rw [next_i h1 hn]
      exact g2 kx hk
theorem holds_len {home : List Int} {k n : Int} (h : home.length ≤ 64) : (holdsF home k n).length ≤ 4096 := by
  have h1 := holdsG_len (home := home) (k := k) (n := n) (j := home.length) (p := 0)
  have h2 : home.length * home.length ≤ 64 * 64 := Nat.mul_le_mul h h
  unfold holdsF
  omega
theorem T29_ok {c : D30} {home : List Int} (h : Chk c home) {n : Int} (h0 : 0 ≤ n) (h1 : n < (nodesOf c).length) : ∃ l : List (Int × Int), (∀ p, hasKey l p = (holdsF home c.2.1 n).any fun x => decide (p = x.1)) ∧ ∀ K : List (Int × Int) → Int → Prop, K l 0 → T29f.P big c n K := by
  have hl := holds_len (home := home) (k := c.2.1) (n := n) h.le
  obtain ⟨l, g1, g2⟩ := T29_l6 (xs := holdsF home c.2.1 n) (by omega) (holdsF home c.2.1 n) 0 big [] rfl (big_lt (by omega))
  refine ⟨l, fun p => ?_, fun K hk => T13_ok h h0 h1 (g2 _ hk)⟩
  rw [g1]
  simp [hasKey, tfind]
end Go.Proofs.Ytbikpfccdcblfaa.Eng
/- RebalanceLeast: Leaves. -/
namespace Go.Proofs.Ytbikpfccdcblfaa.Eng
open Go
set_option linter.unusedVariables false

theorem T23_l16 {l : List (Int × Int)} {xs : List D49} (hn : xs.length ≤ 1048576) {kx : List D49 → Prop} : ∀ (r : List D49) (i m : Nat) (a : List D49), xs.drop i = r → r.length < m → a.length ≤ i → kx (a ++ r.filter (fun x => !hasKey l x.1)) → T23f.l16 big l xs ((xs.length : Nat) : Int) m a i kx
  | [], i, m + 1, a, hd, hm, ha, hk => matF (ge_dec (drop_end hd)) (by simpa using hk)
  | x :: r, i, m + 1, a, hd, hm, ha, hk => by
    obtain ⟨h1, h2, h3⟩ := drop_next hd
    refine matT (lt_dec h1) (at_ok h1 ?_)
    rw [h2]
    rw [List.filter_cons] at hk
    have hm' : r.length < m := by simpa using hm
    cases e : tfind (t := .int .i64) (v := .int .i64) x.1 l with
    | some v =>
      have hh : hasKey l x.1 = true := by unfold hasKey; rw [e]; rfl
      rw [hh] at hk
      dsimp only [id]
      show T23f.l16 big l xs _ m a (IntKind.i64.wrap ((i : Int) + 1)) kx
      rw [next_i h1 (by omega)]
      exact T23_l16 hn r (i + 1) m a h3 hm' (by omega) (by simpa using hk)
    | none =>
      have hh : hasKey l x.1 = false := by unfold hasKey; rw [e]; rfl
      rw [hh] at hk
      dsimp only [id]
      refine gd_iff.2 ⟨decide_eq_true (by simp [room]; omega), ?_⟩
      show T23f.l16 big l xs _ m (a ++ [x]) (IntKind.i64.wrap ((i : Int) + 1)) kx
      rw [next_i h1 (by omega)]
      exact T23_l16 hn r (i + 1) m _ h3 hm' (by rw [List.length_append, List.length_singleton]; omega) (by simpa using hk)
/-- What leaves node n. -/
def leavesF (c d : D30) (hc hd : List Int) (n : Int) : List D49 :=
  if ((nodesOf c).length : Int) ≤ n then [] else if ((nodesOf d).length : Int) ≤ n then holdsF hc c.2.1 n
  else (holdsF hc c.2.1 n).filter fun x => !((holdsF hd d.2.1 n).any fun y => decide (x.1 = y.1))
theorem T23_ok {c d : D30} {hc hd : List Int} (h : Fit c d hc hd) (hr : ∀ K : Int → Prop, K 0 → T19f.P big c d K) {n : Int} (h0 : 0 ≤ n) (h1 : n < max ((nodesOf c).length : Int) ((nodesOf d).length : Int)) {K : List D49 → Int → Prop} (hk : K (leavesF c d hc hd n) 0) : T23f.P big c d n K := by
  have n0 : ¬ n < 0 := by omega
  have n1 : ¬ max ((nodesOf c).length : Int) ((nodesOf d).length : Int) ≤ n := by omega
  refine hr _ (matF (decide_eq_false n0) (matF (decide_eq_false n1) ?_))
  unfold leavesF at hk
  by_cases e1 : ((nodesOf c).length : Int) ≤ n
  · rw [if_pos e1] at hk
    exact matT (decide_eq_true e1) hk
  rw [if_neg e1] at hk
  refine matF (decide_eq_false e1) (T13_ok h.was h0 (by omega) ?_)
  by_cases e2 : ((nodesOf d).length : Int) ≤ n
  · rw [if_pos e2] at hk
    exact matT (decide_eq_true e2) hk
  rw [if_neg e2] at hk
  refine matF (decide_eq_false e2) ?_
  obtain ⟨l, g1, g2⟩ := T29_ok h.next h0 (show n < (nodesOf d).length by omega)
  have hl := holds_len (home := hc) (k := c.2.1) (n := n) h.was.le
  refine g2 _ ?_
  refine T23_l16 (by omega) (holdsF hc c.2.1 n) 0 big [] rfl (big_lt (by omega)) (Nat.le_refl _) ?_
  have e : (fun x : D49 => !hasKey l x.1) = fun x => !((holdsF hd d.2.1 n).any fun y => decide (x.1 = y.1)) := funext fun x => by rw [g1]
  rw [e]
  simpa using hk
end Go.Proofs.Ytbikpfccdcblfaa.Eng
/- RebalanceLeast: Plan. -/
namespace Go.Proofs.Ytbikpfccdcblfaa.Eng
open Go
set_option linter.unusedVariables false

def moveG (n : Int) : List Int → Nat → D44 → D44
  | [], _, v => v
  | o :: r, i, v => if o = n then moveG n r (i + 1) (v.1, n, (i : Int), v.2.2.2) else moveG n r (i + 1) v
theorem T11_l19 {os : List Int} {n : Int} {a7 : List D44} {a26 a27 a40 a41 : Int} {a39 : List D49} {c d : D30} (hn : os.length ≤ 1048576) {kx : D30 → D30 → D44 → Prop} : ∀ (r : List Int) (i m : Nat) (v : D44), os.drop i = r → r.length < m → kx c d (moveG n r i v) → T11f.l19 big a7 n a26 a27 a39 a40 a41 os ((os.length : Nat) : Int) c d m i v kx
  | [], i, m + 1, v, hd, hm, hk => matF (ge_dec (drop_end hd)) hk
  | o :: r, i, m + 1, v, hd, hm, hk => by
    obtain ⟨h1, h2, h3⟩ := drop_next hd
    refine matT (lt_dec h1) (at_ok h1 ?_)
    rw [h2]
    have hm' : r.length < m := by simpa using hm
    unfold moveG at hk
    by_cases e : o = n
    · rw [if_pos e] at hk
      refine matT (decide_eq_true e) ?_
      show T11f.l19 big a7 n a26 a27 a39 a40 a41 os _ c d m (IntKind.i64.wrap ((i : Int) + 1)) (v.1, n, (i : Int), v.2.2.2) kx
      rw [next_i h1 (by omega)]
      exact T11_l19 hn r (i + 1) m _ h3 hm' hk
    · rw [if_neg e] at hk
      refine matF (decide_eq_false e) ?_
      show T11f.l19 big a7 n a26 a27 a39 a40 a41 os _ c d m (IntKind.i64.wrap ((i : Int) + 1)) v kx
      rw [next_i h1 (by omega)]
      exact T11_l19 hn r (i + 1) m _ h3 hm' hk
theorem holdP_part {n : Int} {p : Nat} : ∀ {os : List Int} {i : Nat} {x : D49}, x ∈ holdP n p os i → x.1 = (p : Int)
  | [], _, x, h => by cases h
  | o :: r, i, x, h => by
    unfold holdP at h
    split at h
    · rcases List.mem_cons.1 h with h | h
      · subst h; rfl
      · exact holdP_part h
    · exact holdP_part h
theorem holdsG_part {home : List Int} {k n : Int} : ∀ {j p : Nat} {x : D49}, x ∈ holdsG home k n j p → ∃ q : Nat, x.1 = (q : Int) ∧ p ≤ q ∧ q < p + j ∧ x ∈ holdP n q (ownersF home k q) 0
  | 0, p, x, h => by cases h
  | j + 1, p, x, h => by
    unfold holdsG at h
    rcases List.mem_append.1 h with h | h
    · exact ⟨p, holdP_part h, Nat.le_refl _, by omega, h⟩
    · obtain ⟨q, h1, h2, h3, h4⟩ := holdsG_part h
      exact ⟨q, h1, by omega, by omega, h4⟩
theorem holds_part {home : List Int} {k n : Int} {x : D49} (h : x ∈ holdsF home k n) : ∃ q : Nat, x.1 = (q : Int) ∧ q < home.length ∧ x ∈ holdP n q (ownersF home k q) 0 := by
  obtain ⟨q, h1, _, h3, h4⟩ := holdsG_part h
  exact ⟨q, h1, by omega, h4⟩
theorem roundG_pre {home : List Int} {part : Nat} {k : Int} : ∀ (n s : Nat) (t : List Int), ∃ u, roundG home part k n s t = t ++ u
  | 0, _, t => ⟨[], by simp [roundG]⟩
  | n + 1, s, t => by
    unfold roundG
    split
    · split
      · exact roundG_pre n (s + 1) t
      · obtain ⟨u, h⟩ := roundG_pre (home := home) (part := part) (k := k) n (s + 1) (t ++ [(((part + s) % home.length : Nat) : Int)])
        exact ⟨_ :: u, by rw [h, List.append_assoc]; rfl⟩
    · exact ⟨[], by simp⟩
theorem round_ne {home : List Int} {part : Nat} {k : Int} (hl : 1 ≤ home.length) (hk : 1 ≤ k) : roundF home part k ≠ [] := by
  unfold roundF
  obtain ⟨n, hn⟩ : ∃ n, home.length = n + 1 := ⟨home.length - 1, by omega⟩
  rw [hn]
  unfold roundG
  have c : (([] : List Int).length : Int) < k := by simp; omega
  rw [if_pos c, if_neg (by simp [seenF])]
  obtain ⟨u, h⟩ := roundG_pre (home := home) (part := part) (k := k) n (0 + 1) ([] ++ [(((part + 0) % home.length : Nat) : Int)])
  rw [h]
  simp
theorem owners_ne {home : List Int} {p : Nat} {k : Int} (hl : 1 ≤ home.length) (hk : 1 ≤ k) : 0 < (ownersF home k p).length := by
  unfold ownersF
  rw [List.length_map]
  exact List.length_pos_iff.2 (round_ne hl hk)
/-- The move that brings one replica to node n. -/
def moveF (hc : List Int) (k : Int) (n : Int) (x : D49) : D44 := moveG n (ownersF hc k x.1.toNat) 0 (x.1, (ownersF hc k x.1.toNat).getD 0 0, 0, n, x.2.1, ())
def planG (hc hd : List Int) (k k2 : Int) : Nat → Nat → List D44
  | 0, _ => []
  | j + 1, n => (holdsF hd k2 n).map (moveF hc k n) ++ planG hc hd k k2 j (n + 1)
theorem T11_l12 {c d : D30} {hc : List Int} (h : Chk c hc) {n : Nat} {a26 : Int} {xs : List D49} (hn : xs.length ≤ 4096) (hx : ∀ x ∈ xs, 0 ≤ x.1 ∧ x.1 < hc.length) {kx : List D44 → D30 → D30 → Prop} {kr : List D44 → Int → Prop} : ∀ (r : List D49) (i m : Nat) (a : List D44), xs.drop i = r → r.length < m → a.length + r.length ≤ 1048576 → kx (a ++ r.map (moveF hc c.2.1 n)) c d → T11f.l12 big n a26 n xs ((xs.length : Nat) : Int) m a i c d kx kr
  | [], i, m + 1, a, hd, hm, ha, hk => matF (ge_dec (drop_end hd)) (by simpa using hk)
  | x :: r, i, m + 1, a, hd, hm, ha, hk => by
    obtain ⟨h1, h2, h3⟩ := drop_next hd
    obtain ⟨q0, q1⟩ := hx x (h2 ▸ List.getElem_mem h1)
    rw [List.length_cons] at hm ha
    refine matT (lt_dec h1) (at_ok h1 ?_)
    rw [h2]
    have ne := owners_ne (home := hc) (p := x.1.toNat) (k := c.2.1) h.pos h.rep1
    have ol := owners_len (home := hc) (k := c.2.1) (p := x.1.toNat)
    have hl := h.le
    refine T14_ok h q0 q1 ?_
    refine gd_iff.2 ⟨by simp; exact ne, ?_⟩
    have eo : (ownersF hc c.2.1 x.1.toNat)[0]? = some ((ownersF hc c.2.1 x.1.toNat).getD 0 0) := by simp [ne]
    rw [eo]
    refine T11_l19 (by omega) (ownersF hc c.2.1 x.1.toNat) 0 big _ rfl (big_lt (by omega)) ?_
    refine gd_iff.2 ⟨decide_eq_true (by simp [room]; omega), ?_⟩
    show T11f.l12 big n a26 n xs ((xs.length : Nat) : Int) m (a ++ [moveF hc c.2.1 n x]) (IntKind.i64.wrap ((i : Int) + 1)) c d kx kr
    rw [next_i h1 (by omega)]
    refine T11_l12 h hn hx r (i + 1) m _ h3 (by omega) (by rw [List.length_append, List.length_singleton]; omega) ?_
    rw [List.append_assoc]
    exact hk
theorem T11_l6 {c d : D30} {hc hd : List Int} (h : Fit c d hc hd) {kx : List D44 → Prop} {kr : List D44 → Int → Prop} : ∀ (j n m : Nat) (a : List D44), n + j = (nodesOf d).length → j < m → a.length ≤ n * 4096 → kx (a ++ planG hc hd c.2.1 d.2.1 j n) → T11f.l6 big (((nodesOf d).length : Nat) : Int) m a n c d kx kr
  | 0, n, m + 1, a, hn, hm, ha, hk => matF (ge_dec (by omega)) (by simpa [planG] using hk)
  | j + 1, n, m + 1, a, hn, hm, ha, hk => by
    have h1 : n < (nodesOf d).length := by omega
    have h16 := h.next.nodes
    refine matT (lt_dec h1) (T13_ok h.next (by omega) (by omega) ?_)
    have hl := holds_len (home := hd) (k := d.2.1) (n := (n : Int)) h.next.le
    refine T11_l12 h.was (n := n) (xs := holdsF hd d.2.1 n) hl (fun x hx => ?_) (holdsF hd d.2.1 n) 0 big a rfl (big_lt (by omega)) (by omega) ?_
    · obtain ⟨q, e, hq, _⟩ := holds_part hx
      rw [h.len, e]
      exact ⟨by omega, by omega⟩
    show T11f.l6 big (((nodesOf d).length : Nat) : Int) m (a ++ (holdsF hd d.2.1 n).map (moveF hc c.2.1 n)) (IntKind.i64.wrap ((n : Int) + 1)) c d kx kr
    rw [next_i h1 (by omega)]
    refine T11_l6 h j (n + 1) m _ (by omega) (by omega) (by rw [List.length_append, List.length_map]; omega) ?_
    rw [List.append_assoc]
    exact hk
def planF (c d : D30) (hc hd : List Int) : List D44 := planG hc hd c.2.1 d.2.1 (nodesOf d).length 0
theorem T11_ok {c d : D30} {hc hd : List Int} (h : Fit c d hc hd) (hr : ∀ K : Int → Prop, K 0 → T19f.P big c d K) {K : List D44 → Int → Prop} (hk : K (planF c d hc hd) 0) : T11f.P big c d K := by
  refine hr _ ?_
  have h16 := h.next.nodes
  exact T11_l6 h (nodesOf d).length 0 big [] (by omega) (big_lt (by omega)) (by simp) (by simpa [planF] using hk)
end Go.Proofs.Ytbikpfccdcblfaa.Eng
/- RebalanceLeast: owners are without repetition; what a move is; what is held, is owned. -/
namespace Go.Proofs.Ytbikpfccdcblfaa.Eng
open Go
set_option linter.unusedVariables false

theorem homeAt_eq {home : List Int} {q : Int} (h : q.toNat < home.length) : homeAt home q = home[q.toNat] := by simp [homeAt, h]
theorem roundG_nd {home : List Int} {part : Nat} {k : Int} (hl : 0 < home.length) : ∀ (n s : Nat) (t : List Int), inR0 home t → (t.map (homeAt home)).Nodup → ((roundG home part k n s t).map (homeAt home)).Nodup
  | 0, _, t, _, h => h
  | n + 1, s, t, hi, h => by
    unfold roundG
    have hp : (part + s) % home.length < home.length := Nat.mod_lt _ hl
    split
    · cases hc : seenF home t ((part + s) % home.length) with
      | true => rw [if_pos rfl]; exact roundG_nd hl n (s + 1) t hi h
      | false =>
        rw [if_neg (by simp)]
        refine roundG_nd hl n (s + 1) _ (hi.snoc hp) ?_
        rw [List.map_append, List.nodup_append]
        refine ⟨h, by simp, fun a ha b hb => ?_⟩
        rw [List.mem_map] at ha
        obtain ⟨q, hq, rfl⟩ := ha
        simp only [List.map_cons, List.map_nil, List.mem_singleton] at hb
        subst hb
        obtain ⟨q0, q1⟩ := hi q hq
        intro e
        rw [homeAt_eq q1, homeAt_eq (by rw [Int.toNat_natCast]; exact hp)] at e
        unfold seenF at hc
        rw [List.any_eq_false] at hc
        have := hc q hq
        rw [List.getElem?_eq_getElem q1, List.getElem?_eq_getElem hp] at this
        apply this
        simp only [Int.toNat_natCast] at e
        exact decide_eq_true (by rw [e])
    · exact h
theorem owners_nd {home : List Int} {k : Int} {p : Nat} (hl : 0 < home.length) : (ownersF home k p).Nodup :=
  roundG_nd hl _ _ _ (fun q hq => by cases hq) (by simp)
theorem owners_low {home : List Int} {k : Int} {p b : Nat} (hl : 0 < home.length) (h : lowH b home) : ∀ o ∈ ownersF home k p, o < b := fun o ho => by
  unfold ownersF at ho
  rw [List.mem_map] at ho
  obtain ⟨q, hq, rfl⟩ := ho
  obtain ⟨q0, q1⟩ := round_in (part := p) (k := k) hl q hq
  rw [homeAt_eq q1]
  exact h home[q.toNat] (List.getElem_mem q1)
theorem moveG_spec {n : Int} : ∀ (r : List Int) (i : Nat) (v : D44), r.Nodup → moveG n r i v = match r.findIdx? (fun y => decide (y = n)) with | some j => (v.1, n, ((i + j : Nat) : Int), v.2.2.2) | none => v
  | [], _, v, _ => rfl
  | o :: r, i, v, hn => by
    unfold moveG
    rw [List.nodup_cons] at hn
    rw [List.findIdx?_cons]
    by_cases e : o = n
    · rw [if_pos e, if_pos (decide_eq_true e), moveG_spec r (i + 1) _ hn.2]
      have : r.findIdx? (fun y => decide (y = n)) = none := by
        rw [List.findIdx?_eq_none_iff]
        intro x hx
        rw [decide_eq_false_iff_not]
        intro e2
        subst e2; subst e
        exact hn.1 hx
      rw [this]
      rfl
    · rw [if_neg e, if_neg (by simp [e]), moveG_spec r (i + 1) _ hn.2]
      cases r.findIdx? (fun y => decide (y = n)) with
      | none => rfl
      | some j =>
        show (v.1, n, ((i + 1 + j : Nat) : Int), v.2.2.2) = (v.1, n, ((i + (j + 1) : Nat) : Int), v.2.2.2)
        rw [show i + 1 + j = i + (j + 1) by omega]
theorem place_nonneg {xs : List Int} {x : Int} : 0 ≤ placeF xs x ↔ x ∈ xs := by
  unfold placeF
  cases hf : xs.findIdx? (fun y => decide (y = x)) with
  | none =>
    rw [List.findIdx?_eq_none_iff] at hf
    refine ⟨fun h => absurd h (by decide), fun h => ?_⟩
    have := hf x h
    simp at this
  | some j =>
    refine ⟨fun _ => ?_, fun _ => Int.natCast_nonneg _⟩
    rw [List.findIdx?_eq_some_iff_getElem] at hf
    obtain ⟨hj, h1, _⟩ := hf
    have : xs[j] = x := by simpa using h1
    rw [← this]
    exact List.getElem_mem hj
theorem place_head {xs : List Int} (h : 0 < xs.length) : placeF xs (xs.getD 0 0) = 0 := by
  cases xs with
  | nil => simp at h
  | cons x r => simp [placeF, List.findIdx?_cons]
/-- What RebalanceLeast asks of one move. -/
structure MoveOK (os : List Int) (n : Int) (x : D49) (m : D44) : Prop where
  part : m.1 = x.1
  to : m.2.2.2.1 = n
  rep : m.2.2.2.2.1 = x.2.1
  from_ : placeF os m.2.1 = m.2.2.1
  own : decide (m.2.1 = n) = decide (0 ≤ placeF os n)
  zero : placeF os n < 0 → m.2.2.1 = 0
theorem moveF_ok {hc : List Int} {k n : Int} {x : D49} (hl : 1 ≤ hc.length) (hk : 1 ≤ k) : MoveOK (ownersF hc k x.1.toNat) n x (moveF hc k n x) := by
  have nd := owners_nd (home := hc) (k := k) (p := x.1.toNat) hl
  have ne := owners_ne (home := hc) (k := k) (p := x.1.toNat) hl hk
  unfold moveF
  rw [moveG_spec _ _ _ nd]
  cases hf : (ownersF hc k x.1.toNat).findIdx? (fun y => decide (y = n)) with
  | some j =>
    have e : placeF (ownersF hc k x.1.toNat) n = (j : Int) := by unfold placeF; rw [hf]
    refine ⟨rfl, rfl, rfl, ?_, ?_, fun h => ?_⟩
    · show placeF _ n = ((0 + j : Nat) : Int)
      rw [e]; simp
    · show decide (n = n) = _
      rw [e]; simp
    · rw [e] at h; omega
  | none =>
    have e : placeF (ownersF hc k x.1.toNat) n = -1 := by unfold placeF; rw [hf]
    refine ⟨rfl, rfl, rfl, place_head ne, ?_, fun _ => rfl⟩
    show decide ((ownersF hc k x.1.toNat).getD 0 0 = n) = _
    rw [e]
    have : ¬ (ownersF hc k x.1.toNat).getD 0 0 = n := fun h => by
      have hm : n ∈ ownersF hc k x.1.toNat := by
        rw [← h]
        have e3 : (ownersF hc k x.1.toNat).getD 0 0 = (ownersF hc k x.1.toNat)[0] := by simp [ne]
        rw [e3]
        exact List.getElem_mem ne
      rw [← place_nonneg, e] at hm
      omega
    rw [decide_eq_false this]
    rfl
theorem holdP_mem {n : Int} {p : Nat} : ∀ {os : List Int} {i : Nat}, (∃ y ∈ holdP n p os i, y.1 = (p : Int)) ↔ n ∈ os
  | [], _ => by simp [holdP]
  | o :: r, i => by
    unfold holdP
    have ih := holdP_mem (n := n) (p := p) (os := r) (i := i + 1)
    by_cases e : o = n
    · rw [if_pos e]
      exact ⟨fun _ => by simp [e], fun _ => ⟨_, List.mem_cons_self, rfl⟩⟩
    · rw [if_neg e, ih, List.mem_cons]
      exact ⟨.inr, fun h => h.resolve_left fun h => e h.symm⟩
theorem holdsG_in {home : List Int} {k n : Int} : ∀ {j p q : Nat}, p ≤ q → q < p + j → ∀ {x : D49}, x ∈ holdP n q (ownersF home k q) 0 → x ∈ holdsG home k n j p
  | 0, p, q, h1, h2, x, h => absurd h2 (by omega)
  | j + 1, p, q, h1, h2, x, h => by
    unfold holdsG
    rw [List.mem_append]
    by_cases e : p = q
    · subst e; exact .inl h
    · exact .inr (holdsG_in (by omega) (by omega) h)
/-- A partition is among what a node holds just where the node is among its owners. -/
theorem holds_any {home : List Int} {k n : Int} {p : Nat} (hp : p < home.length) : ((holdsF home k n).any fun y => decide ((p : Int) = y.1)) = decide (0 ≤ placeF (ownersF home k p) n) := by
  have : (∃ y ∈ holdsF home k n, y.1 = (p : Int)) ↔ n ∈ ownersF home k p := by
    rw [← holdP_mem (n := n) (p := p) (i := 0)]
    constructor
    · rintro ⟨y, hy, e⟩
      obtain ⟨q, h1, _, h3⟩ := holds_part hy
      have : q = p := by omega
      subst this
      exact ⟨y, h3, e⟩
    · rintro ⟨y, hy, e⟩
      exact ⟨y, holdsG_in (by omega) (by omega) hy, e⟩
  rw [Bool.eq_iff_iff, decide_eq_true_iff, place_nonneg, ← this, List.any_eq_true]
  constructor
  · rintro ⟨y, hy, e⟩; exact ⟨y, hy, (of_decide_eq_true e).symm⟩
  · rintro ⟨y, hy, e⟩; exact ⟨y, hy, decide_eq_true e.symm⟩
/-- There is a move. -/
theorem plan_ne {c d : D30} {hc hd : List Int} (h : Fit c d hc hd) : 0 < (planF c d hc hd).length := by
  have hg : ∀ (j n q : Nat), n ≤ q → q < n + j → (holdsF hd d.2.1 q) ≠ [] → 0 < (planG hc hd c.2.1 d.2.1 j n).length := by
    intro j
    induction j with
    | zero => intro n q h1 h2 _; omega
    | succ j ih =>
      intro n q h1 h2 h3
      unfold planG
      rw [List.length_append, List.length_map]
      by_cases e : n = q
      · subst e
        have := List.length_pos_iff.2 h3
        omega
      · have := ih (n + 1) q (by omega) (by omega) h3
        omega
  obtain ⟨o, ho, o0⟩ := h.next.some
  have o1 := h.next.low o ho
  obtain ⟨q, hq, rfl⟩ := List.mem_iff_getElem.1 ho
  have ho : hd[q] ∈ ownersF hd d.2.1 q := by
    unfold ownersF
    refine List.mem_map.2 ⟨((q : Nat) : Int), ?_, by simp [homeAt, hq]⟩
    unfold roundF
    obtain ⟨n, hn⟩ : ∃ n, hd.length = n + 1 := ⟨hd.length - 1, by omega⟩
    rw [hn]
    unfold roundG
    have c : (([] : List Int).length : Int) < d.2.1 := by have := h.next.rep1; simp; omega
    rw [if_pos c, if_neg (by simp [seenF])]
    obtain ⟨u, hu⟩ := roundG_pre (home := hd) (part := q) (k := d.2.1) n (0 + 1) ([] ++ [(((q + 0) % hd.length : Nat) : Int)])
    rw [hu, Nat.add_zero, Nat.mod_eq_of_lt hq]
    simp
  have eo : hd[q] = ((hd[q].toNat : Nat) : Int) := by omega
  refine hg _ 0 hd[q].toNat (Nat.zero_le _) (by omega) ?_
  obtain ⟨y, hy, e⟩ := (holdP_mem (n := hd[q]) (p := q) (i := 0)).2 ho
  have hy2 := holdsG_in (home := hd) (k := d.2.1) (n := hd[q]) (j := hd.length) (p := 0) (q := q) (Nat.zero_le _) (by omega) hy
  intro e2
  rw [← eo] at e2
  unfold holdsF at e2
  rw [e2] at hy2
  cases hy2
end Go.Proofs.Ytbikpfccdcblfaa.Eng
/- RebalanceLeast: leaving. -/
namespace Go.Proofs.Ytbikpfccdcblfaa.Eng
open Go
set_option linter.unusedVariables false

theorem eqSlot (x : D49) : eqD T49 x x = true := by
  obtain ⟨p, r, u⟩ := x
  cases u
  simp [eqD, eqI]
theorem T12_ok {e : Int} {K : Int → Prop} (h : K e) : T12f.P big e K := h
/-- What goes from a node. -/
def goneF (hd : List Int) (k n : Int) (x : D49) : Bool := !decide (0 ≤ placeF (ownersF hd k x.1.toNat) n)
theorem T16_l17 {c d : D30} {hd : List Int} (h : Chk d hd) {v : D33} (hv : v.2.1 = d) {a3 n : Int} {l xs : List D49} (hn : xs.length ≤ 1048576) (hx : ∀ x ∈ xs, 0 ≤ x.1 ∧ x.1 < hd.length) {kx : Int → D33 → Prop} {kr : Bool → Prop} :
    ∀ (r : List D49) (i k m : Nat), xs.drop i = r → r.length < m → k ≤ i → k ≤ l.length → l.drop k = r.filter (goneF hd d.2.1 n) → kx ((l.length : Nat) : Int) v → T16f.l17 big a3 n l xs v m k i kx kr
  | [], i, k, m + 1, hd', hm, hki, hkl, hl, hk => matF (ge_dec (drop_end hd')) (by
      have h1 := drop_end (xs := l) (i := k) (by simpa using hl)
      have : k = l.length := by omega
      subst this
      exact hk)
  | x :: r, i, k, m + 1, hd', hm, hki, hkl, hl, hk => by
    obtain ⟨h1, h2, h3⟩ := drop_next hd'
    obtain ⟨q0, q1⟩ := hx x (h2 ▸ List.getElem_mem h1)
    refine matT (lt_dec h1) (at_ok h1 ?_)
    have h64 := h.le
    have hol := owners_len (home := hd) (k := d.2.1) (p := x.1.toNat)
    rw [h2, hv]
    refine T14_ok h q0 q1 ?_
    refine T12_ok ?_
    refine T15_ok (by omega) ?_
    rw [List.filter_cons] at hl
    have hm' : r.length < m := by simpa using hm
    by_cases e : 0 ≤ placeF (ownersF hd d.2.1 x.1.toNat) n
    · refine matT (decide_eq_true e) ?_
      have eg : goneF hd d.2.1 n x = false := by simp [goneF, e]
      rw [eg, if_neg (by simp)] at hl
      show T16f.l17 big a3 n l xs v m k (IntKind.i64.wrap ((i : Int) + 1)) kx kr
      rw [next_i h1 (by omega)]
      exact T16_l17 (c := c) h hv hn hx r (i + 1) k m h3 hm' (by omega) hkl hl hk
    · have eg : goneF hd d.2.1 n x = true := by simp [goneF, e]
      rw [eg, if_pos rfl] at hl
      obtain ⟨g1, g2, g3⟩ := drop_next hl
      refine matF (decide_eq_false e) (matF (by simp; omega) (at_ok g1 (at_ok h1 ?_)))
      rw [g2, h2, eqSlot]
      show T16f.l17 big a3 n l xs v m (IntKind.i64.wrap ((k : Int) + 1)) (IntKind.i64.wrap ((i : Int) + 1)) kx kr
      rw [next_i h1 (by omega), next_i (i := k) (n := xs.length) (by omega) (by omega)]
      exact T16_l17 (c := c) h hv hn hx r (i + 1) (k + 1) m h3 hm' (by omega) (by omega) g3 hk
theorem leaves_eq {c d : D30} {hc hd : List Int} (h : Fit c d hc hd) {n : Nat} : leavesF c d hc hd n = (if ((nodesOf c).length : Int) ≤ n then [] else holdsF hc c.2.1 n).filter (goneF hd d.2.1 n) := by
  unfold leavesF
  by_cases e1 : ((nodesOf c).length : Int) ≤ n
  · rw [if_pos e1, if_pos e1]; rfl
  rw [if_neg e1, if_neg e1]
  have hg : ∀ x ∈ holdsF hc c.2.1 n, goneF hd d.2.1 n x = !((holdsF hd d.2.1 n).any fun y => decide (x.1 = y.1)) := fun x hx => by
    obtain ⟨q, h1, h2, _⟩ := holds_part hx
    unfold goneF
    rw [h1, Int.toNat_natCast, holds_any (by rw [← h.len]; exact h2)]
  by_cases e2 : ((nodesOf d).length : Int) ≤ n
  · rw [if_pos e2]
    symm
    rw [List.filter_eq_self]
    intro x hx
    unfold goneF
    rw [Bool.not_eq_true', decide_eq_false_iff_not, place_nonneg]
    intro hm
    have := owners_low (by have := h.next.pos; omega) h.next.low _ hm
    omega
  · rw [if_neg e2]
    exact (List.filter_congr hg).symm
theorem T16_j13 {c d : D30} {hc hd : List Int} (h : Fit c d hc hd) {v : D33} (hv : v.2.1 = d) {a3 : Int} {n : Nat} {l xs : List D49} (hxs : xs = if ((nodesOf c).length : Int) ≤ n then [] else holdsF hc c.2.1 n) (hl : l = leavesF c d hc hd n) {kn : D33 → Prop} {kr : Bool → Prop} (hk : kn v) : T16f.j13 big a3 n l 0 xs v kn kr := by
  refine T12_ok ?_
  have hlen : xs.length ≤ 4096 := by
    rw [hxs]
    split
    · simp
    · exact holds_len h.was.le
  refine T16_l17 (c := c) h.next hv (by omega) (fun x hx => ?_) xs 0 0 big rfl (big_lt (by omega)) (Nat.le_refl _) (Nat.zero_le _) (by rw [hl, leaves_eq h, hxs]; rfl) (matF (by simp) hk)
  rw [hxs] at hx
  split at hx
  · cases hx
  · obtain ⟨q, e, hq, _⟩ := holds_part hx
    rw [← h.len, e]
    exact ⟨by omega, by omega⟩
theorem T16_l5 {v : D33} {hc hd : List Int} (h : Fit v.1 v.2.1 hc hd) (hr : ∀ K : Int → Prop, K 0 → T19f.P big v.1 v.2.1 K) {kx : D33 → Prop} {kr : Bool → Prop} : ∀ (j n m : Nat), n + j = max (nodesOf v.1).length (nodesOf v.2.1).length → j < m → kx v → T16f.l5 big ((max (nodesOf v.1).length (nodesOf v.2.1).length : Nat) : Int) m n v kx kr
  | 0, n, m + 1, hn, hm, hk => matF (ge_dec (by omega)) hk
  | j + 1, n, m + 1, hn, hm, hk => by
    have h1 : n < max (nodesOf v.1).length (nodesOf v.2.1).length := by omega
    have h16 := h.next.nodes
    have h17 := h.was.nodes
    refine matT (lt_dec h1) (T23_ok h hr (by omega) (by omega) ?_)
    refine T12_ok ?_
    have ih := T16_l5 h hr (kr := kr) j (n + 1) m (by omega) (by omega) hk
    by_cases e : n < (nodesOf v.1).length
    · refine matT (lt_dec (n := (nodesOf v.1).length) e) (T13_ok h.was (by omega) (by omega) ?_)
      refine T16_j13 h rfl (by rw [if_neg (by omega)]) rfl ?_
      show T16f.l5 big _ m (IntKind.i64.wrap ((n : Int) + 1)) v kx kr
      rw [next_i h1 (by omega)]
      exact ih
    · refine matF (ge_dec (n := (nodesOf v.1).length) (by omega)) ?_
      refine T16_j13 h rfl (by rw [if_pos (by omega)]) rfl ?_
      show T16f.l5 big _ m (IntKind.i64.wrap ((n : Int) + 1)) v kx kr
      rw [next_i h1 (by omega)]
      exact ih
theorem T23_over {c d : D30} (hr : ∀ K : Int → Prop, K 0 → T19f.P big c d K) {n : Int} (h : max ((nodesOf c).length : Int) ((nodesOf d).length : Int) ≤ n) {K : List D49 → Int → Prop} (hk : K [] 68) : T23f.P big c d n K := by
  have n0 : ¬ n < 0 := by omega
  exact hr _ (matF (decide_eq_false n0) (matT (decide_eq_true h) hk))
theorem T16_ok {v : D33} {hc hd : List Int} (h : Fit v.1 v.2.1 hc hd) (hr : ∀ K : Int → Prop, K 0 → T19f.P big v.1 v.2.1 K) {K : Bool → Prop} (hk : K true) : T16f.P big v K := by
  have h16 := h.next.nodes
  have h17 := h.was.nodes
  have key : T16f.j4 big ((max (nodesOf v.1).length (nodesOf v.2.1).length : Nat) : Int) v K :=
    T16_l5 h hr _ 0 big (Nat.zero_add _) (big_lt (by omega)) (T23_over hr (by omega) (T12_ok hk))
  by_cases e : (nodesOf v.1).length < (nodesOf v.2.1).length
  · refine matT (lt_dec (i := (nodesOf v.1).length) (n := (nodesOf v.2.1).length) e) ?_
    rw [Nat.max_eq_right (by omega)] at key
    exact key
  · refine matF (ge_dec (i := (nodesOf v.1).length) (n := (nodesOf v.2.1).length) (by omega)) ?_
    rw [Nat.max_eq_left (by omega)] at key
    exact key
end Go.Proofs.Ytbikpfccdcblfaa.Eng
/- RebalanceLeast: least holds where the two definitions fit; else Plan tells it. -/
namespace Go.Proofs.Ytbikpfccdcblfaa.Eng
open Go
set_option linter.unusedVariables false

theorem planG_len {hc hd : List Int} {k k2 : Int} (h : hd.length ≤ 64) : ∀ (j n : Nat), (planG hc hd k k2 j n).length ≤ j * 4096
  | 0, n => by simp [planG]
  | j + 1, n => by
    unfold planG
    have h1 := planG_len (hc := hc) (k := k) (k2 := k2) h j (n + 1)
    have h2 := holds_len (home := hd) (k := k2) (n := (n : Int)) h
    rw [List.length_append, List.length_map]
    omega
theorem T7_l12 {v : D33} {hc hd : List Int} (h : Fit v.1 v.2.1 hc hd) {ms : List D44} (hms : ms.length ≤ 1048576) {n : Nat} {xs : List D49} (hn : xs.length ≤ 4096) (hx : ∀ x ∈ xs, 0 ≤ x.1 ∧ x.1 < hc.length) {rest : List D44} {kx : Int → D33 → Prop} {kr : Bool → Prop} :
    ∀ (r : List D49) (i k m : Nat), xs.drop i = r → r.length < m → ms.drop k = r.map (moveF hc v.1.2.1 n) ++ rest → (∀ k2 : Nat, ms.drop k2 = rest → k2 = k + r.length → kx k2 v) → T7f.l12 big ms n xs v m k i kx kr
  | [], i, k, m + 1, hd', hm, hl, hk => matF (ge_dec (drop_end hd')) (hk k (by simpa using hl) (by simp))
  | x :: r, i, k, m + 1, hd', hm, hl, hk => by
    obtain ⟨h1, h2, h3⟩ := drop_next hd'
    obtain ⟨q0, q1⟩ := hx x (h2 ▸ List.getElem_mem h1)
    rw [List.map_cons, List.cons_append] at hl
    obtain ⟨g1, g2, g3⟩ := drop_next hl
    have hm' : r.length < m := by simpa using hm
    have h64 := h.was.le
    have hol := owners_len (home := hc) (k := v.1.2.1) (p := x.1.toNat)
    have ok := moveF_ok (hc := hc) (k := v.1.2.1) (n := (n : Int)) (x := x) h.was.pos h.was.rep1
    refine matT (lt_dec h1) (matF (by simp; omega) (at_ok g1 (at_ok h1 ?_)))
    rw [h2, g2]
    refine T14_ok h.was q0 q1 ?_
    refine T15_ok (by omega) ?_
    refine T12_ok ?_
    dsimp only
    refine matF (b := !decide ((moveF hc v.1.2.1 n x).2.2.2.1 = (n : Int))) (by rw [ok.to]; simp) ?_
    refine at_ok h1 ?_
    rw [h2]
    refine matF (by rw [ok.part]; simp) ?_
    refine at_ok h1 ?_
    rw [h2]
    refine matF (by rw [ok.rep]; simp) ?_
    refine T15_ok (by omega) ?_
    refine matF (by rw [ok.from_]; simp) ?_
    refine matF (by rw [ok.own]; simp) ?_
    have fin : T7f.l12 big ms n xs v m (IntKind.i64.wrap ((k : Int) + 1)) (IntKind.i64.wrap ((i : Int) + 1)) kx kr := by
      rw [next_i h1 (by omega), next_i g1 (by omega)]
      exact T7_l12 h hms hn hx r (i + 1) (k + 1) m h3 hm' g3 fun k2 e1 e2 => hk k2 e1 (by rw [List.length_cons]; omega)
    by_cases e : placeF (ownersF hc v.1.2.1 x.1.toNat) n < 0
    · refine matT (decide_eq_true e) (matF (by rw [ok.zero e]; rfl) fin)
    · exact matF (decide_eq_false e) fin
theorem T7_l6 {v : D33} {hc hd : List Int} (h : Fit v.1 v.2.1 hc hd) {ms : List D44} (hms : ms.length ≤ 1048576) {kx : Int → D33 → Prop} {kr : Bool → Prop} :
    ∀ (j n k m : Nat), n + j = (nodesOf v.2.1).length → j < m → k ≤ ms.length → ms.drop k = planG hc hd v.1.2.1 v.2.1.2.1 j n → kx ((ms.length : Nat) : Int) v → T7f.l6 big ms m k n v kx kr
  | 0, n, k, m + 1, hn, hm, hkl, hl, hk => matF (ge_dec (n := (nodesOf v.2.1).length) (by omega)) (by
      have h1 := drop_end (xs := ms) (i := k) (by simpa [planG] using hl)
      have : k = ms.length := by omega
      subst this
      exact hk)
  | j + 1, n, k, m + 1, hn, hm, hkl, hl, hk => by
    have h1 : n < (nodesOf v.2.1).length := by omega
    have h16 := h.next.nodes
    unfold planG at hl
    refine matT (lt_dec (n := (nodesOf v.2.1).length) h1) (T13_ok h.next (by omega) (by omega) ?_)
    refine T12_ok ?_
    refine T7_l12 h hms (n := n) (xs := holdsF hd v.2.1.2.1 n) (holds_len h.next.le) (fun x hx => ?_) (holdsF hd v.2.1.2.1 n) 0 k big rfl (big_lt (by have := holds_len (home := hd) (k := v.2.1.2.1) (n := (n : Int)) h.next.le; omega)) hl fun k2 e1 e2 => ?_
    · obtain ⟨q, e, hq, _⟩ := holds_part hx
      rw [h.len, e]
      exact ⟨by omega, by omega⟩
    show T7f.l6 big ms m k2 (IntKind.i64.wrap ((n : Int) + 1)) v kx kr
    rw [next_i h1 (by omega)]
    have hk2 : k2 ≤ ms.length := by
      have e3 := congrArg List.length hl
      rw [List.length_drop, List.length_append, List.length_map] at e3
      omega
    exact T7_l6 h hms j (n + 1) k2 m (by omega) (by omega) hk2 e1 hk
theorem T7_ok {v : D33} {hc hd : List Int} (h : Fit v.1 v.2.1 hc hd) (hr : ∀ K : Int → Prop, K 0 → T19f.P big v.1 v.2.1 K) {K : Bool → Prop} (hk : K true) : T7f.P big v K := by
  have h16 := h.next.nodes
  refine T11_ok h hr ?_
  refine T12_ok ?_
  have hl : (planF v.1 v.2.1 hc hd).length ≤ 1048576 := by
    have := planG_len (hc := hc) (hd := hd) (k := v.1.2.1) (k2 := v.2.1.2.1) h.next.le (nodesOf v.2.1).length 0
    unfold planF
    omega
  refine T7_l6 h hl (nodesOf v.2.1).length 0 0 big (by omega) (big_lt (by omega)) (Nat.zero_le _) rfl ?_
  refine matT (decide_eq_true rfl) (matT (decide_eq_true (by have := plan_ne h; omega)) ?_)
  exact T16_ok h hr hk
/-- Plan answers: without error just where they fit. -/
theorem T11_end {c d : D30} {e : Int} (he : e ≠ 0) (hr : ∀ K : Int → Prop, K e → T19f.P big c d K) {K : List D44 → Int → Prop} (hk : K [] e) : T11f.P big c d K :=
  hr _ (matT (by simp [he]) hk)
end Go.Proofs.Ytbikpfccdcblfaa.Eng
/- RebalanceLeast: the statement over plain data. -/
namespace Go.Proofs.Ytbikpfccdcblfaa.Eng
open Go
set_option linter.unusedVariables false
set_option maxRecDepth 100000

def smallV : D33 := ((T8f.s_s, 1, 1, 1, 1, 9, 20, 1, 20, 2, 1, 2, 9000, 9000, 9000, 1, 1, 1, 1, 1, 1, 0, [(0, [0, 1], ())], ()), (T8f.s_s, 2, 1, 1, 1, 9, 20, 1, 20, 2, 1, 2, 9000, 9000, 9000, 1, 1, 1, 1, 1, 1, 0, [(0, [1], ()), (0, [0], ())], ()), [(T8f.s_oat, T8f.s_grain, ()), (T8f.s_rye, T8f.s_straw, ())], ())
theorem T8_ok {K : D33 → Prop} (h : K smallV) : T8f.P big K := h
theorem small_fit : T19f.P big smallV.1 smallV.2.1 (fun e => e ≠ 0) = ((0 : Int) ≠ 0) := by kernel_rfl
theorem fine_small1 : Fine smallV.1 := ⟨by decide, by decide⟩
theorem fine_small2 : Fine smallV.2.1 := ⟨by decide, by decide⟩
theorem T7_of {v : D33} (f1 : Fine v.1) (f2 : Fine v.2.1) : (∀ K : Bool → Prop, K true → T7f.P big v K) ∧ (∃ l : List D44, ∀ K : List D44 → Int → Prop, K l 0 → T11f.P big v.1 v.2.1 K) ∨ (∃ e : Int, e ≠ 0 ∧ (∀ K : Int → Prop, K e → T19f.P big v.1 v.2.1 K) ∧ ∀ K : List D44 → Int → Prop, K [] e → T11f.P big v.1 v.2.1 K) := by
  rcases fit_ok f1 f2 with ⟨hc, hd, h, hr⟩ | ⟨e, he, hr⟩
  · exact .inl ⟨fun K hk => T7_ok h hr hk, _, fun K hk => T11_ok h hr hk⟩
  · exact .inr ⟨e, he, hr, fun K hk => T11_end he hr hk⟩
theorem T7_gen {v : D33} (f1 : Fine v.1) (f2 : Fine v.2.1) (hs : T19f.P big v.1 v.2.1 (fun e => e ≠ 0) → False) {K : Bool → Prop} (hk : K true) : T7f.P big v K := by
  rcases T7_of f1 f2 with ⟨h, _⟩ | ⟨e, he, hr, _⟩
  · exact h K hk
  · exact (hs (hr (fun e => e ≠ 0) he)).elim
theorem T7_small (K : Bool → Prop) (hk : K true) : T7f.P big smallV K := T7_gen (v := smallV) (K := K) fine_small1 fine_small2 (fun h => absurd rfl (Eq.mp small_fit h)) hk
def addOne (v : Int) : Int := IntKind.i64.wrap (v + 1)
theorem T17_l11 {ps : List D54} (hn : ps.length ≤ 4611686018427387904) {w : D57} : ∀ (r : List D54) (i m : Nat) (a : Int) (s : List (List UInt8 × Int)), ps.drop i = r → r.length < m →
    (∃ (t : Int) (s2 : List (List UInt8 × Int)), ∀ (kx : Int → List (List UInt8 × Int) → D57 → Prop) (kr : Int → Prop), kx t s2 w → T17f.l11 big ps ps ((ps.length : Nat) : Int) w m a s i kx kr) ∨
    (∃ e : Int, ∀ (kx : Int → List (List UInt8 × Int) → D57 → Prop) (kr : Int → Prop), kr e → T17f.l11 big ps ps ((ps.length : Nat) : Int) w m a s i kx kr)
  | [], i, m + 1, a, s, hd, hm => .inl ⟨a, s, fun kx kr hk => matF (ge_dec (drop_end hd)) hk⟩
  | x :: r, i, m + 1, a, s, hd, hm => by
    obtain ⟨h1, h2, h3⟩ := drop_next hd
    have hm' : r.length < m := by simpa using hm
    by_cases e1 : ((x.1.length : Nat) : Int) < 1
    · exact .inr ⟨32, fun kx kr hk => matT (lt_dec h1) (at_ok h1 (by rw [h2]; exact matT (decide_eq_true e1) hk))⟩
    by_cases e2 : (255 : Int) < ((x.1.length : Nat) : Int)
    · exact .inr ⟨32, fun kx kr hk => matT (lt_dec h1) (at_ok h1 (by rw [h2]; exact matF (decide_eq_false e1) (matT (decide_eq_true e2) hk)))⟩
    by_cases e3 : (4096 : Int) < ((x.2.1.length : Nat) : Int)
    · exact .inr ⟨33, fun kx kr hk => matT (lt_dec h1) (at_ok h1 (by rw [h2]; exact matF (decide_eq_false e1) (matF (decide_eq_false e2) (matT (decide_eq_true e3) hk))))⟩
    have stp : ∃ (a2 : Int) (s2 : List (List UInt8 × Int)), ∀ (kx : Int → List (List UInt8 × Int) → D57 → Prop) (kr : Int → Prop), T17f.l11 big ps ps ((ps.length : Nat) : Int) w m a2 s2 ((i + 1 : Nat) : Int) kx kr → T17f.l11 big ps ps ((ps.length : Nat) : Int) w (m + 1) a s i kx kr := by
      cases hf : tfind (t := .str) (v := .int .i64) x.1 s with
      | some v =>
        refine ⟨IntKind.i64.wrap (a + IntKind.i64.wrap (((x.1.length : Nat) : Int) + ((x.2.1.length : Nat) : Int))), tset (t := .str) (v := .int .i64) x.1 (addOne v) s, fun kx kr hk => matT (lt_dec h1) (at_ok h1 ?_)⟩
        rw [h2]
        refine matF (decide_eq_false e1) (matF (decide_eq_false e2) (matF (decide_eq_false e3) ?_))
        dsimp only
        rw [hf]
        show T17f.l11 big ps ps ((ps.length : Nat) : Int) w m _ (tset (t := .str) (v := .int .i64) x.1 (addOne v) s) (IntKind.i64.wrap ((i : Int) + 1)) kx kr
        rw [next_i h1 hn]
        exact hk
      | none =>
        refine ⟨IntKind.i64.wrap (a + IntKind.i64.wrap (((x.1.length : Nat) : Int) + ((x.2.1.length : Nat) : Int))), tset (t := .str) (v := .int .i64) x.1 (IntKind.i64.wrap (0 + 1)) s, fun kx kr hk => matT (lt_dec h1) (at_ok h1 ?_)⟩
        rw [h2]
        refine matF (decide_eq_false e1) (matF (decide_eq_false e2) (matF (decide_eq_false e3) ?_))
        dsimp only
        rw [hf]
        show T17f.l11 big ps ps ((ps.length : Nat) : Int) w m _ (tset (t := .str) (v := .int .i64) x.1 (IntKind.i64.wrap (0 + 1)) s) (IntKind.i64.wrap ((i : Int) + 1)) kx kr
        rw [next_i h1 hn]
        exact hk
    obtain ⟨a2, s2, st⟩ := stp
    rcases T17_l11 hn (w := w) r (i + 1) m a2 s2 h3 hm' with ⟨t, s3, g⟩ | ⟨e, g⟩
    · exact .inl ⟨t, s3, fun kx kr hk => st kx kr (g kx kr hk)⟩
    · exact .inr ⟨e, fun kx kr hk => st kx kr (g kx kr hk)⟩
def orderV : D57 := (3, 0, 1048576, 2, ())
theorem T17_at (ps : List D54) (K : Int → Prop) : T17f.P big orderV ps K = (match (generalizing := false) decide ((512 : Int) < ((ps.length : Nat) : Int)) with | true => K 82 | false => T17f.j9 big ps orderV K) := by kernel_rfl
theorem T17_ok (ps : List D54) : ∃ e : Int, ∀ K : Int → Prop, K e → T17f.P big orderV ps K := by
  by_cases e1 : (512 : Int) < ((ps.length : Nat) : Int)
  · exact ⟨82, fun K hk => by rw [T17_at]; exact matT (decide_eq_true e1) hk⟩
  have pre : ∀ K : Int → Prop, T17f.j9 big ps orderV K → T17f.P big orderV ps K := fun K hk => by rw [T17_at]; exact matF (decide_eq_false e1) hk
  rcases T17_l11 (ps := ps) (w := orderV) (by omega) ps 0 big 0 [] rfl (big_lt (by omega)) with ⟨t, s, g⟩ | ⟨e, g⟩
  · by_cases e2 : (32768 : Int) < t
    · exact ⟨3, fun K hk => pre K (g _ _ (matT (decide_eq_true e2) hk))⟩
    · exact ⟨0, fun K hk => pre K (g _ _ (matF (decide_eq_false e2) hk))⟩
  · exact ⟨e, fun K hk => pre K (g _ _ hk)⟩
theorem T18_ok {K : D57 → Prop} (h : K orderV) : T18f.P big K := h
theorem T4_gen {w v : D33} (h8 : ∀ K : D33 → Prop, K w → T8f.P big K) (hw : ∀ K : Bool → Prop, K true → T7f.P big w K) (f1 : Fine v.1) (f2 : Fine v.2.1) {K : Bool → Prop} (hk : K true) : T4f.P big v K := by
  show T8f.P big _
  refine h8 _ ?_
  refine hw _ ?_
  obtain ⟨e, he⟩ := T17_ok v.2.2.1
  show T18f.P big fun r1 => T17f.P big r1 v.2.2.1 _
  refine T18_ok ?_
  refine he _ ?_
  rcases T7_of f1 f2 with ⟨h, l, hp⟩ | ⟨e2, he2, _, hp⟩
  · refine hp _ ?_
    refine T12_ok ?_
    by_cases z : e = 0
    · refine matF (by simp [z]) ?_
      refine T12_ok ?_
      exact h _ hk
    · refine matT (by simp [z]) ?_
      refine h8 _ ?_
      exact hw _ hk
  · refine hp _ ?_
    refine T12_ok ?_
    by_cases z : e = 0
    · refine matF (by simp [z]) ?_
      refine T12_ok ?_
      refine matT (by simp [he2]) ?_
      refine h8 _ ?_
      exact hw _ hk
    · refine matT (by simp [z]) ?_
      refine h8 _ ?_
      exact hw _ hk
/-- The statement over plain data. -/
theorem T4_ok {v : D33} (f1 : Fine v.1) (f2 : Fine v.2.1) {K : Bool → Prop} (hk : K true) : T4f.P big v K := T4_gen (w := smallV) (fun K h => T8_ok h) T7_small f1 f2 hk
end Go.Proofs.Ytbikpfccdcblfaa.Eng
