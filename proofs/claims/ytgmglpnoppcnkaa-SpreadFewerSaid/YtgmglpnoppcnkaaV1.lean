/- Plain facts on a binary heap in a list: sifting up and down, no program in sight. -/
import Derived.Below
namespace Go.Proofs.Ytgmglpnoppcnkaa
set_option linter.unusedVariables false

abbrev Vis := Int × Int
def vz : Vis := (0, 0)
/-- Element i. -/
def vat (l : List Vis) (i : Nat) : Vis := l.getD i vz
def swapL (l : List Vis) (i j : Nat) : List Vis := (l.set i (vat l j)).set j (vat l i)

theorem swapL_length (l : List Vis) (i j : Nat) : (swapL l i j).length = l.length := by simp [swapL]
theorem vat_swap (l : List Vis) (i j m : Nat) (hi : i < l.length) (hj : j < l.length) : vat (swapL l i j) m = if m = i then vat l j else if m = j then vat l i else vat l m := by
  unfold swapL vat
  simp only [List.getD_eq_getElem?_getD, List.getElem?_set, List.length_set]
  by_cases h1 : m = j
  · subst h1
    by_cases h2 : m = i
    · subst h2; simp [hi]
    · simp [hj, h2]
  · by_cases h2 : m = i
    · subst h2; simp [hi, Ne.symm h1]
    · simp [Ne.symm h1, h1, h2, Ne.symm h2]

theorem vat_get (l : List Vis) (i : Nat) (hi : i < l.length) : l[i]? = some (vat l i) := by simp [vat, List.getElem?_eq_getElem hi]

theorem swapL_perm (l : List Vis) (i j : Nat) (hi : i < l.length) (hj : j < l.length) : (swapL l i j).Perm l := by
  by_cases hij : i = j
  · subst hij
    have : swapL l i i = l := by
      apply List.ext_getElem?
      intro m
      unfold swapL
      simp only [List.getElem?_set, List.length_set]
      split
      · rename_i h; subst h; rw [vat_get l i hi]
      · rfl
    rw [this]
  · unfold swapL
    have e1 : vat l i = l[i] := by simp [vat, List.getElem?_eq_getElem hi]
    have e2 : vat l j = l[j] := by simp [vat, List.getElem?_eq_getElem hj]
    rw [e1, e2]
    exact List.set_set_perm hi hj

/-- put's loop. -/
def siftUp (l : List Vis) (k : Nat) : List Vis :=
  if h : 0 < k ∧ (vat l k).2 < (vat l ((k - 1) / 2)).2 then siftUp (swapL l k ((k - 1) / 2)) ((k - 1) / 2) else l
termination_by k
decreasing_by omega

/-- Which of i and its children (below n) is least, as take's inner loop finds it. -/
def leastChild (l : List Vis) (n i : Nat) : Nat :=
  let a := if 2 * i + 1 < n ∧ (vat l (2 * i + 1)).2 < (vat l i).2 then 2 * i + 1 else i
  if 2 * i + 2 < n ∧ (vat l (2 * i + 2)).2 < (vat l a).2 then 2 * i + 2 else a

theorem leastChild_cases (l : List Vis) (n i : Nat) : (leastChild l n i = i ∨ leastChild l n i = 2 * i + 1 ∧ 2 * i + 1 < n) ∨ leastChild l n i = 2 * i + 2 ∧ 2 * i + 2 < n := by
  unfold leastChild
  by_cases h1 : 2 * i + 1 < n ∧ (vat l (2 * i + 1)).2 < (vat l i).2
  · simp only [if_pos h1]
    by_cases h2 : 2 * i + 2 < n ∧ (vat l (2 * i + 2)).2 < (vat l (2 * i + 1)).2
    · simp only [if_pos h2]; exact .inr ⟨trivial, h2.1⟩
    · simp only [if_neg h2]; exact .inl (.inr ⟨trivial, h1.1⟩)
  · simp only [if_neg h1]
    by_cases h2 : 2 * i + 2 < n ∧ (vat l (2 * i + 2)).2 < (vat l i).2
    · simp only [if_pos h2]; exact .inr ⟨trivial, h2.1⟩
    · simp only [if_neg h2]; exact .inl (.inl trivial)

/-- take's loop, over the first n elements. -/
def siftDown (l : List Vis) (n i : Nat) : List Vis :=
  if h : leastChild l n i = i then l else siftDown (swapL l i (leastChild l n i)) n (leastChild l n i)
termination_by n - i
decreasing_by
  have := leastChild_cases l n i
  omega

/-! ### The cells -/
open Go in
def visC (v : Vis) : List Value := [.int .i64 v.1, .int .i64 v.2]
open Go in
def visCs (l : List Vis) : List Value := l.flatMap visC
theorem visCs_length (l : List Vis) : (visCs l).length = l.length * 2 := by
  induction l with
  | nil => rfl
  | cons v l ih => simp only [visCs, List.flatMap_cons, List.length_append, List.length_cons] at ih ⊢; rw [ih]; simp [visC]; omega
theorem visCs_append (l k : List Vis) : visCs (l ++ k) = visCs l ++ visCs k := by simp [visCs]
theorem visCs_get0 (l : List Vis) : ∀ i, i < l.length → (visCs l)[i * 2]? = some (.int .i64 (vat l i).1) := by
  induction l with
  | nil => intro i h; simp at h
  | cons v l ih =>
    intro i h
    cases i with
    | zero => simp [visCs, visC, vat]
    | succ i =>
      have := ih i (by simpa using h)
      rw [show (i + 1) * 2 = i * 2 + 2 by omega]
      simp only [visCs, List.flatMap_cons, visC, List.cons_append, List.nil_append] at this ⊢
      simpa [vat] using this
theorem visCs_get1 (l : List Vis) : ∀ i, i < l.length → (visCs l)[i * 2 + 1]? = some (.int .i64 (vat l i).2) := by
  induction l with
  | nil => intro i h; simp at h
  | cons v l ih =>
    intro i h
    cases i with
    | zero => simp [visCs, visC, vat]
    | succ i =>
      have := ih i (by simpa using h)
      rw [show (i + 1) * 2 + 1 = i * 2 + 1 + 2 by omega]
      simp only [visCs, List.flatMap_cons, visC, List.cons_append, List.nil_append] at this ⊢
      simpa [vat] using this
theorem visCs_set (l : List Vis) (v : Vis) : ∀ i, ((visCs l).set (i * 2) (.int .i64 v.1)).set (i * 2 + 1) (.int .i64 v.2) = visCs (l.set i v) := by
  induction l with
  | nil => intro i; simp [visCs]
  | cons u l ih =>
    intro i
    cases i with
    | zero => simp [visCs, visC]
    | succ i =>
      have := ih i
      rw [show (i + 1) * 2 = i * 2 + 1 + 1 by omega]
      simp only [visCs, List.flatMap_cons, visC, List.cons_append, List.nil_append, List.set_cons_succ] at this ⊢
      rw [this]
theorem visCs_take (l : List Vis) : ∀ n, (visCs l).take (n * 2) = visCs (l.take n) := by
  induction l with
  | nil => intro n; simp [visCs]
  | cons u l ih =>
    intro n
    cases n with
    | zero => simp [visCs]
    | succ n =>
      have := ih n
      rw [show (n + 1) * 2 = n * 2 + 1 + 1 by omega]
      simp only [visCs, List.flatMap_cons, visC, List.cons_append, List.nil_append, List.take_succ_cons] at this ⊢
      rw [this]
end Go.Proofs.Ytgmglpnoppcnkaa
