/- Plain facts on a binary heap: what sifting keeps. -/
import Derived.Test.YtgmglpnoppcnkaaV1
namespace Go.Proofs.Ytgmglpnoppcnkaa
set_option linter.unusedVariables false

/-- No element is before its parent. -/
def HeapOk (l : List Vis) : Prop := ∀ i, 0 < i → i < l.length → (vat l ((i - 1) / 2)).2 ≤ (vat l i).2

theorem HeapOk.min {l : List Vis} (h : HeapOk l) : ∀ i, i < l.length → (vat l 0).2 ≤ (vat l i).2 := by
  intro i
  induction i using Nat.strongRecOn with
  | ind i ih =>
    intro hi
    rcases Nat.eq_zero_or_pos i with rfl | h0
    · exact Int.le_refl _
    · exact Int.le_trans (ih ((i - 1) / 2) (by omega) (by omega)) (h i h0 hi)

theorem siftUp_perm (l : List Vis) (k : Nat) (hk : k < l.length) : (siftUp l k).Perm l := by
  induction k using Nat.strongRecOn generalizing l with
  | ind k ih =>
    rw [siftUp]
    split
    · rename_i h
      exact (ih ((k - 1) / 2) (by omega) _ (by rw [swapL_length]; omega)).trans (swapL_perm l k ((k - 1) / 2) hk (by omega))
    · exact List.Perm.refl _

theorem siftUp_ok (l : List Vis) (k : Nat) (hk : k < l.length) (h1 : ∀ i, 0 < i → i < l.length → i ≠ k → (vat l ((i - 1) / 2)).2 ≤ (vat l i).2)
    (h2 : ∀ c, 0 < c → c < l.length → (c - 1) / 2 = k → 0 < k → (vat l ((k - 1) / 2)).2 ≤ (vat l c).2) : HeapOk (siftUp l k) := by
  induction k using Nat.strongRecOn generalizing l with
  | ind k ih =>
    rw [siftUp]
    split
    · rename_i h
      obtain ⟨h0, ht⟩ := h
      obtain ⟨p, hp⟩ : ∃ p, p = (k - 1) / 2 := ⟨_, rfl⟩
      rw [← hp] at ht ⊢
      have hpk : p < k := by omega
      have hpl : p < l.length := by omega
      refine ih p hpk _ (by rw [swapL_length]; omega) ?_ ?_
      · intro i hi0 hil hip
        rw [swapL_length] at hil
        rw [vat_swap l k p _ hk hpl, vat_swap l k p _ hk hpl]
        by_cases hik : i = k
        · subst hik
          rw [if_neg (by omega), if_pos hp.symm, if_pos rfl]
          omega
        · rw [if_neg hik, if_neg hip]
          by_cases hpar : (i - 1) / 2 = k
          · rw [if_pos hpar]
            have := h2 i hi0 hil hpar h0
            rw [← hp] at this
            exact this
          · rw [if_neg hpar]
            by_cases hpp : (i - 1) / 2 = p
            · rw [if_pos hpp]
              have := h1 i hi0 hil hik
              rw [hpp] at this
              omega
            · rw [if_neg hpp]
              exact h1 i hi0 hil hik
      · intro c hc0 hcl hcp hp0
        rw [swapL_length] at hcl
        rw [vat_swap l k p _ hk hpl, vat_swap l k p _ hk hpl]
        have hq : (p - 1) / 2 < p := by omega
        rw [if_neg (by omega), if_neg (by omega)]
        have hgp := h1 p hp0 hpl (by omega)
        by_cases hck : c = k
        · rw [if_pos hck]; exact hgp
        · rw [if_neg hck, if_neg (by omega)]
          have := h1 c hc0 hcl hck
          rw [hcp] at this
          omega
    · rename_i h
      intro i hi0 hil
      by_cases hik : i = k
      · subst hik
        by_cases ht : (vat l i).2 < (vat l ((i - 1) / 2)).2
        · exact absurd ⟨hi0, ht⟩ h
        · omega
      · exact h1 i hi0 hil hik

theorem vat_append_lt (l : List Vis) (x : Vis) (i : Nat) (h : i < l.length) : vat (l ++ [x]) i = vat l i := by
  simp [vat, List.getElem?_append_left h]

/-- put keeps the heap. -/
theorem put_ok (l : List Vis) (x : Vis) (h : HeapOk l) : HeapOk (siftUp (l ++ [x]) l.length) := by
  refine siftUp_ok _ _ (by simp) ?_ ?_
  · intro i h0 hi hne
    have : i < l.length := by simp at hi; omega
    rw [vat_append_lt l x i this, vat_append_lt l x _ (by omega)]
    exact h i h0 this
  · intro c h0 hc hp _
    simp at hc
    omega
theorem put_perm (l : List Vis) (x : Vis) : (siftUp (l ++ [x]) l.length).Perm (x :: l) :=
  (siftUp_perm _ _ (by simp)).trans (List.perm_append_comm (l₁ := l) (l₂ := [x]))

theorem leastChild_le (l : List Vis) (n i : Nat) : (vat l (leastChild l n i)).2 ≤ (vat l i).2 ∧ (2 * i + 1 < n → (vat l (leastChild l n i)).2 ≤ (vat l (2 * i + 1)).2) ∧ (2 * i + 2 < n → (vat l (leastChild l n i)).2 ≤ (vat l (2 * i + 2)).2) := by
  unfold leastChild
  by_cases h1 : 2 * i + 1 < n ∧ (vat l (2 * i + 1)).2 < (vat l i).2
  · simp only [if_pos h1]
    by_cases h2 : 2 * i + 2 < n ∧ (vat l (2 * i + 2)).2 < (vat l (2 * i + 1)).2
    · simp only [if_pos h2]
      exact ⟨by omega, fun _ => by omega, fun _ => Int.le_refl _⟩
    · simp only [if_neg h2]
      refine ⟨by omega, fun _ => Int.le_refl _, fun h => ?_⟩
      by_cases h3 : (vat l (2 * i + 2)).2 < (vat l (2 * i + 1)).2
      · exact absurd ⟨h, h3⟩ h2
      · omega
  · simp only [if_neg h1]
    have h1' : 2 * i + 1 < n → (vat l i).2 ≤ (vat l (2 * i + 1)).2 := fun h => by
      by_cases h3 : (vat l (2 * i + 1)).2 < (vat l i).2
      · exact absurd ⟨h, h3⟩ h1
      · omega
    by_cases h2 : 2 * i + 2 < n ∧ (vat l (2 * i + 2)).2 < (vat l i).2
    · simp only [if_pos h2]
      exact ⟨by omega, fun h => by have := h1' h; omega, fun _ => Int.le_refl _⟩
    · simp only [if_neg h2]
      refine ⟨Int.le_refl _, h1', fun h => ?_⟩
      by_cases h3 : (vat l (2 * i + 2)).2 < (vat l i).2
      · exact absurd ⟨h, h3⟩ h2
      · omega

theorem siftDown_all (l : List Vis) (n i : Nat) (hn : l.length = n) (hi : i < n ∨ i = 0 ∧ n = 0) (h1 : ∀ c, 0 < c → c < n → (c - 1) / 2 ≠ i → (vat l ((c - 1) / 2)).2 ≤ (vat l c).2)
    (h2 : ∀ c, 0 < c → c < n → (c - 1) / 2 = i → 0 < i → (vat l ((i - 1) / 2)).2 ≤ (vat l c).2) : HeapOk (siftDown l n i) ∧ (siftDown l n i).Perm l := by
  induction hk : n - i using Nat.strongRecOn generalizing l i with
  | ind k ih =>
    obtain ⟨hl1, hl2, hl3⟩ := leastChild_le l n i
    rw [siftDown]
    split
    · rename_i he
      rw [he] at hl1 hl2 hl3
      refine ⟨fun c hc0 hcl => ?_, List.Perm.refl _⟩
      rw [hn] at hcl
      by_cases hp : (c - 1) / 2 = i
      · rw [hp]
        rcases (show c = 2 * i + 1 ∨ c = 2 * i + 2 by omega) with rfl | rfl
        · exact hl2 hcl
        · exact hl3 hcl
      · exact h1 c hc0 hcl hp
    · rename_i hne
      obtain ⟨m, hm⟩ : ∃ m, m = leastChild l n i := ⟨_, rfl⟩
      rw [← hm] at hne hl1 hl2 hl3 ⊢
      have hcs := leastChild_cases l n i
      rw [← hm] at hcs
      have hmn : m < n := by omega
      have him : i < m := by omega
      have hpm : (m - 1) / 2 = i := by omega
      have hil : i < l.length := by omega
      have hml : m < l.length := by omega
      have := ih (n - m) (by omega) (swapL l i m) m (by rw [swapL_length]; exact hn) (.inl hmn) ?_ ?_ rfl
      · exact ⟨this.1, this.2.trans (swapL_perm l i m hil hml)⟩
      · intro c hc0 hcn hcp
        rw [vat_swap l i m _ hil hml, vat_swap l i m _ hil hml]
        by_cases hci : c = i
        · subst hci
          rw [if_pos rfl, if_neg (by omega), if_neg (by omega)]
          exact h2 m (by omega) hmn hpm hc0
        · rw [if_neg hci, if_neg hcp]
          by_cases hcm : c = m
          · subst hcm
            rw [if_pos rfl, if_pos hpm]; exact hl1
          · rw [if_neg hcm]
            by_cases hpi : (c - 1) / 2 = i
            · rw [if_pos hpi]
              rcases (show c = 2 * i + 1 ∨ c = 2 * i + 2 by omega) with rfl | rfl
              · exact hl2 hcn
              · exact hl3 hcn
            · rw [if_neg hpi]
              exact h1 c hc0 hcn hpi
      · intro c hc0 hcn hcp _
        rw [vat_swap l i m _ hil hml, vat_swap l i m _ hil hml, hpm, if_pos rfl, if_neg (by omega), if_neg (by omega)]
        have := h1 c hc0 hcn (by omega)
        rw [hcp] at this
        exact this

/-- What take leaves of a list. -/
def takeRest (l : List Vis) : List Vis := siftDown ((l.set 0 (vat l (l.length - 1))).take (l.length - 1)) (l.length - 1) 0

/-- take keeps the heap; what it returns and what it leaves are what there was. -/
theorem take_all (l : List Vis) (h : HeapOk l) (h0 : 0 < l.length) : HeapOk (takeRest l) ∧ (vat l 0 :: takeRest l).Perm l ∧ (takeRest l).length + 1 = l.length := by
  obtain ⟨n, hn⟩ : ∃ n, l.length = n + 1 := ⟨l.length - 1, by omega⟩
  unfold takeRest
  rw [hn, Nat.add_sub_cancel]
  obtain ⟨m, hm⟩ : ∃ m, m = (l.set 0 (vat l n)).take n := ⟨_, rfl⟩
  rw [← hm]
  have hml : m.length = n := by rw [hm]; simp; omega
  have hat : ∀ i, 0 < i → i < n → vat m i = vat l i := fun i hi0 hin => by
    rw [hm]
    unfold vat
    simp only [List.getD_eq_getElem?_getD, List.getElem?_take, if_pos hin, List.getElem?_set]
    rw [if_neg (by omega)]
  have hsd := siftDown_all m n 0 hml (by omega) (fun c hc0 hcn hp => by
    rw [hat _ (by omega) (by omega), hat c hc0 hcn]
    exact h c hc0 (by omega)) (fun c _ _ _ hh => absurd hh (by omega))
  refine ⟨hsd.1, ?_, by have := hsd.2.length_eq; omega⟩
  refine (hsd.2.cons _).trans ?_
  rw [hm]
  cases l with
  | nil => simp at h0
  | cons a r =>
    simp only [List.length_cons, Nat.add_right_cancel_iff] at hn
    rcases Nat.eq_zero_or_pos n with rfl | hn0
    · have : r = [] := List.eq_nil_of_length_eq_zero hn
      subst this
      simp [vat]
    · obtain ⟨k, rfl⟩ : ∃ k, n = k + 1 := ⟨n - 1, by omega⟩
      have hr : r = r.take k ++ [vat (a :: r) (k + 1)] := by
        have e : vat (a :: r) (k + 1) = r[k]'(by omega) := by simp [vat, List.getElem?_eq_getElem (show k < r.length by omega)]
        rw [e, ← List.take_succ_eq_append_getElem (by omega), List.take_of_length_le (by omega)]
      simp only [List.set_cons_zero, List.take_succ_cons]
      have e0 : vat (a :: r) 0 = a := by simp [vat]
      rw [e0]
      generalize hz : vat (a :: r) (k + 1) = z at hr
      refine List.Perm.cons a ?_
      conv => rhs; rw [hr]
      exact (List.perm_append_comm (l₁ := [z]) (l₂ := r.take k))
end Go.Proofs.Ytgmglpnoppcnkaa
