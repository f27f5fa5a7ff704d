/- Check, plainly: what the printed function answers. -/
import Derived.Test.YtgmglpnoppcnkaaPBx
namespace Go.Proofs.Ytgmglpnoppcnkaa
open Go.RowKit
set_option linter.unusedVariables false
abbrev Lk := PB.S88

def linkBad (nn uu : Int) (l : Lk) : Prop := ¬ (0 ≤ l.f0 ∧ l.f0 ≤ nn - 1) ∨ ¬ (0 ≤ l.f1 ∧ l.f1 ≤ nn - 1) ∨ ¬ (-1 ≤ l.f3 ∧ l.f3 ≤ uu - 1)
instance (nn uu : Int) (l : Lk) : Decidable (linkBad nn uu l) := by unfold linkBad; infer_instance
def timedP (lo hi : Int) : Prop := 0 ≤ lo ∧ lo ≤ hi ∧ hi ≤ 1000000000
instance (lo hi : Int) : Decidable (timedP lo hi) := by unfold timedP; infer_instance
/-- The error of a link. -/
def linkErr (nn uu : Int) (l : Lk) : Int := if linkBad nn uu l then 4 else if l.f0 = l.f1 then 2 else if timedP l.f2.f0 l.f2.f1 then 0 else 3
def linksErr (nn uu : Int) : List Lk → Int
  | [] => 0
  | l :: r => if linkErr nn uu l = 0 then linksErr nn uu r else linkErr nn uu l
/-- P8.1 -/
def checkE (nn uu : Int) (ls : List Lk) : Int :=
  if (1 ≤ nn ∧ nn ≤ 64) ∧ 0 ≤ uu ∧ uu ≤ 20 then (if 256 < ls.length then 9 else linksErr nn uu ls) else 3
/-- The error of a network and a start. -/
def startE (nn uu : Int) (ls : List Lk) (sn lo hi : Int) : Int :=
  if checkE nn uu ls = 0 then (if 0 ≤ sn ∧ sn ≤ nn - 1 then (if timedP lo hi then 0 else 3) else 4) else checkE nn uu ls

theorem within_eq (a lo hi : Int) : PB.spread_within.f a lo hi = some (decide (lo ≤ a ∧ a ≤ hi)) := by
  unfold PB.spread_within.f
  by_cases h : lo ≤ a
  · rw [if_pos h]; simp [h]
  · rw [if_neg h]; simp [h]
theorem timed_eq (lo hi : Int) : PB.spread_timed.f lo hi = some (decide (timedP lo hi)) := by
  unfold PB.spread_timed.f timedP
  by_cases h : 0 ≤ lo
  · rw [if_pos h]
    by_cases h2 : lo ≤ hi
    · rw [if_pos h2]; simp [h, h2]
    · rw [if_neg h2]; simp [h2]
  · rw [if_neg h]; simp [h]

theorem wrap_pred {n : Int} (h0 : 0 ≤ n) (h1 : n ≤ 1000000) : wrap64 (n - 1) = n - 1 := by unfold wrap64; omega
theorem wrap_succ {n : Int} (h0 : 0 ≤ n) (h1 : n ≤ 1000000) : wrap64 (n + 1) = n + 1 := by unfold wrap64; omega

theorem check_loop (nn uu : Int) (ls : List Lk) (h1 : 1 ≤ nn ∧ nn ≤ 64) (h2 : 0 ≤ uu ∧ uu ≤ 20) (hl : ls.length ≤ 256) :
    ∀ (d i : Nat), i + d = ls.length → ∃ k, PB.spread_Check.l0 k ls (ls.length : Int) (i : Int) nn uu ls = some (linksErr nn uu (ls.drop i)) := by
  intro d
  induction d with
  | zero =>
    intro i hi
    refine ⟨1, ?_⟩
    rw [PB.spread_Check.l0, if_neg (by omega), List.drop_of_length_le (by omega)]
    rfl
  | succ d ih =>
    intro i hi
    obtain ⟨k, hk⟩ := ih (i + 1) (by omega)
    have hlt : i < ls.length := by omega
    obtain ⟨l, hl'⟩ : ∃ l, l = ls[i] := ⟨_, rfl⟩
    have hrd : PB.rd_T88 ls (i : Int) = l := by simp [PB.rd_T88, List.getElem?_eq_getElem hlt, hl']
    have hdrop : ls.drop i = l :: ls.drop (i + 1) := by rw [hl']; exact List.drop_eq_getElem_cons hlt
    have hj : ∀ b : Bool, PB.spread_Check.j2 (k + 1) ls (ls.length : Int) (i : Int) b nn uu ls l.f0 l.f1 l.f2.f0 l.f2.f1 l.f3 l.f4 =
        if b = true then some 4 else if l.f0 = l.f1 then some 2 else if timedP l.f2.f0 l.f2.f1 then some (linksErr nn uu (ls.drop (i + 1))) else some 3 := by
      intro b
      rw [PB.spread_Check.j2, timed_eq]
      have e : wrap64 ((i : Int) + 1) = ((i + 1 : Nat) : Int) := by rw [wrap_succ (by omega) (by omega)]; omega
      rw [e, hk]
      simp only [Option.bind_some, decide_eq_true_eq]
    refine ⟨k + 2, ?_⟩
    rw [PB.spread_Check.l0, if_pos (by omega), if_pos (by omega), if_pos (by omega), hrd]
    simp only [within_eq, wrap_pred (show 0 ≤ nn by omega) (by omega), wrap_pred (show 0 ≤ uu by omega) (by omega), Option.bind_some, hj, decide_eq_true_eq]
    rw [hdrop, linksErr]
    by_cases c1 : 0 ≤ l.f0 ∧ l.f0 ≤ nn - 1
    · by_cases c2 : 0 ≤ l.f1 ∧ l.f1 ≤ nn - 1
      · by_cases c3 : -1 ≤ l.f3 ∧ l.f3 ≤ uu - 1
        · have c3' : (!decide (-1 ≤ l.f3 ∧ l.f3 ≤ uu - 1)) = false := by rw [decide_eq_true c3]; rfl
          have hb : ¬ linkBad nn uu l := by unfold linkBad; omega
          rw [if_pos c1, if_pos c2, c3', if_neg (by decide)]
          by_cases c4 : l.f0 = l.f1
          · have : linkErr nn uu l = 2 := by unfold linkErr; rw [if_neg hb, if_pos c4]
            rw [if_pos c4, this]; simp
          · rw [if_neg c4]
            by_cases c5 : timedP l.f2.f0 l.f2.f1
            · have : linkErr nn uu l = 0 := by unfold linkErr; rw [if_neg hb, if_neg c4, if_pos c5]
              rw [if_pos c5, this]; simp
            · have : linkErr nn uu l = 3 := by unfold linkErr; rw [if_neg hb, if_neg c4, if_neg c5]
              rw [if_neg c5, this]; simp
        · have c3' : (!decide (-1 ≤ l.f3 ∧ l.f3 ≤ uu - 1)) = true := by rw [decide_eq_false c3]; rfl
          have : linkErr nn uu l = 4 := by unfold linkErr; rw [if_pos (by unfold linkBad; exact .inr (.inr c3))]
          rw [if_pos c1, if_pos c2, c3', if_pos rfl, this]; simp
      · have : linkErr nn uu l = 4 := by unfold linkErr; rw [if_pos (by unfold linkBad; exact .inr (.inl c2))]
        rw [if_pos c1, if_neg c2, if_pos trivial, this]; simp
    · have : linkErr nn uu l = 4 := by unfold linkErr; rw [if_pos (by unfold linkBad; exact .inl c1)]
      rw [if_neg c1, if_pos trivial, this]; simp

/-- The printed Check answers checkE. -/
theorem check_eq (nn uu : Int) (ls : List Lk) : ∃ k, PB.spread_Check.f k nn uu ls = some (checkE nn uu ls) := by
  unfold PB.spread_Check.f checkE
  simp only [within_eq, Option.bind_some, decide_eq_true_eq]
  by_cases h1 : 1 ≤ nn ∧ nn ≤ 64
  · by_cases h2 : 0 ≤ uu ∧ uu ≤ 20
    · rw [if_pos ⟨h1, h2⟩]
      by_cases h3 : 256 < ls.length
      · refine ⟨1, ?_⟩
        rw [if_pos h1, decide_eq_true h2, PB.spread_Check.j0, if_neg (by decide), if_pos (by omega), if_pos h3]
      · obtain ⟨k, hk⟩ := check_loop nn uu ls h1 h2 (by omega) ls.length 0 (by omega)
        refine ⟨k + 1, ?_⟩
        rw [if_pos h1, decide_eq_true h2, PB.spread_Check.j0, if_neg (by decide), if_neg (by omega), if_neg h3]
        simpa using hk
    · refine ⟨1, ?_⟩
      rw [if_pos h1, decide_eq_false h2, PB.spread_Check.j0, if_pos (show (!false) = true from rfl), if_neg (fun h => h2 h.2)]
  · refine ⟨1, ?_⟩
    rw [if_neg h1, PB.spread_Check.j0, if_pos (show true = true from rfl), if_neg (fun h => h1 h.1)]

/-- What a network without an error is. -/
structure NetOk (nn uu : Int) (ls : List Lk) : Prop where
  n1 : 1 ≤ nn
  n2 : nn ≤ 64
  u1 : 0 ≤ uu
  u2 : uu ≤ 20
  len : ls.length ≤ 256
  links : ∀ l ∈ ls, (0 ≤ l.f0 ∧ l.f0 < nn) ∧ (0 ≤ l.f1 ∧ l.f1 < nn) ∧ (-1 ≤ l.f3 ∧ l.f3 < uu) ∧ l.f0 ≠ l.f1 ∧ timedP l.f2.f0 l.f2.f1

theorem linksErr_ok (nn uu : Int) : ∀ ls : List Lk, linksErr nn uu ls = 0 → ∀ l ∈ ls, (0 ≤ l.f0 ∧ l.f0 < nn) ∧ (0 ≤ l.f1 ∧ l.f1 < nn) ∧ (-1 ≤ l.f3 ∧ l.f3 < uu) ∧ l.f0 ≠ l.f1 ∧ timedP l.f2.f0 l.f2.f1 := by
  intro ls
  induction ls with
  | nil => intro _ l hl; cases hl
  | cons x r ih =>
    intro h l hl
    simp only [linksErr] at h
    split at h
    · rename_i h0
      rcases List.mem_cons.1 hl with rfl | hl
      · unfold linkErr at h0
        split at h0
        · omega
        · rename_i hb
          split at h0
          · omega
          · rename_i hne
            split at h0
            · rename_i ht
              unfold linkBad at hb
              refine ⟨?_, ?_, ?_, hne, ht⟩ <;> omega
            · omega
      · exact ih h l hl
    · rename_i h0; exact absurd h h0

theorem checkE_ok {nn uu : Int} {ls : List Lk} (h : checkE nn uu ls = 0) : NetOk nn uu ls := by
  unfold checkE at h
  split at h
  · rename_i h1
    split at h
    · omega
    · rename_i h2
      exact ⟨h1.1.1, h1.1.2, h1.2.1, h1.2.2, by omega, linksErr_ok nn uu ls h⟩
  · omega
end Go.Proofs.Ytgmglpnoppcnkaa
