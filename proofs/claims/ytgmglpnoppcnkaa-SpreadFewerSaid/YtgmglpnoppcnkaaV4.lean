/- Least times, plainly: walks; what the search keeps true; what it leaves. -/
import Derived.Test.YtgmglpnoppcnkaaV2
import Derived.Test.YtgmglpnoppcnkaaH5
namespace Go.Proofs.Ytgmglpnoppcnkaa
open Go.RowKit
set_option linter.unusedVariables false

/-- api.Never -/
def NV : Int := 1099511627776
section
variable (ls : List Lk) (ue : Lk → Option Int) (sn b : Int)
/-- There is a walk of links that can be used, from the start, at whose end it is t. -/
inductive Wk : Int → Int → Prop
  | start : Wk sn b
  | step {u t : Int} {l : Lk} {d : Int} : Wk u t → l ∈ ls → l.f0 = u → ue l = some d → Wk l.f1 (t + d)
/-- What the search is given. -/
structure EOk (nn : Nat) : Prop where
  n64 : nn ≤ 64
  sn : 0 ≤ sn ∧ sn < nn
  b : 0 ≤ b ∧ b ≤ 1000000000
  ends : ∀ l ∈ ls, (0 ≤ l.f0 ∧ l.f0 < nn) ∧ (0 ≤ l.f1 ∧ l.f1 < nn)
  d : ∀ l ∈ ls, ∀ d, ue l = some d → 0 ≤ d ∧ d ≤ 1000000000
/-- out has the least times. -/
structure LeastAt (nn : Nat) (o : List Int) : Prop where
  len : o.length = nn
  at_ : ∀ v : Nat, v < nn → (o.getD v NV < NV ∧ Wk ls ue sn b v (o.getD v NV) ∧ ∀ t, Wk ls ue sn b v t → o.getD v NV ≤ t) ∨ (o.getD v NV = NV ∧ ∀ t, ¬ Wk ls ue sn b v t)
end
section
variable {ls : List Lk} {ue : Lk → Option Int} {sn b : Int} {nn : Nat}
theorem LeastAt.unique {o o' : List Int} (h : LeastAt ls ue sn b nn o) (h' : LeastAt ls ue sn b nn o') : o = o' := by
  refine List.ext_getElem (by rw [h.len, h'.len]) fun i h1 h2 => ?_
  have e1 : o.getD i NV = o[i] := by simp [List.getD_eq_getElem?_getD, List.getElem?_eq_getElem h1]
  have e2 : o'.getD i NV = o'[i] := by simp [List.getD_eq_getElem?_getD, List.getElem?_eq_getElem h2]
  have a := h.at_ i (by rw [← h.len]; exact h1)
  have a' := h'.at_ i (by rw [← h.len]; exact h1)
  rw [e1] at a
  rw [e2] at a'
  rcases a with ⟨a1, a2, a3⟩ | ⟨a1, a2⟩ <;> rcases a' with ⟨b1, b2, b3⟩ | ⟨b1, b2⟩
  · have := a3 _ b2; have := b3 _ a2; omega
  · exact absurd a2 (b2 _)
  · exact absurd b2 (a2 _)
  · rw [a1, b1]

def oat (o : List Int) (v : Int) : Int := o.getD v.toNat NV
/-- How many nodes are settled. -/
def setd (o : List Int) : Nat := o.countP (fun x => decide (x < NV))
theorem setd_le (o : List Int) : setd o ≤ o.length := List.countP_le_length
theorem oat_set (o : List Int) (v u t : Int) (h0 : 0 ≤ v) (h1 : v < o.length) (h2 : 0 ≤ u) : oat (o.set v.toNat t) u = if u = v then t else oat o u := by
  unfold oat
  simp only [List.getD_eq_getElem?_getD, List.getElem?_set]
  by_cases h : u = v
  · subst h
    rw [if_pos rfl, if_pos rfl, if_pos (by omega)]
    rfl
  · rw [if_neg h, if_neg (by omega)]
theorem setd_set (o : List Int) (v t : Int) (h0 : 0 ≤ v) (h1 : v < o.length) (hn : oat o v = NV) (ht : t < NV) : setd (o.set v.toNat t) = setd o + 1 := by
  have hv : v.toNat < o.length := by omega
  unfold setd
  rw [List.countP_set hv]
  have e : o[v.toNat] = NV := by rw [← hn]; simp [oat, List.getD_eq_getElem?_getD, List.getElem?_eq_getElem hv]
  rw [e]
  simp [ht]

/-- What the search keeps true. -/
structure DInv (ls : List Lk) (ue : Lk → Option Int) (sn b : Int) (nn : Nat) (o : List Int) (h : List Vis) : Prop where
  len : o.length = nn
  ok : HeapOk h
  walk : ∀ x ∈ h, (0 ≤ x.1 ∧ x.1 < nn) ∧ Wk ls ue sn b x.1 x.2
  owalk : ∀ v : Int, 0 ≤ v → v < nn → oat o v = NV ∨ oat o v < NV ∧ Wk ls ue sn b v (oat o v)
  mono : ∀ v : Int, 0 ≤ v → v < nn → oat o v < NV → ∀ x ∈ h, oat o v ≤ x.2
  feas : ∀ l ∈ ls, ∀ d, ue l = some d → oat o l.f0 < NV → oat o l.f1 ≤ oat o l.f0 + d ∨ ∃ x ∈ h, x.1 = l.f1 ∧ x.2 ≤ oat o l.f0 + d
  beg : oat o sn ≤ b ∨ ∃ x ∈ h, x.1 = sn ∧ x.2 ≤ b
  hb : ∀ x ∈ h, x.2 ≤ 1000000000 * (1 + (setd o : Int))
  ob : ∀ v : Int, 0 ≤ v → v < nn → oat o v < NV → oat o v ≤ 1000000000 * (setd o : Int)
  pos : ∀ x ∈ h, 0 ≤ x.2

theorem oat_rep (nn : Nat) (v : Int) (h0 : 0 ≤ v) (h1 : v < nn) : oat (List.replicate nn NV) v = NV := by
  simp only [oat, List.getD_eq_getElem?_getD, List.getElem?_replicate]
  rw [if_pos (by omega)]
  rfl
theorem setd_rep (nn : Nat) : setd (List.replicate nn NV) = 0 := by
  unfold setd
  rw [List.countP_eq_zero]
  intro a ha
  rw [List.eq_of_mem_replicate ha]
  decide
theorem DInv.init (E : EOk ls ue sn b nn) : DInv ls ue sn b nn (List.replicate nn NV) [(sn, b)] := by
  have hs := E.sn
  have hb := E.b
  refine ⟨by simp, ?_, ?_, ?_, ?_, ?_, ?_, ?_, ?_, ?_⟩
  · intro i hi h; simp at h; omega
  · intro x hx
    rw [List.mem_singleton.1 hx]
    exact ⟨hs, .start⟩
  · intro v h0 h1; exact .inl (oat_rep nn v h0 h1)
  · intro v h0 h1 h; rw [oat_rep nn v h0 h1] at h; unfold NV at h; omega
  · intro l hl d hd h
    rw [oat_rep nn _ (E.ends l hl).1.1 (E.ends l hl).1.2] at h; unfold NV at h; omega
  · exact .inr ⟨_, List.mem_singleton.2 rfl, rfl, Int.le_refl _⟩
  · intro x hx
    rw [List.mem_singleton.1 hx, setd_rep]
    show b ≤ _
    omega
  · intro v h0 h1 h; rw [oat_rep nn v h0 h1] at h; unfold NV at h; omega
  · intro x hx
    rw [List.mem_singleton.1 hx]
    exact hb.1

theorem vat_mem (h : List Vis) (h0 : 0 < h.length) : vat h 0 ∈ h := by
  cases h with
  | nil => simp at h0
  | cons x r => simp [vat]
theorem rest_mem {h : List Vis} (hok : HeapOk h) (h0 : 0 < h.length) (x : Vis) : x ∈ h ↔ x = vat h 0 ∨ x ∈ takeRest h := by
  have := (take_all h hok h0).2.1.mem_iff (a := x)
  rw [← this, List.mem_cons]
theorem min_le {h : List Vis} (hok : HeapOk h) (x : Vis) (hx : x ∈ h) : (vat h 0).2 ≤ x.2 := by
  obtain ⟨i, hi, e⟩ := List.getElem_of_mem hx
  have := hok.min i hi
  rw [show vat h i = x by simp [vat, List.getD_eq_getElem?_getD, List.getElem?_eq_getElem hi, e]] at this
  exact this

/-- The least element's node has an earlier time: it is dropped. -/
theorem DInv.skip (E : EOk ls ue sn b nn) {o : List Int} {h : List Vis} (D : DInv ls ue sn b nn o h) (h0 : 0 < h.length) (hle : oat o (vat h 0).1 ≤ (vat h 0).2) : DInv ls ue sn b nn o (takeRest h) := by
  have hm := rest_mem D.ok h0
  have hsub : ∀ x ∈ takeRest h, x ∈ h := fun x hx => (hm x).2 (.inr hx)
  refine ⟨D.len, (take_all h D.ok h0).1, fun x hx => D.walk x (hsub x hx), D.owalk, fun v a c d x hx => D.mono v a c d x (hsub x hx), ?_, ?_, fun x hx => D.hb x (hsub x hx), D.ob, fun x hx => D.pos x (hsub x hx)⟩
  · intro l hl d hd hlt
    rcases D.feas l hl d hd hlt with a | ⟨x, hx, e1, e2⟩
    · exact .inl a
    · rcases (hm x).1 hx with rfl | hx
      · left; rw [← e1]; omega
      · exact .inr ⟨x, hx, e1, e2⟩
  · rcases D.beg with a | ⟨x, hx, e1, e2⟩
    · exact .inl a
    · rcases (hm x).1 hx with rfl | hx
      · left; rw [← e1]; omega
      · exact .inr ⟨x, hx, e1, e2⟩

/-- The pushes of a node's links. -/
def pushAll (ue : Lk → Option Int) (t : Int) : List Vis → List Lk → List Vis
  | h, [] => h
  | h, l :: r => pushAll ue t (match ue l with | some d => siftUp (h ++ [(l.f1, t + d)]) h.length | none => h) r
theorem pushAll_snoc (ue : Lk → Option Int) (t : Int) (g : List Lk) : ∀ (h : List Vis) (l : Lk), pushAll ue t h (g ++ [l]) = match ue l with | some d => siftUp (pushAll ue t h g ++ [(l.f1, t + d)]) (pushAll ue t h g).length | none => pushAll ue t h g := by
  induction g with
  | nil => intro h l; rfl
  | cons x r ih => intro h l; rw [List.cons_append, pushAll, ih, pushAll]
theorem pushAll_ok (ue : Lk → Option Int) (t : Int) (g : List Lk) : ∀ h, HeapOk h → HeapOk (pushAll ue t h g) := by
  induction g with
  | nil => intro h hh; exact hh
  | cons x r ih =>
    intro h hh
    rw [pushAll]
    apply ih
    split
    · exact put_ok h _ hh
    · exact hh
theorem pushAll_len (ue : Lk → Option Int) (t : Int) (g : List Lk) : ∀ h, (pushAll ue t h g).length ≤ h.length + g.length := by
  induction g with
  | nil => intro h; exact Nat.le_refl _
  | cons x r ih =>
    intro h
    rw [pushAll]
    refine Nat.le_trans (ih _) ?_
    split
    · have := (put_perm h (x.f1, t + (by assumption))).length_eq
      simp only [List.length_cons] at this ⊢
      omega
    · simp only [List.length_cons]; omega
theorem pushAll_mem (ue : Lk → Option Int) (t : Int) (g : List Lk) : ∀ h x, x ∈ pushAll ue t h g ↔ x ∈ h ∨ ∃ l ∈ g, ∃ d, ue l = some d ∧ x = (l.f1, t + d) := by
  induction g with
  | nil => intro h x; simp [pushAll]
  | cons y r ih =>
    intro h x
    rw [pushAll, ih]
    cases e : ue y with
    | none =>
      constructor
      · rintro (a | ⟨l, hl, d, hd, rfl⟩)
        · exact .inl a
        · exact .inr ⟨l, List.mem_cons_of_mem _ hl, d, hd, rfl⟩
      · rintro (a | ⟨l, hl, d, hd, rfl⟩)
        · exact .inl a
        · rcases List.mem_cons.1 hl with rfl | hl
          · rw [e] at hd; cases hd
          · exact .inr ⟨l, hl, d, hd, rfl⟩
    | some d0 =>
      rw [(put_perm h (y.f1, t + d0)).mem_iff, List.mem_cons]
      constructor
      · rintro ((rfl | a) | ⟨l, hl, d, hd, rfl⟩)
        · exact .inr ⟨y, List.mem_cons_self, d0, e, rfl⟩
        · exact .inl a
        · exact .inr ⟨l, List.mem_cons_of_mem _ hl, d, hd, rfl⟩
      · rintro (a | ⟨l, hl, d, hd, rfl⟩)
        · exact .inl (.inr a)
        · rcases List.mem_cons.1 hl with rfl | hl
          · rw [e] at hd; cases hd; exact .inl (.inl rfl)
          · exact .inr ⟨l, hl, d, hd, rfl⟩

theorem grp_mem (ls : List Lk) (k : Int) (l : Lk) : l ∈ grp ls k ↔ l ∈ ls ∧ l.f0 = k := by simp [grp]

/-- A node is settled. -/
theorem DInv.settle (E : EOk ls ue sn b nn) {o : List Int} {h : List Vis} (D : DInv ls ue sn b nn o h) (h0 : 0 < h.length) (hlt : (vat h 0).2 < oat o (vat h 0).1) :
    oat o (vat h 0).1 = NV ∧ setd (o.set (vat h 0).1.toNat (vat h 0).2) = setd o + 1 ∧ setd o < nn ∧
    DInv ls ue sn b nn (o.set (vat h 0).1.toNat (vat h 0).2) (pushAll ue (vat h 0).2 (takeRest h) (grp ls (vat h 0).1)) := by
  have hmem := vat_mem h h0
  have hx := D.walk _ hmem
  have hmin := fun x hx => min_le D.ok x hx
  have hm := rest_mem D.ok h0
  have hhb := D.hb _ hmem
  have hpos := D.pos _ hmem
  have hmono := fun u a c e => D.mono u a c e _ hmem
  have htk := (take_all h D.ok h0).1
  obtain ⟨v, hv⟩ : ∃ v, v = (vat h 0).1 := ⟨_, rfl⟩
  obtain ⟨t, ht⟩ : ∃ t, t = (vat h 0).2 := ⟨_, rfl⟩
  have hvt : vat h 0 = (v, t) := by rw [hv, ht]
  rw [← hv, ← ht] at hlt hx
  rw [← ht] at hhb hpos
  simp only [← ht] at hmin hmono
  rw [← hv, ← ht]
  have hsl := setd_le o
  rw [D.len] at hsl
  have h64 := E.n64
  have htN : t < NV := by unfold NV; omega
  have hvN : oat o v = NV := by
    rcases D.owalk v hx.1.1 hx.1.2 with e | ⟨e, _⟩
    · exact e
    · have := hmono v hx.1.1 hx.1.2 e; omega
  have hvl : v < o.length := by rw [D.len]; exact hx.1.2
  have hs := setd_set o v t hx.1.1 hvl hvN htN
  have hs2 := setd_le (o.set v.toNat t)
  rw [hs, List.length_set, D.len] at hs2
  have hset : ∀ u : Int, 0 ≤ u → oat (o.set v.toNat t) u = if u = v then t else oat o u := fun u hu => oat_set o v u t hx.1.1 hvl hu
  have hpm := fun x => pushAll_mem ue t (grp ls v) (takeRest h) x
  have hcase : ∀ x, x ∈ pushAll ue t (takeRest h) (grp ls v) → (x ∈ h) ∨ ∃ l, l ∈ ls ∧ l.f0 = v ∧ ∃ d, ue l = some d ∧ (0 ≤ d ∧ d ≤ 1000000000) ∧ x = (l.f1, t + d) := by
    intro x hx'
    rcases (hpm x).1 hx' with a | ⟨l, hl, d, hd, e⟩
    · exact .inl ((hm x).2 (.inr a))
    · have := (grp_mem ls v l).1 hl
      exact .inr ⟨l, this.1, this.2, d, hd, E.d l this.1 d hd, e⟩
  refine ⟨hvN, hs, by omega, by rw [List.length_set]; exact D.len, pushAll_ok ue t _ _ htk, ?_, ?_, ?_, ?_, ?_, ?_, ?_, ?_⟩
  · intro x hx'
    rcases hcase x hx' with a | ⟨l, hl, e1, d, hd, hdb, rfl⟩
    · exact D.walk x a
    · exact ⟨(E.ends l hl).2, .step hx.2 hl e1 hd⟩
  · intro u u0 u1
    rw [hset u u0]
    by_cases hu : u = v
    · rw [if_pos hu]; exact .inr ⟨htN, by rw [hu]; exact hx.2⟩
    · rw [if_neg hu]; exact D.owalk u u0 u1
  · intro u u0 u1 hl x hx'
    rw [hset u u0] at hl ⊢
    by_cases hu : u = v
    · rw [if_pos hu]
      rcases hcase x hx' with a | ⟨l, hl, e1, d, hd, hdb, rfl⟩
      · exact hmin x a
      · show t ≤ t + d; omega
    · rw [if_neg hu] at hl ⊢
      rcases hcase x hx' with a | ⟨l, hl', e1, d, hd, hdb, rfl⟩
      · exact D.mono u u0 u1 hl x a
      · have := hmono u u0 u1 hl
        show oat o u ≤ t + d; omega
  · intro l hl d hd hlt'
    have hdb := E.d l hl d hd
    rw [hset _ (E.ends l hl).1.1] at hlt' ⊢
    by_cases h1 : l.f0 = v
    · right
      refine ⟨(l.f1, t + d), (hpm _).2 (.inr ⟨l, (grp_mem ls v l).2 ⟨hl, h1⟩, d, hd, rfl⟩), rfl, ?_⟩
      rw [if_pos h1]
      exact Int.le_refl _
    · rw [if_neg h1] at hlt' ⊢
      rw [hset _ (E.ends l hl).2.1]
      rcases D.feas l hl d hd hlt' with a | ⟨x, hx', e1, e2⟩
      · left
        by_cases h2 : l.f1 = v
        · rw [if_pos h2]; rw [h2, hvN] at a; omega
        · rw [if_neg h2]; exact a
      · rcases (hm x).1 hx' with rfl | hx'
        · left
          rw [hvt] at e1 e2
          rw [if_pos e1.symm]
          exact e2
        · exact .inr ⟨x, (hpm x).2 (.inl hx'), e1, e2⟩
  · rw [hset _ E.sn.1]
    rcases D.beg with a | ⟨x, hx', e1, e2⟩
    · left
      by_cases h2 : sn = v
      · rw [if_pos h2]; rw [h2, hvN] at a; omega
      · rw [if_neg h2]; exact a
    · rcases (hm x).1 hx' with rfl | hx'
      · left
        rw [hvt] at e1 e2
        rw [if_pos e1.symm]
        exact e2
      · exact .inr ⟨x, (hpm x).2 (.inl hx'), e1, e2⟩
  · intro x hx'
    rw [hs]
    rcases hcase x hx' with a | ⟨l, hl', e1, d, hd, hdb, rfl⟩
    · have := D.hb x a; omega
    · show t + d ≤ _; omega
  · intro u u0 u1 hl
    rw [hset u u0] at hl ⊢
    rw [hs]
    by_cases hu : u = v
    · rw [if_pos hu]; omega
    · rw [if_neg hu] at hl ⊢; have := D.ob u u0 u1 hl; omega
  · intro x hx'
    rcases hcase x hx' with a | ⟨l, hl', e1, d, hd, hdb, rfl⟩
    · exact D.pos x a
    · show 0 ≤ t + d; omega

/-- The heap is empty: the times are the least ones. -/
theorem DInv.done (E : EOk ls ue sn b nn) {o : List Int} (D : DInv ls ue sn b nn o []) : LeastAt ls ue sn b nn o := by
  have hsl := setd_le o
  rw [D.len] at hsl
  have h64 := E.n64
  have hb := E.b
  have key : ∀ v t, Wk ls ue sn b v t → (0 ≤ v ∧ v < nn) ∧ oat o v < NV ∧ oat o v ≤ t := by
    intro v t hw
    induction hw with
    | start =>
      rcases D.beg with a | ⟨x, hx, _⟩
      · exact ⟨E.sn, by unfold NV; omega, a⟩
      · cases hx
    | step hw hl e hd ih =>
      rename_i u t l d
      obtain ⟨i1, i2, i3⟩ := ih
      rw [← e] at i1 i2 i3
      have hdb := E.d l hl d hd
      have hob := D.ob _ i1.1 i1.2 i2
      rcases D.feas l hl d hd i2 with a | ⟨x, hx, _⟩
      · refine ⟨(E.ends l hl).2, ?_, by omega⟩
        unfold NV; omega
      · cases hx
  refine ⟨D.len, fun v hv => ?_⟩
  have e : o.getD v NV = oat o (v : Int) := by simp [oat]
  rw [e]
  rcases D.owalk v (by omega) (by omega) with a | ⟨a, hw⟩
  · right
    refine ⟨a, fun t hw => ?_⟩
    have := (key _ _ hw).2.1
    omega
  · exact .inl ⟨a, hw, fun t hw' => (key _ _ hw').2.2⟩
end
end Go.Proofs.Ytgmglpnoppcnkaa
