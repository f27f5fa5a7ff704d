/- Lemmas and contracts for the claim, brought together by program. -/
import Derived.Test.YtgmglpnoppcnkaaC6
import Derived.Test.YtgmglpnoppcnkaaC1
import Derived.Test.YtgmglpnoppcnkaaM1
import Derived.Test.YtgmglpnoppcnkaaH3
import Derived.Maps.RangeRun
import Derived.Test.YtgmglpnoppcnkaaV3
import Derived.Test.YtgmglpnoppcnkaaH9
import Derived.Test.YtgmglpnoppcnkaaHA
import Derived.Test.YtgmglpnoppcnkaaC5
import Derived.Test.YtgmglpnoppcnkaaPBx4
section
namespace Go.Proofs.Ytgmglpnoppcnkaa
open Go.RowKit
set_option linter.unusedVariables false
set_option linter.unusedSimpArgs false

section
variable {ls : List Lk} {ue : Lk → Option Int} {sn b : Int} {nn : Nat}
theorem least_from (E : EOk ls ue sn b nn) : ∀ (M : Nat) (o : List Int) (h : List Vis), DInv ls ue sn b nn o h → (nn - setd o) * (ls.length + 1) + h.length ≤ M → ∃ o', LeastAt ls ue sn b nn o' ∧ ∀ v : Int, 0 ≤ v → v < nn → oat o' v < NV → oat o' v ≤ 64000000000 := by
  intro M
  induction M with
  | zero =>
    intro o h D hM
    have h0 : h = [] := List.length_eq_zero_iff.1 (by omega)
    subst h0
    refine ⟨o, D.done E, fun v h0 h1 h2 => ?_⟩
    have := D.ob v h0 h1 h2
    have hs := setd_le o
    rw [D.len] at hs
    have := E.n64
    omega
  | succ M ih =>
    intro o h D hM
    by_cases h0 : h.length = 0
    · have h0 : h = [] := List.length_eq_zero_iff.1 h0
      subst h0
      refine ⟨o, D.done E, fun v h0 h1 h2 => ?_⟩
      have := D.ob v h0 h1 h2
      have hs := setd_le o
      rw [D.len] at hs
      have := E.n64
      omega
    · have h0 : 0 < h.length := by omega
      have htk := (take_all h D.ok h0).2.2
      by_cases hlt : (vat h 0).2 < oat o (vat h 0).1
      · obtain ⟨-, hs, hsn, D'⟩ := D.settle E h0 hlt
        refine ih _ _ D' ?_
        rw [hs]
        have h1 := pushAll_len ue (vat h 0).2 (grp ls (vat h 0).1) (takeRest h)
        have h2 := grp_len ls (vat h 0).1
        have e : nn - setd o = (nn - (setd o + 1)) + 1 := by omega
        rw [e, Nat.add_mul] at hM
        omega
      · exact ih _ _ (D.skip E h0 (by omega)) (by omega)
theorem least_exists (E : EOk ls ue sn b nn) : ∃ o, LeastAt ls ue sn b nn o ∧ ∀ v : Int, 0 ≤ v → v < nn → oat o v < NV → oat o v ≤ 64000000000 :=
  least_from E _ _ _ (DInv.init E) (Nat.le_refl _)
theorem leastL_ok (E : EOk ls ue sn b nn) : LeastAt ls ue sn b nn (leastL ls ue sn b nn) := by
  obtain ⟨o, ho, _⟩ := least_exists E
  rw [leastL_eq ho]
  exact ho
theorem leastL_len (E : EOk ls ue sn b nn) : (leastL ls ue sn b nn).length = nn := (leastL_ok E).len
theorem oat_nat (o : List Int) (v : Nat) : o.getD v NV = oat o (v : Int) := by simp [oat]
theorem LeastAt.spec {o : List Int} (h : LeastAt ls ue sn b nn o) (v : Int) (h0 : 0 ≤ v) (h1 : v < nn) : (oat o v < NV ∧ Wk ls ue sn b v (oat o v) ∧ ∀ t, Wk ls ue sn b v t → oat o v ≤ t) ∨ (oat o v = NV ∧ ∀ t, ¬ Wk ls ue sn b v t) := by
  have := h.at_ v.toNat (by omega)
  rw [oat_nat, Int.toNat_of_nonneg h0] at this
  exact this
theorem Wk.ends (E : EOk ls ue sn b nn) {v t : Int} (h : Wk ls ue sn b v t) : (0 ≤ v ∧ v < nn) ∧ b ≤ t := by
  induction h with
  | start => exact ⟨E.sn, Int.le_refl _⟩
  | step hw hl e hd ih =>
    have := E.d _ hl _ hd
    exact ⟨(E.ends _ hl).2, by omega⟩
/-- The least time of a node that can be reached is small. -/
theorem Wk.small (E : EOk ls ue sn b nn) {v t : Int} (h : Wk ls ue sn b v t) : ∃ t', Wk ls ue sn b v t' ∧ t' ≤ 64000000000 ∧ t' ≤ t := by
  obtain ⟨o, ho, hb⟩ := least_exists E
  have he := (h.ends E).1
  rcases ho.spec v he.1 he.2 with ⟨h1, h2, h3⟩ | ⟨_, h2⟩
  · exact ⟨_, h2, hb v he.1 he.2 h1, h3 _ h⟩
  · exact absurd h (h2 _)
/-- A stable table of walks. -/
structure TabOk (ls : List Lk) (ue : Lk → Option Int) (sn b : Int) (nn : Nat) (o : List Int) : Prop where
  len : o.length = nn
  owalk : ∀ v : Int, 0 ≤ v → v < nn → oat o v = NV ∨ oat o v < NV ∧ Wk ls ue sn b v (oat o v)
  beg : oat o sn = b
theorem stable_least (E : EOk ls ue sn b nn) {o : List Int} (T : TabOk ls ue sn b nn o) (hst : ∀ l ∈ ls, ∀ d, ue l = some d → oat o l.f0 < NV → l.f1 ≠ sn → oat o l.f1 ≤ oat o l.f0 + d) : LeastAt ls ue sn b nn o := by
  have hle : ∀ v : Int, 0 ≤ v → v < nn → oat o v ≤ NV := fun v h0 h1 => by
    rcases T.owalk v h0 h1 with e | ⟨e, _⟩ <;> omega
  have key : ∀ v t, Wk ls ue sn b v t → oat o v ≤ t := by
    intro v t hw
    induction hw with
    | start => rw [T.beg]; exact Int.le_refl _
    | step hw hl e hd ih =>
      rename_i u t l d
      have hdb := E.d l hl d hd
      have he := E.ends l hl
      rw [← e] at ih
      by_cases hs : l.f1 = sn
      · rw [hs, T.beg]
        have := (hw.ends E).2
        omega
      · by_cases hf : oat o l.f0 < NV
        · have := hst l hl d hd hf hs
          omega
        · have := hle l.f1 he.2.1 he.2.2
          omega
  refine ⟨T.len, fun v hv => ?_⟩
  rw [oat_nat]
  rcases T.owalk v (by omega) (by omega) with e | ⟨e, hw⟩
  · right
    refine ⟨e, fun t ht => ?_⟩
    obtain ⟨t', h1, h2, _⟩ := ht.small E
    have := key _ _ h1
    rw [e] at this
    unfold NV at this
    omega
  · exact .inl ⟨e, hw, fun t ht => key _ _ ht⟩

/-- One link. -/
def relax1 (ue : Lk → Option Int) (sn : Int) (o : List Int) (l : Lk) : List Int :=
  match ue l with
  | none => o
  | some d => if l.f1 ≠ sn ∧ oat o l.f0 < NV ∧ oat o l.f0 + d < oat o l.f1 then o.set l.f1.toNat (oat o l.f0 + d) else o
theorem relax1_ok (E : EOk ls ue sn b nn) {o : List Int} (T : TabOk ls ue sn b nn o) {l : Lk} (hl : l ∈ ls) : TabOk ls ue sn b nn (relax1 ue sn o l) := by
  unfold relax1
  cases hd : ue l with
  | none => exact T
  | some d =>
    show TabOk ls ue sn b nn (if _ then _ else _)
    by_cases h : l.f1 ≠ sn ∧ oat o l.f0 < NV ∧ oat o l.f0 + d < oat o l.f1
    · rw [if_pos h]
      have he := E.ends l hl
      have hlen : l.f1 < o.length := by rw [T.len]; exact he.2.2
      have hset := fun u hu => oat_set o l.f1 u (oat o l.f0 + d) he.2.1 hlen hu
      have hw : Wk ls ue sn b l.f0 (oat o l.f0) := by
        rcases T.owalk l.f0 he.1.1 he.1.2 with e | ⟨_, e⟩
        · omega
        · exact e
      refine ⟨by rw [List.length_set]; exact T.len, fun v h0 h1 => ?_, ?_⟩
      · rw [hset v h0]
        by_cases hv : v = l.f1
        · rw [if_pos hv]
          right
          refine ⟨?_, by rw [hv]; exact .step hw hl rfl hd⟩
          rcases T.owalk l.f1 he.2.1 he.2.2 with e | ⟨e, _⟩ <;> omega
        · rw [if_neg hv]
          exact T.owalk v h0 h1
      · rw [hset sn E.sn.1, if_neg (fun e => h.1 e.symm)]
        exact T.beg
    · rw [if_neg h]
      exact T
def relaxL (ue : Lk → Option Int) (sn : Int) (ls : List Lk) (o : List Int) : List Int := ls.foldl (relax1 ue sn) o
theorem relaxL_ok (E : EOk ls ue sn b nn) : ∀ (ks : List Lk), (∀ l ∈ ks, l ∈ ls) → ∀ {o : List Int}, TabOk ls ue sn b nn o → TabOk ls ue sn b nn (relaxL ue sn ks o) := by
  intro ks
  induction ks with
  | nil => intro _ o T; exact T
  | cons l r ih => intro h o T; exact ih (fun x hx => h x (List.mem_cons_of_mem _ hx)) (relax1_ok E T (h l List.mem_cons_self))
def iterL (ue : Lk → Option Int) (sn : Int) (ls : List Lk) : Nat → List Int → List Int
  | 0, o => o
  | k + 1, o => iterL ue sn ls k (relaxL ue sn ls o)
theorem iterL_ok (E : EOk ls ue sn b nn) : ∀ (k : Nat) {o : List Int}, TabOk ls ue sn b nn o → TabOk ls ue sn b nn (iterL ue sn ls k o) := by
  intro k
  induction k with
  | zero => intro o T; exact T
  | succ k ih => intro o T; exact ih (relaxL_ok E ls (fun _ h => h) T)
def startL (sn b : Int) (nn : Nat) : List Int := (List.replicate nn NV).set sn.toNat b
theorem startL_ok (E : EOk ls ue sn b nn) : TabOk ls ue sn b nn (startL sn b nn) := by
  have hs := E.sn
  have hb := E.b
  have hset := fun u hu => oat_set (List.replicate nn NV) sn u b hs.1 (by rw [List.length_replicate]; exact hs.2) hu
  refine ⟨by simp [startL], fun v h0 h1 => ?_, ?_⟩
  · unfold startL
    rw [hset v h0]
    by_cases h : v = sn
    · rw [if_pos h]
      exact .inr ⟨by unfold NV; omega, by rw [h]; exact .start⟩
    · rw [if_neg h]
      exact .inl (oat_rep nn v h0 h1)
  · unfold startL
    rw [hset sn hs.1, if_pos rfl]
def stableB (ue : Lk → Option Int) (sn : Int) (ls : List Lk) (o : List Int) : Bool := ls.all (fun l => match ue l with | none => true | some d => decide (¬ oat o l.f0 < NV ∨ l.f1 = sn ∨ oat o l.f1 ≤ oat o l.f0 + d))
/-- A table that can be reckoned. -/
theorem leastL_iter (E : EOk ls ue sn b nn) (k : Nat) (h : stableB ue sn ls (iterL ue sn ls k (startL sn b nn)) = true) : leastL ls ue sn b nn = iterL ue sn ls k (startL sn b nn) := by
  refine leastL_eq (stable_least E (iterL_ok E k (startL_ok E)) fun l hl d hd hf hs => ?_)
  have := (List.all_eq_true.1 h) l hl
  rw [hd] at this
  have := of_decide_eq_true this
  rcases this with h1 | h1 | h1
  · exact absurd hf h1
  · exact absurd h1 hs
  · exact h1
end
end Go.Proofs.Ytgmglpnoppcnkaa
end
section
namespace Go.Proofs.Ytgmglpnoppcnkaa
open Go.RowKit Go.Proofs.YtgmglpnoppcnkaaW.PrintWords Go.Proofs.YtgmglpnoppcnkaaW.PrintLast Go.Proofs.YtgmglpnoppcnkaaW.PrintMore
set_option linter.unusedVariables false
set_option linter.unusedSimpArgs false
set_option maxRecDepth 100000
attribute [local go_sem] Oper.semAt_some

theorem cellsK_cell {W W' : World} (h : CellsK W W') (a : Addr) (v : Value) (hv : W.cell? a = some v) : W'.cell? a = some v := by
  have hv0 := hv
  unfold World.cell? at hv
  cases ho : W.heap[a.block]? with
  | none => rw [ho] at hv; simp at hv
  | some o =>
    cases o with
    | cells cs t fr => exact (World.cell?_of_block ((h _ _ _ _ ho).trans ho.symm)).trans hv0
    | _ => rw [ho] at hv; simp at hv
theorem results_blame (W : World) (tmps : Array Value) (b6 b7 : Nat) (v : Value) (b : Bool) (h6 : tmps[6]?.getD undef = .pointer (some ⟨b6, 0, none⟩)) (h7 : tmps[7]?.getD undef = .pointer (some ⟨b7, 0, none⟩))
    (c6 : W.cell? ⟨b6, 0, none⟩ = some v) (c7 : W.cell? ⟨b7, 0, none⟩ = some (.bool b)) (hv : ∃ A n c, v = .slice A n c) : (results Try.f96 tmps).run Try.prog W = .ok (.tuple #[v, .bool b]) W := by
  obtain ⟨A, n, c, rfl⟩ := hv
  have hu33 := Try.underlying33
  have hu4 := Try.underlying4
  simp [results, Try.results96, go_sem, h6, h7, c6, c7]
theorem ints_keep2 {W W' : World} {A : Option Addr} {x : List Int} (h : IntsAt W A x) (hk : ∀ a p, W.cell? a = some (.int .i64 p) → W'.cell? a = some (.int .i64 p)) : IntsAt W' A x := by
  obtain ⟨h1, h2, h3⟩ := h
  refine ⟨h1, h2, fun h0 => ?_⟩
  obtain ⟨ad, e, h4⟩ := h3 h0
  refine ⟨ad, e, fun j p hj => ?_⟩
  obtain ⟨c, c1, c2, c3⟩ := h4 j p hj
  have c2' : c = [.int .i64 p] := c2
  refine ⟨c, c1, c2, fun i u hu => ?_⟩
  have hu' : u = .int .i64 p := by
    rw [c2'] at hu
    have hi : i = 0 := by
      have := (List.getElem?_eq_some_iff.1 hu).1
      simp at this; omega
    subst hi
    simpa using hu.symm
  subst hu'
  exact hk _ _ (c3 i _ hu)
/-- A block of one cell that is no integer is none of those. -/
theorem int_far {W : World} {g t : Nat} {v : Value} (h : W.heap[g]? = some (.cells #[v] t (0, 0))) (hv : ∀ p, v ≠ .int .i64 p) (a : Addr) (p : Int) (ha : W.cell? a = some (.int .i64 p)) : a.block ≠ g := by
  intro e
  unfold World.cell? at ha
  rw [e, h] at ha
  simp only at ha
  split at ha
  · cases ha
  · have h0 : a.off < 1 := by
      have := (Array.getElem?_eq_some_iff.1 ha).1
      simpa using this
    have h00 : a.off = 0 := by omega
    rw [h00] at ha
    exact hv p (by simpa using ha)
theorem find_some {l : List (List Int)} {p : List Int → Bool} {k : Nat} {x : List Int} (hx : l[k]? = some x) (hp : p x = true) (hn : ∀ (i : Nat) (y : List Int), i < k → l[i]? = some y → p y = false) : l.find? p = some x := by
  induction l generalizing k with
  | nil => simp at hx
  | cons a r ih =>
    cases k with
    | zero =>
      have : a = x := by simpa using hx
      subst this
      rw [List.find?_cons_of_pos hp]
    | succ k =>
      have h0 := hn 0 a (by omega) rfl
      rw [List.find?_cons_of_neg (by rw [h0]; decide)]
      exact ih (k := k) (by simpa using hx) (fun i y hi hy => hn (i + 1) y (by omega) (by simpa using hy))
theorem find_none {l : List (List Int)} {p : List Int → Bool} (hn : ∀ (i : Nat) (y : List Int), i < l.length → l[i]? = some y → p y = false) : l.find? p = none := by
  rw [List.find?_eq_none]
  intro x hx hp
  obtain ⟨i, hi, e⟩ := List.getElem_of_mem hx
  have := hn i x hi (by rw [List.getElem?_eq_getElem hi, e])
  rw [this] at hp
  cases hp
/-- With some units failed the due is not met. -/
noncomputable def lateB (nn : Nat) (ls : List Lk) (sn hi : Int) (st : List Int) (d : Du) (us : List Int) : Bool := decide (d.f1 < (hiL nn ls sn hi st us).getD d.f0.toNat 0)
/-- What blame hands back. -/
def BlamePost (w : World) (o : Option (List Int)) (e : Ending) (w' : World) : Prop :=
  Below w.heap.size w w' ∧ ((o = none ∧ e = .returned (.tuple #[.slice none 0 0, .bool false])) ∨
   ∃ x A c, o = some x ∧ e = .returned (.tuple #[.slice A x.length c, .bool true]) ∧ IntsAt w' A x ∧ x.length ≤ c)

set_option maxHeartbeats 8000000 in
theorem blame_calls (cr B nn : Nat) (uu : Int) (sv0 : Value) (sn lo hi : Int) (ls : List Lk) (st : List Int) (f : Nat) (d : Du) (w : World)
    (hw : CareAt w B cr nn uu sv0 sn lo hi ls st) (hO : StOk nn uu ls sn lo hi) (hst : st.length ≤ 20) (hf : f ≤ 100) (hd0 : 0 ≤ d.f0) (hd1 : d.f0 < nn) :
    Calls Try.prog 96 #[.pointer (some ⟨cr, 0, none⟩), .int .i64 f, .agg #[.int .i64 d.f0, .int .i64 d.f1]] w (BlamePost w ((choicesL f (fineL st)).find? (lateB nn ls sn hi st d))) := by
  have HW := Aside0.mk hw
  have HO := Aside0.mk hO
  clear hw hO
  refine (callsIn_wide (n := 0)).1 (callsIn_of_wp_marks Try.func96 rfl trivial ?_ rfl)
  simp only [Try.ntmps96, List.size_toArray, List.length_cons, List.length_nil, Nat.reduceAdd, Nat.reduceSub, Array.replicate_succ, Array.replicate_zero, List.push_toArray, List.append_toArray, List.nil_append, List.cons_append]
  refine wpIn_wide.2 ?_
  go_wp2_with ((with_reducible refine gate_dst (N := 3) rfl ?_); refine hold ?_)
  refine box_event rfl (N := 3) rfl (cs := #[.pointer (some ⟨cr, 0, none⟩)]) (t := 137) (by go_simp) ?_
  intro bb hbb w1 hb1 hB1
  have HB1 := Aside0.mk (And.intro hB1 (And.intro hb1 (show w.heap.size ≤ bb by omega)))
  clear hbb hb1 hB1
  go_wp2_with ((with_reducible refine gate_dst (N := 5) rfl ?_); refine hold ?_)
  refine box_event rfl (N := 5) rfl (cs := #[.int .i64 d.f0, .int .i64 d.f1]) (t := 94) (by go_simp) ?_
  intro bd hbd w2 hb2 hB2
  have HB2 := Aside0.mk (And.intro (below_step HB1.out.1 hB2) (And.intro hb2 (And.intro (blk_below HB1.out.2.1 hB2) (show w.heap.size ≤ bd by have := HB1.out.1.size; omega))))
  clear hbd hb2 hB2
  go_wp2_with ((with_reducible refine gate_dst (N := 6) rfl ?_); refine hold ?_)
  refine Kd.event_run (v := .pointer (some ⟨w2.heap.size, 0, none⟩)) (w1 := w2.alloc (.cells #[.slice none 0 0] 33)) rfl (by go_simp) ?_
  obtain ⟨w3, hw3⟩ : ∃ w3, w3 = w2.alloc (.cells #[.slice none 0 0] 33) := ⟨_, rfl⟩
  obtain ⟨b6, hb6⟩ : ∃ b6, b6 = w2.heap.size := ⟨_, rfl⟩
  rw [← hw3, ← hb6]
  have hB3 : Below w2.heap.size w2 w3 := by rw [hw3]; exact below_alloc (Below.refl _ _) _
  have hx6 : w3.heap[b6]? = some (.cells #[.slice none 0 0] 33 (0, 0)) := by rw [hw3, hb6]; exact blk_new w2 _
  have HB3 := Aside0.mk (And.intro hB3 (And.intro hx6 (show w2.heap.size ≤ b6 by omega)))
  clear hw3 hb6 hB3 hx6
  go_wp2_with ((with_reducible refine gate_dst (N := 7) rfl ?_); refine hold ?_)
  refine Kd.event_run (v := .pointer (some ⟨w3.heap.size, 0, none⟩)) (w1 := w3.alloc (.cells #[.bool false] 4)) rfl (by go_simp) ?_
  obtain ⟨w4, hw4⟩ : ∃ w4, w4 = w3.alloc (.cells #[.bool false] 4) := ⟨_, rfl⟩
  obtain ⟨b7, hb7⟩ : ∃ b7, b7 = w3.heap.size := ⟨_, rfl⟩
  rw [← hw4, ← hb7]
  have hB4 : Below w3.heap.size w3 w4 := by rw [hw4]; exact below_alloc (Below.refl _ _) _
  have hx7 : w4.heap[b7]? = some (.cells #[.bool false] 4 (0, 0)) := by rw [hw4, hb7]; exact blk_new w3 _
  have HB4 := Aside0.mk (And.intro hB4 (And.intro hx7 (show w3.heap.size ≤ b7 by omega)))
  have c0 : w4.cell? ⟨bb, 0, none⟩ = some (.pointer (some ⟨cr, 0, none⟩)) := blk_cell (blk_below (blk_below HB2.out.2.2.1 HB3.out.1) hB4) 0
  clear hw4 hb7 hB4 hx7
  go_wp2_with (first | (go_at_call 107; refine (choices_calls cr f _).mono ?_; rintro e W6 ⟨fb, cb, rfl, hb3, q1, q2, q3⟩; have H3 := Aside0.mk (And.intro hb3 (And.intro q1 (And.intro q2 q3))); clear hb3 q1 q2 q3 c0))
  obtain ⟨hb3, q1, q2, q3, q4⟩ := H3.out
  have hb46 : Below w2.heap.size w2 W6 := below_step HB3.out.1 (below_step HB4.out.1 hb3)
  have hb6 : Below w.heap.size w W6 := below_step HB2.out.1 hb46
  have hx6 : W6.heap[b6]? = some (.cells #[.slice none 0 0] 33 (0, 0)) := blk_below HB3.out.2.1 (below_step HB4.out.1 hb3)
  have hx7 : W6.heap[b7]? = some (.cells #[.bool false] 4 (0, 0)) := blk_below HB4.out.2.1 hb3
  have hxb : W6.heap[bb]? = some (.cells #[.pointer (some ⟨cr, 0, none⟩)] 137 (0, 0)) := blk_below HB2.out.2.2.1 hb46
  have hxd : W6.heap[bd]? = some (.cells #[.int .i64 d.f0, .int .i64 d.f1] 94 (0, 0)) := blk_below HB2.out.2.1 hb46
  obtain ⟨wp, fv, h0, hcr, how, hweb⟩ := HW.out
  have hfl := fine_le st
  obtain ⟨A, c, hfv, hfc, hfi, -⟩ := own_ints_any how (by omega)
  rw [hfv] at hcr
  have hctx : CoCtx W6 fb cb cr wp f (fineL st) A c (goneB st) (looseB st) := ⟨q1, q2, blk_below hcr hb6, Kd.C_below hfi hb6, hfc, by omega, hf⟩
  have HH := Aside0.mk (And.intro hctx (And.intro hx6 (And.intro hx7 (And.intro hxb (And.intro hxd hb6)))))
  have HGE : Aside0 (w.heap.size ≤ b6 ∧ w.heap.size ≤ b7 ∧ b6 ≠ b7) := ⟨by
    have s1 := HB2.out.1.size
    have s2 := HB3.out.1.size
    have s3 := blk_lt HB3.out.2.1
    have s4 := HB3.out.2.2
    have s5 := HB4.out.2.2
    omega⟩
  clear hb3 q1 q2 q3 q4 hb46 hb6 hx6 hx7 hxb hxd h0 hcr how hweb hfl hfv hfc hfi hctx H3 HB3 HB4
  go_wp2
  refine range_law (gf := 122) (lb := #[.pointer (some ⟨fb, 0, none⟩), .pointer (some ⟨cb, 0, none⟩)]) rfl (callFunc_enter Try.func122 (by kernel_rfl) rfl) (choices1_iter fb cb cr wp f (fineL st) A c (goneB st) (looseB st) W6 HH.out.1) (fun j => False) (fun j h => h.elim)
      (fun k' W' => Kp W6 W' (fun j => False) ∧ ∀ (i : Nat) (x : List Int), i < k' → (choicesL f (fineL st))[i]? = some x → lateB nn ls sn hi st d x = false)
      (fun cc k' W' => cc = .ret ∧ Kp W6 W' (fun j => j = b6 ∨ j = b7) ∧ (∀ (i : Nat) (x : List Int), i < k' → (choicesL f (fineL st))[i]? = some x → lateB nn ls sn hi st d x = false) ∧
        ∃ x Ax cx, (choicesL f (fineL st))[k']? = some x ∧ lateB nn ls sn hi st d x = true ∧ W'.heap[b6]? = some (.cells #[.slice Ax x.length cx] 33 (0, 0)) ∧ W'.heap[b7]? = some (.cells #[.bool true] 4 (0, 0)) ∧ IntsAt W' Ax x ∧ x.length ≤ cx) ?hI ?hIx ?h0
      (fun vv => { tmps := #[.pointer (some ⟨cr, 0, none⟩), .int .i64 (f : Int), .agg #[.int .i64 d.f0, .int .i64 d.f1], .pointer (some ⟨bb, 0, none⟩), undef, .pointer (some ⟨bd, 0, none⟩), .pointer (some ⟨b6, 0, none⟩), .pointer (some ⟨b7, 0, none⟩), vv, .pointer (some ⟨cr, 0, none⟩), .int .i64 (f : Int), .func (.func 122) #[] #[.pointer (some ⟨fb, 0, none⟩), .pointer (some ⟨cb, 0, none⟩)], vv, undef, undef, undef, undef, undef, undef, undef, undef, undef, undef, undef], defers := [] }) ?assign ?body ?done ?stop
  case hI => exact fun k' Wa Wb h hb => ⟨kp_below h.1 hb, h.2⟩
  case hIx =>
    rintro cc k' Wa Wb ⟨h1, h2, h3, x, Ax, cx, h4, h5, h6, h7, h8, h9⟩ hb hck
    refine ⟨h1, kp_below h2 hb, h3, x, Ax, cx, h4, h5, hck _ _ _ _ h6, hck _ _ _ _ h7, ints_keep h8 (fun a v hv => cellsK_cell hck a v hv), h9⟩
  case h0 => exact ⟨Kp.refl _ _, fun i x h => by omega⟩
  case assign =>
    intro lr vv Wa K hK
    gi_wp2
    exact hK
  case done =>
    rintro Wa hszW ⟨hk, hno⟩ hd
    have c6 : Wa.cell? ⟨b6, 0, none⟩ = some (.slice none 0 0) := blk_cell (hk.blk HH.out.2.1 (fun h => h)) 0
    have f6 : Wa.frozen? ⟨b6, 0, none⟩ = false := blk_frozen (hk.blk HH.out.2.1 (fun h => h)) 0
    have c7 : Wa.cell? ⟨b7, 0, none⟩ = some (.bool false) := blk_cell (hk.blk HH.out.2.2.1 (fun h => h)) 0
    have f7 : Wa.frozen? ⟨b7, 0, none⟩ = false := blk_frozen (hk.blk HH.out.2.2.1 (fun h => h)) 0
    have g6 : (Wa.setCell ⟨b6, 0, none⟩ (.slice none 0 0)).heap[b6]? = some (.cells #[.slice none 0 0] 33 (0, 0)) := by simpa using blk_set (hk.blk HH.out.2.1 (fun h => h)) 0 (.slice none 0 0)
    have g7 : (Wa.setCell ⟨b6, 0, none⟩ (.slice none 0 0)).heap[b7]? = some (.cells #[.bool false] 4 (0, 0)) := blk_far (hk.blk HH.out.2.2.1 (fun h => h)) (fun e => HGE.out.2.2 e.symm) _
    have d7 : (Wa.setCell ⟨b6, 0, none⟩ (.slice none 0 0)).cell? ⟨b7, 0, none⟩ = some (.bool false) := blk_cell g7 0
    have e7 : (Wa.setCell ⟨b6, 0, none⟩ (.slice none 0 0)).frozen? ⟨b7, 0, none⟩ = false := blk_frozen g7 0
    have i6 : ((Wa.setCell ⟨b6, 0, none⟩ (.slice none 0 0)).setCell ⟨b7, 0, none⟩ (.bool false)).heap[b6]? = some (.cells #[.slice none 0 0] 33 (0, 0)) := blk_far g6 HGE.out.2.2 _
    have i7 : ((Wa.setCell ⟨b6, 0, none⟩ (.slice none 0 0)).setCell ⟨b7, 0, none⟩ (.bool false)).heap[b7]? = some (.cells #[.bool false] 4 (0, 0)) := by simpa using blk_set g7 0 (.bool false)
    have hkk : Kp W6 ((Wa.setCell ⟨b6, 0, none⟩ (.slice none 0 0)).setCell ⟨b7, 0, none⟩ (.bool false)) (fun j => j = b6 ∨ j = b7) := ((hk.trans (Kp.setCell _ _ _ _) (U := fun j => j = b6 ∨ j = b7) (fun _ h => h.elim) (fun _ _ h => .inl h)).trans (Kp.setCell _ _ _ _) (fun _ h => h) (fun _ _ h => .inr h))
    have hl6 := blk_lt HH.out.2.1
    have hl7 := blk_lt HH.out.2.2.1
    have hd2 : ((Wa.setCell ⟨b6, 0, none⟩ (.slice none 0 0)).setCell ⟨b7, 0, none⟩ (.bool false)).heap[W6.heap.size]? = some (.deferred (some [])) := by
      rw [Below.heap_setCell _ _ _ _ (show W6.heap.size ≠ b7 by omega), Below.heap_setCell _ _ _ _ (show W6.heap.size ≠ b6 by omega)]; exact hd
    have HD := Aside0.mk (And.intro hkk (And.intro hno (And.intro hd2 (And.intro i6 i7))))
    clear hk hno hd hszW g6 g7 i6 i7 hkk hl6 hl7 hd2
    go_wp2
    obtain ⟨hk, hno, hd, h6, h7⟩ := HD.out
    refine leaves_marks (B := W6.heap.size) [W6.heap.size] _ (by simp) ?_ (fun W' hb hck hs' => ⟨_, results_blame W' _ b6 b7 _ false rfl rfl (cellsK_cell hck _ _ (blk_cell h6 0)) (cellsK_cell hck _ _ (blk_cell h7 0)) ⟨_, _, _, rfl⟩, ?_⟩)
    · intro D hD
      rw [List.mem_singleton.1 hD]
      exact ⟨hd, Nat.le_refl _⟩
    · have hbw := HH.out.2.2.2.2.2.trans (hk.below HH.out.2.2.2.2.2.size (fun i e => by rcases e with rfl | rfl; exact HGE.out.1; exact HGE.out.2.1))
      exact ⟨hbw.trans (hb.mono HH.out.2.2.2.2.2.size), .inl ⟨find_none hno, rfl⟩⟩
  case stop =>
    rintro cc k' Wa hszW hk' ⟨rfl, hk, hno, x, Ax, cx, h4, h5, h6, h7, h8, h9⟩ hd
    have HD := Aside0.mk (And.intro hk (And.intro hno (And.intro hd (And.intro h4 (And.intro h5 (And.intro h6 (And.intro h7 (And.intro h8 h9))))))))
    clear hk hno hd h4 h5 h6 h7 h8 h9
    go_wp2
    obtain ⟨hk, hno, hd, h4, h5, h6, h7, h8, h9⟩ := HD.out
    refine leaves_marks (B := W6.heap.size) [W6.heap.size] Wa (by simp) ?_ (fun W' hb hck hs' => ⟨_, results_blame W' _ b6 b7 _ true rfl rfl (cellsK_cell hck _ _ (blk_cell h6 0)) (cellsK_cell hck _ _ (blk_cell h7 0)) ⟨_, _, _, rfl⟩, ?_⟩)
    · intro D hD
      rw [List.mem_singleton.1 hD]
      exact ⟨hd, Nat.le_refl _⟩
    · have hbw : Below w.heap.size w Wa := HH.out.2.2.2.2.2.trans (hk.below HH.out.2.2.2.2.2.size (fun i e => by rcases e with rfl | rfl; exact HGE.out.1; exact HGE.out.2.1))
      refine ⟨hbw.trans (hb.mono HH.out.2.2.2.2.2.size), .inr ⟨x, Ax, cx, find_some h4 h5 hno, rfl, ints_keep h8 (fun a v hv => cellsK_cell hck a v hv), h9⟩⟩
  case body =>
    rintro lr k' x Ax cx Wa ⟨hk, hno⟩ hx hA hcx hszW
    have hbw : Below w.heap.size w Wa := HH.out.2.2.2.2.2.trans (hk.below HH.out.2.2.2.2.2.size (fun i e => e.elim))
    have hxm : x ∈ choicesL f (fineL st) := by
      obtain ⟨h1, h2⟩ := List.getElem?_eq_some_iff.1 hx
      rw [← h2]; exact List.getElem_mem h1
    obtain ⟨dn, hdn⟩ : ∃ dn : Nat, d.f0 = (dn : Int) := ⟨d.f0.toNat, by omega⟩
    have hdl : dn < nn := by omega
    have hbbW := hk.blk HH.out.2.2.2.1 (fun h => h)
    have hbdW := hk.blk HH.out.2.2.2.2.1 (fun h => h)
    rw [hdn] at hbdW
    have C0 : ∀ W, Below Wa.heap.size Wa W → W.cell? ⟨bb, 0, none⟩ = some (.pointer (some ⟨cr, 0, none⟩)) := fun W h => blk_cell (blk_below hbbW h) 0
    have C1 : ∀ W, Below Wa.heap.size Wa W → W.cell? ⟨bd, 0, none⟩ = some (.int .i64 (dn : Int)) := fun W h => blk_cell (blk_below hbdW h) 0
    have C2 : ∀ W, Below Wa.heap.size Wa W → W.cell? ⟨bd, 1, none⟩ = some (.int .i64 d.f1) := fun W h => blk_cell (blk_below hbdW h) 1
    have HCAL : Aside0 (∀ W, Below Wa.heap.size Wa W → Calls Try.prog 100 #[.pointer (some ⟨cr, 0, none⟩), .slice Ax x.length cx] W (ListPost W nn (hiL nn ls sn hi st x))) := ⟨fun W h => without_list cr B nn uu sv0 sn lo hi ls st Ax cx x W (HW.out.below (below_step hbw h)) HO.out (Kd.C_below hA h) hcx (choices_mem f st x hst hxm)⟩
    have HD := Aside0.mk (And.intro hk (And.intro hno (And.intro hx (And.intro hA (And.intro hcx (And.intro hszW hdn))))))
    have hmx : Try.prog.follows .mixedOrders = true := by kernel_rfl
    have hdl2 : (dn : Int) < (nn : Int) := by omega
    clear hk hno hx hA hcx hszW hdn hxm hbbW hbdW hbw
    gi_wp2
    refine region_round lr (S := fun W => Below Wa.heap.size Wa W) hmx (by kernel_rfl) (fun ⟨_, _, h⟩ => h) (below_drew1 (Below.refl _ _)) (fun hS => ?_)
    refine wpAnyH_take (i := 0) (v := .pointer (some ⟨cr, 0, none⟩)) rfl (by kernel_rfl) (by kernel_rfl) (by kernel_rfl) (fun _ _ _ h => h) (Or.inl ⟨by rfl, ?_⟩) hS ?_
    · intro Wx hSx
      go_simp
    try simp only [Act.put, List.setIfInBounds_toArray, List.set_cons_zero, List.set_cons_succ]
    refine wpAnyH_take (i := 1) (v := .slice Ax x.length cx) rfl (by kernel_rfl) (by kernel_rfl) (by kernel_rfl) (fun _ _ _ h => h) (Or.inl ⟨by rfl, ?_⟩) hS ?_
    · intro Wx hSx
      go_simp
    try simp only [Act.put, List.setIfInBounds_toArray, List.set_cons_zero, List.set_cons_succ]
    refine wpAnyH_take (i := 3) (v := .pointer (some ⟨bd, 0, none⟩)) rfl (by kernel_rfl) (by kernel_rfl) (by kernel_rfl) (fun _ _ _ h => h) (Or.inl ⟨by rfl, ?_⟩) hS ?_
    · intro Wx hSx
      go_simp
    try simp only [Act.put, List.setIfInBounds_toArray, List.set_cons_zero, List.set_cons_succ]
    refine wpAnyH_take (i := 4) (v := .int .i64 (dn : Int)) rfl (by kernel_rfl) (by kernel_rfl) (by kernel_rfl) (fun _ _ _ h => h) (Or.inl ⟨by rfl, ?_⟩) hS ?_
    · intro Wx hSx
      go_simp
    try simp only [Act.put, List.setIfInBounds_toArray, List.set_cons_zero, List.set_cons_succ]
    refine wpAnyH_take (i := 7) (v := .pointer (some ⟨bd, 1, none⟩)) rfl (by kernel_rfl) (by kernel_rfl) (by kernel_rfl) (fun _ _ _ h => h) (Or.inl ⟨by rfl, ?_⟩) hS ?_
    · intro Wx hSx
      go_simp
    try simp only [Act.put, List.setIfInBounds_toArray, List.set_cons_zero, List.set_cons_succ]
    refine wpAnyH_take (i := 8) (v := .int .i64 d.f1) rfl (by kernel_rfl) (by kernel_rfl) (by kernel_rfl) (fun _ _ _ h => h) (Or.inl ⟨by rfl, ?_⟩) hS ?_
    · intro Wx hSx
      go_simp
    try simp only [Act.put, List.setIfInBounds_toArray, List.set_cons_zero, List.set_cons_succ]
    refine wpAnyH_ready (rs := [2]) (by kernel_rfl) (by simp) ?_
    refine AllReadyH.cons rfl (fun K hK => ?_) AllReadyH.nil
    go_simp
    refine (HCAL.out _ hS).mono ?_
    rintro e Wb ⟨gt, rfl, hgt, hgb, hlen, hbb⟩
    have hSb := below_step hS hbb
    refine hK.out _ _ hSb (fun hHeld => ?_)
    clear hK K
    try simp only [Act.put, List.setIfInBounds_toArray, List.set_cons_zero, List.set_cons_succ]
    obtain ⟨hv, hhv⟩ : ∃ hv, hv = (hiL nn ls sn hi st x).getD dn 0 := ⟨_, rfl⟩
    have hdh : dn < (hiL nn ls sn hi st x).length := by rw [hlen]; exact hdl
    have e0 : Wb.cell? ⟨gt, dn, none⟩ = some (.int .i64 hv) := by
      rw [blk_cell hgb dn, hhv]
      simp [intsCs, hdh]
    have HHV := Aside0.mk hhv
    have HBB := Aside0.mk (And.intro hSb hbb)
    clear hgb hgt hlen hhv hbb hdh
    refine wpAnyH_take (i := 5) (v := .pointer (some ⟨gt, dn, none⟩)) rfl (by kernel_rfl) (by kernel_rfl) (by kernel_rfl) (fun _ _ _ h => h) (Or.inl ⟨by rfl, ?_⟩) hSb ?_
    · intro Wx hSx
      go_simp
    try simp only [Act.put, List.setIfInBounds_toArray, List.set_cons_zero, List.set_cons_succ]
    refine wpAnyH_ready (rs := [6]) (by kernel_rfl) (by simp) ?_
    refine AllReadyH.cons rfl (fun K hK => ?_) AllReadyH.nil
    go_simp
    refine hK.out _ _ hSb (fun hHeld2 => ?_)
    clear hK K
    try simp only [Act.put, List.setIfInBounds_toArray, List.set_cons_zero, List.set_cons_succ]
    refine wpAnyH_take (i := 9) (v := .bool (decide (d.f1 < hv))) rfl (by kernel_rfl) (by kernel_rfl) (by kernel_rfl) (fun _ _ _ h => h) (Or.inl ⟨by rfl, ?_⟩) hSb ?_
    · intro Wx hSx
      go_simp
    try simp only [Act.put, List.setIfInBounds_toArray, List.set_cons_zero, List.set_cons_succ]
    refine wpAnyH_done (by kernel_rfl) ?_ _
    have hlate : lateB nn ls sn hi st d x = decide (d.f1 < hv) := by
      unfold lateB
      rw [HD.out.2.2.2.2.2.2, Int.toNat_natCast, ← HHV.out]
    have hkb : Kp Wa Wb (fun _ => False) := Kp.of_below HBB.out.1 _
    have hk6 : Kp W6 Wb (fun j => False) := HD.out.1.trans hkb (fun _ h => h) (fun _ _ h => h)
    have HK6 := Aside0.mk (And.intro hk6 (And.intro hkb hlate))
    clear hlate hkb hk6 C0 C1 C2 e0 hS hSb hHeld hHeld2
    by_cases hl : d.f1 < hv
    · have hdl3 : decide (d.f1 < hv) = true := by simpa using hl
      have c6 : Wb.cell? ⟨b6, 0, none⟩ = some (.slice none 0 0) := blk_cell (HK6.out.1.blk HH.out.2.1 (fun h => h)) 0
      have f6 : Wb.frozen? ⟨b6, 0, none⟩ = false := blk_frozen (HK6.out.1.blk HH.out.2.1 (fun h => h)) 0
      have g6 : (Wb.setCell ⟨b6, 0, none⟩ (.slice Ax x.length cx)).heap[b6]? = some (.cells #[.slice Ax x.length cx] 33 (0, 0)) := by simpa using blk_set (HK6.out.1.blk HH.out.2.1 (fun h => h)) 0 (.slice Ax x.length cx)
      have g7 : (Wb.setCell ⟨b6, 0, none⟩ (.slice Ax x.length cx)).heap[b7]? = some (.cells #[.bool false] 4 (0, 0)) := blk_far (HK6.out.1.blk HH.out.2.2.1 (fun h => h)) (fun e => HGE.out.2.2 e.symm) _
      have d7 : (Wb.setCell ⟨b6, 0, none⟩ (.slice Ax x.length cx)).cell? ⟨b7, 0, none⟩ = some (.bool false) := blk_cell g7 0
      have e7 : (Wb.setCell ⟨b6, 0, none⟩ (.slice Ax x.length cx)).frozen? ⟨b7, 0, none⟩ = false := blk_frozen g7 0
      have i6 : ((Wb.setCell ⟨b6, 0, none⟩ (.slice Ax x.length cx)).setCell ⟨b7, 0, none⟩ (.bool true)).heap[b6]? = some (.cells #[.slice Ax x.length cx] 33 (0, 0)) := blk_far g6 HGE.out.2.2 _
      have i7 : ((Wb.setCell ⟨b6, 0, none⟩ (.slice Ax x.length cx)).setCell ⟨b7, 0, none⟩ (.bool true)).heap[b7]? = some (.cells #[.bool true] 4 (0, 0)) := by simpa using blk_set g7 0 (.bool true)
      have hks : Kp Wb ((Wb.setCell ⟨b6, 0, none⟩ (.slice Ax x.length cx)).setCell ⟨b7, 0, none⟩ (.bool true)) (fun j => j = b6 ∨ j = b7) := (Kp.setCell _ _ _ _).trans (Kp.setCell _ _ _ _) (fun _ h => .inl h) (fun _ _ h => .inr h)
      have HE := Aside0.mk (And.intro i6 (And.intro i7 hks))
      clear g6 g7 i6 i7 hks
      gi_wp2
      obtain ⟨i6, i7, hks⟩ := HE.out
      have hb6W := HK6.out.1.blk HH.out.2.1 (fun h => h)
      have hb7W := HK6.out.1.blk HH.out.2.2.1 (fun h => h)
      have hl6 := blk_lt HH.out.2.1
      have hl7 := blk_lt HH.out.2.2.1
      refine ⟨⟨rfl, HK6.out.1.trans hks (fun _ h => h.elim) (fun _ _ h => h), HD.out.2.1, x, HD.out.2.2.1, by rw [HK6.out.2.2]; exact hdl3, Ax, cx, i6, i7, ?_, HD.out.2.2.2.2.1⟩, HK6.out.2.1.trans hks (fun _ h => h.elim) (fun j _ h => by rcases h with rfl | rfl <;> assumption)⟩
      refine ints_keep2 (Kd.C_below HD.out.2.2.2.1 HBB.out.1) (fun a p ha => ?_)
      have n6 := int_far hb6W (fun q e => by cases e) a p ha
      have n7 := int_far hb7W (fun q e => by cases e) a p ha
      exact (World.cell?_of_block (hks.block a.block (World.block_lt_of_cell? _ _ ha) (fun h => h.elim n6 n7))).trans ha
    · have hdl3 : decide (d.f1 < hv) = false := by simpa using hl
      gi_wp2
      refine ⟨⟨HK6.out.1, fun i y hi hy => ?_⟩, HK6.out.2.1⟩
      by_cases hik : i < k'
      · exact HD.out.2.1 i y hik hy
      · obtain rfl : i = k' := by omega
        rw [HD.out.2.2.1] at hy
        cases hy
        rw [HK6.out.2.2]; exact hdl3
end Go.Proofs.Ytgmglpnoppcnkaa
end
section
namespace Go.Proofs.Ytgmglpnoppcnkaa
open Go.RowKit Go.Proofs.YtgmglpnoppcnkaaW.PrintWords Go.Proofs.YtgmglpnoppcnkaaW.PrintLast Go.Proofs.YtgmglpnoppcnkaaW.PrintMore
set_option linter.unusedVariables false
set_option linter.unusedSimpArgs false
set_option maxRecDepth 100000

theorem asked_ok (nn uu : Int) (A : Option Addr) (c : Nat) (ls : List Lk) (sn lo hi : Int) (A2 : Option Addr) (c2 : Nat) (st : List Int) (f : Int) (d : Du) (w : World)
    (hr : Kd.C PB.k88 w A ls.length ls) (hc : ls.length ≤ c) (hr2 : Kd.C (Kd.int .i64) w A2 st.length st) (hc2 : st.length ≤ c2) (h : askE nn uu ls sn lo hi st f d = 0) :
    Calls Try.prog 95 #[.agg #[.int .i64 nn, .int .i64 uu, .slice A ls.length c], .agg #[.int .i64 sn, .int .i64 lo, .int .i64 hi], .slice A2 st.length c2, .int .i64 f, .agg #[.int .i64 d.f0, .int .i64 d.f1]] w fun e w' => ∃ cb, e = .returned (.tuple #[.pointer (some ⟨cb, 0, none⟩), .int .i64 0]) ∧ Below w.heap.size w w' ∧ CareAt w' w.heap.size cb nn uu (.slice A ls.length c) sn lo hi ls st :=
  (asked_calls nn uu A c ls sn lo hi A2 c2 st f d w hr hc hr2 hc2).mono fun e w' ⟨hb, hx⟩ => by
    rcases hx with ⟨hne, _⟩ | ⟨_, cb, he, hw⟩
    · exact absurd h hne
    · exact ⟨cb, he, hb, hw⟩
theorem asked_err (nn uu : Int) (A : Option Addr) (c : Nat) (ls : List Lk) (sn lo hi : Int) (A2 : Option Addr) (c2 : Nat) (st : List Int) (f : Int) (d : Du) (w : World)
    (hr : Kd.C PB.k88 w A ls.length ls) (hc : ls.length ≤ c) (hr2 : Kd.C (Kd.int .i64) w A2 st.length st) (hc2 : st.length ≤ c2) (h : askE nn uu ls sn lo hi st f d ≠ 0) :
    Calls Try.prog 95 #[.agg #[.int .i64 nn, .int .i64 uu, .slice A ls.length c], .agg #[.int .i64 sn, .int .i64 lo, .int .i64 hi], .slice A2 st.length c2, .int .i64 f, .agg #[.int .i64 d.f0, .int .i64 d.f1]] w fun e w' => ∃ pv, e = .returned (.tuple #[pv, .int .i64 (askE nn uu ls sn lo hi st f d)]) ∧ Below w.heap.size w w' :=
  (asked_calls nn uu A c ls sn lo hi A2 c2 st f d w hr hc hr2 hc2).mono fun e w' ⟨hb, hx⟩ => by
    rcases hx with ⟨_, pv, he⟩ | ⟨hne, _⟩
    · exact ⟨pv, he, hb⟩
    · exact absurd hne h
theorem askE_ok {nn uu : Int} {ls : List Lk} {sn lo hi : Int} {st : List Int} {f : Int} {d : Du} (h : askE nn uu ls sn lo hi st f d = 0) : validE nn uu ls sn lo hi st f = 0 ∧ 0 ≤ d.f0 ∧ d.f0 < nn ∧ 0 ≤ d.f1 ∧ d.f1 ≤ NV := by
  unfold askE at h
  split at h
  · rename_i h0
    refine ⟨h0, ?_⟩
    unfold duesE at h
    rw [if_neg (by simp)] at h
    unfold duesErr at h
    split at h
    · rename_i h1
      split at h
      · rename_i h2; exact ⟨h1.1, by omega, h2.1, h2.2⟩
      · omega
    · omega
  · rename_i h0; exact absurd h h0

/-- What Blame hands back. -/
noncomputable def blameL (nn : Nat) (ls : List Lk) (sn hi : Int) (st : List Int) (f : Nat) (d : Du) : Option (List Int) := (choicesL f (fineL st)).find? (lateB nn ls sn hi st d)

set_option maxHeartbeats 4000000 in
theorem Blame_err (nn uu : Int) (A : Option Addr) (c : Nat) (ls : List Lk) (sn lo hi : Int) (A2 : Option Addr) (c2 : Nat) (st : List Int) (f : Int) (d : Du) (w : World)
    (hr : Kd.C PB.k88 w A ls.length ls) (hc : ls.length ≤ c) (hr2 : Kd.C (Kd.int .i64) w A2 st.length st) (hc2 : st.length ≤ c2) (h : askE nn uu ls sn lo hi st f d ≠ 0) :
    Calls Try.prog 39 #[.agg #[.int .i64 nn, .int .i64 uu, .slice A ls.length c], .agg #[.int .i64 sn, .int .i64 lo, .int .i64 hi], .slice A2 st.length c2, .int .i64 f, .agg #[.int .i64 d.f0, .int .i64 d.f1]] w fun e w' => e = .returned (.tuple #[.slice none 0 0, .bool false, .int .i64 (askE nn uu ls sn lo hi st f d)]) ∧ Below w.heap.size w w' := by
  have HR := Aside0.mk (And.intro hr (And.intro hc (And.intro hr2 hc2)))
  have HV := Aside0.mk h
  have hd : (askE nn uu ls sn lo hi st f d != 0) = true := by simpa using h
  clear hr hc hr2 hc2 h
  go_enter Try.func39, Try.ntmps39
  go_wp2_with ((with_reducible refine gate_dst (N := 5) rfl ?_); refine hold ?_)
  refine box_event rfl (N := 5) rfl (cs := #[.int .i64 nn, .int .i64 uu, .slice A ls.length c]) (t := 32) (by go_simp) ?_
  intro bn hbn w1 hb1 hB1
  have HB1 := Aside0.mk (And.intro hB1 hb1)
  clear hbn hB1 hb1
  go_wp2_with ((with_reducible refine gate_dst (N := 6) rfl ?_); refine hold ?_)
  refine box_event rfl (N := 6) rfl (cs := #[.int .i64 sn, .int .i64 lo, .int .i64 hi]) (t := 43) (by go_simp) ?_
  intro bs hbs w2 hb2 hB2
  have HB2 := Aside0.mk (And.intro (below_step HB1.out.1 hB2) (And.intro (blk_below HB1.out.2 hB2) hb2))
  clear hbs hB2 hb2
  go_wp2_with ((with_reducible refine gate_dst (N := 9) rfl ?_); refine hold ?_)
  refine box_event rfl (N := 9) rfl (cs := #[.int .i64 d.f0, .int .i64 d.f1]) (t := 94) (by go_simp) ?_
  intro bd hbd w3 hb3 hB3
  have HB3 := Aside0.mk (below_step HB2.out.1 hB3)
  have hx1 := blk_below HB2.out.2.1 hB3
  have hx2 := blk_below HB2.out.2.2 hB3
  have C0 : w3.cell? ⟨bn, 0, none⟩ = some (.int .i64 nn) := blk_cell hx1 0
  have C1 : w3.cell? ⟨bn, 1, none⟩ = some (.int .i64 uu) := blk_cell hx1 1
  have C2 : w3.cell? ⟨bn, 2, none⟩ = some (.slice A ls.length c) := blk_cell hx1 2
  have C3 : w3.cell? ⟨bs, 0, none⟩ = some (.int .i64 sn) := blk_cell hx2 0
  have C4 : w3.cell? ⟨bs, 1, none⟩ = some (.int .i64 lo) := blk_cell hx2 1
  have C5 : w3.cell? ⟨bs, 2, none⟩ = some (.int .i64 hi) := blk_cell hx2 2
  have C6 : w3.cell? ⟨bd, 0, none⟩ = some (.int .i64 d.f0) := blk_cell hb3 0
  have C7 : w3.cell? ⟨bd, 1, none⟩ = some (.int .i64 d.f1) := blk_cell hb3 1
  clear hx1 hx2 hb3 hB3 hbd
  go_wp2_with (first | (go_at_call 95; refine ((asked_err nn uu A c ls sn lo hi A2 c2 st f d _ (Kd.C_below HR.out.1 HB3.out) HR.out.2.1 (Kd.C_below HR.out.2.2.1 HB3.out) HR.out.2.2.2 HV.out).mono ?_); rintro e w4 ⟨pv, rfl, hb⟩; have HB4 := Aside0.mk (below_step HB3.out hb); clear hb C0 C1 C2 C3 C4 C5 C6 C7))
  refine bodyPost_ret (results_tmp3 rfl _ _ _) rfl ?_
  exact ⟨rfl, HB4.out⟩
set_option maxHeartbeats 4000000 in
theorem Blame_ok (n : Nat) (uu : Int) (A : Option Addr) (c : Nat) (ls : List Lk) (sn lo hi : Int) (A2 : Option Addr) (c2 : Nat) (st : List Int) (f : Nat) (d : Du) (w : World)
    (hr : Kd.C PB.k88 w A ls.length ls) (hc : ls.length ≤ c) (hr2 : Kd.C (Kd.int .i64) w A2 st.length st) (hc2 : st.length ≤ c2) (h : askE n uu ls sn lo hi st f d = 0) :
    Calls Try.prog 39 #[.agg #[.int .i64 n, .int .i64 uu, .slice A ls.length c], .agg #[.int .i64 sn, .int .i64 lo, .int .i64 hi], .slice A2 st.length c2, .int .i64 f, .agg #[.int .i64 d.f0, .int .i64 d.f1]] w fun e w' => Below w.heap.size w w' ∧ ((blameL n ls sn hi st f d = none ∧ e = .returned (.tuple #[.slice none 0 0, .bool false, .int .i64 0])) ∨
      ∃ x A c, blameL n ls sn hi st f d = some x ∧ e = .returned (.tuple #[.slice A x.length c, .bool true, .int .i64 0]) ∧ IntsAt w' A x ∧ x.length ≤ c) := by
  have HR := Aside0.mk (And.intro hr (And.intro hc (And.intro hr2 hc2)))
  have HV := Aside0.mk h
  obtain ⟨hv0, hd0, hd1, -, -⟩ := askE_ok h
  obtain ⟨n', e, hO, hst, -, -, hf3⟩ := validE_ok hv0
  have : n = n' := by omega
  subst this
  have hst20 : st.length ≤ 20 := by have := hO.net.u2; omega
  have hf : f ≤ 100 := by omega
  have HO := Aside0.mk (And.intro hO (And.intro hd0 hd1))
  clear hv0 hd0 hd1 e hO hst hf3
  clear hr hc hr2 hc2 h
  go_enter Try.func39, Try.ntmps39
  go_wp2_with ((with_reducible refine gate_dst (N := 5) rfl ?_); refine hold ?_)
  refine box_event rfl (N := 5) rfl (cs := #[.int .i64 n, .int .i64 uu, .slice A ls.length c]) (t := 32) (by go_simp) ?_
  intro bn hbn w1 hb1 hB1
  have HB1 := Aside0.mk (And.intro hB1 hb1)
  clear hbn hB1 hb1
  go_wp2_with ((with_reducible refine gate_dst (N := 6) rfl ?_); refine hold ?_)
  refine box_event rfl (N := 6) rfl (cs := #[.int .i64 sn, .int .i64 lo, .int .i64 hi]) (t := 43) (by go_simp) ?_
  intro bs hbs w2 hb2 hB2
  have HB2 := Aside0.mk (And.intro (below_step HB1.out.1 hB2) (And.intro (blk_below HB1.out.2 hB2) hb2))
  clear hbs hB2 hb2
  go_wp2_with ((with_reducible refine gate_dst (N := 9) rfl ?_); refine hold ?_)
  refine box_event rfl (N := 9) rfl (cs := #[.int .i64 d.f0, .int .i64 d.f1]) (t := 94) (by go_simp) ?_
  intro bd hbd w3 hb3 hB3
  have HB3 := Aside0.mk (below_step HB2.out.1 hB3)
  have hx1 := blk_below HB2.out.2.1 hB3
  have hx2 := blk_below HB2.out.2.2 hB3
  have C0 : w3.cell? ⟨bn, 0, none⟩ = some (.int .i64 n) := blk_cell hx1 0
  have C1 : w3.cell? ⟨bn, 1, none⟩ = some (.int .i64 uu) := blk_cell hx1 1
  have C2 : w3.cell? ⟨bn, 2, none⟩ = some (.slice A ls.length c) := blk_cell hx1 2
  have C3 : w3.cell? ⟨bs, 0, none⟩ = some (.int .i64 sn) := blk_cell hx2 0
  have C4 : w3.cell? ⟨bs, 1, none⟩ = some (.int .i64 lo) := blk_cell hx2 1
  have C5 : w3.cell? ⟨bs, 2, none⟩ = some (.int .i64 hi) := blk_cell hx2 2
  have C6 : w3.cell? ⟨bd, 0, none⟩ = some (.int .i64 d.f0) := blk_cell hb3 0
  have C7 : w3.cell? ⟨bd, 1, none⟩ = some (.int .i64 d.f1) := blk_cell hb3 1
  have HBD := Aside0.mk hb3
  clear hx1 hx2 hb3 hB3 hbd
  go_wp2_with (first | (go_at_call 95; refine ((asked_ok n uu A c ls sn lo hi A2 c2 st f d _ (Kd.C_below HR.out.1 HB3.out) HR.out.2.1 (Kd.C_below HR.out.2.2.1 HB3.out) HR.out.2.2.2 HV.out).mono ?_); rintro e w4 ⟨cr, rfl, hb, hca⟩; have HB4 := Aside0.mk (below_step HB3.out hb); have HCA := Aside0.mk hca; have D6 : w4.cell? ⟨bd, 0, none⟩ = some (.int .i64 d.f0) := (blk_cell (blk_below HBD.out hb) 0); have D7 : w4.cell? ⟨bd, 1, none⟩ = some (.int .i64 d.f1) := (blk_cell (blk_below HBD.out hb) 1); clear hb hca C0 C1 C2 C3 C4 C5 C6 C7) | (go_at_call 96; refine hold ?_))
  refine (blame_calls cr w3.heap.size n uu (.slice A ls.length c) sn lo hi ls st f d _ HCA.out HO.out.1 hst20 hf HO.out.2.1 HO.out.2.2).mono ?_
  rintro e w5 ⟨hb5, ⟨hno, rfl⟩ | ⟨x, Ax, cx, hx, rfl, hA, hcx⟩⟩
  · have HE := Aside0.mk (And.intro hb5 hno)
    clear hb5 hno D6 D7
    go_wp2
    refine bodyPost_ret (results_tmp3 rfl _ _ _) rfl ?_
    exact ⟨below_step HB4.out HE.out.1, .inl ⟨HE.out.2, rfl⟩⟩
  · have HE := Aside0.mk (And.intro hb5 (And.intro hx (And.intro hA hcx)))
    clear hb5 hx hA hcx D6 D7
    go_wp2
    refine bodyPost_ret (results_tmp3 rfl _ _ _) rfl ?_
    exact ⟨below_step HB4.out HE.out.1, .inr ⟨x, Ax, cx, HE.out.2.1, rfl, HE.out.2.2.1, HE.out.2.2.2⟩⟩
end Go.Proofs.Ytgmglpnoppcnkaa
end
section
namespace Go.Proofs.Ytgmglpnoppcnkaa
open Go.RowKit Go.Proofs.YtgmglpnoppcnkaaW.PrintWords Go.Proofs.YtgmglpnoppcnkaaW.PrintLast Go.Proofs.YtgmglpnoppcnkaaW.PrintMore
set_option linter.unusedVariables false
set_option linter.unusedSimpArgs false
set_option maxRecDepth 100000

/-- The numbers from i on at which there is true. -/
def trueFrom : Nat → List Bool → List Int
  | _, [] => []
  | i, b :: r => if b then (i : Int) :: trueFrom (i + 1) r else trueFrom (i + 1) r
def listB (s : List Bool) : List Int := trueFrom 0 s
theorem trueFrom_snoc (l : List Bool) : ∀ (i : Nat) (b : Bool), trueFrom i (l ++ [b]) = if b then trueFrom i l ++ [((i + l.length : Nat) : Int)] else trueFrom i l := by
  induction l with
  | nil => intro i b; cases b <;> simp [trueFrom]
  | cons y r ih =>
    intro i b
    simp only [List.cons_append, trueFrom, ih, List.length_cons]
    rw [show i + 1 + r.length = i + (r.length + 1) by omega]
    cases b <;> cases y <;> simp
theorem trueFrom_len (l : List Bool) : ∀ i, (trueFrom i l).length ≤ l.length := by
  induction l with
  | nil => intro i; exact Nat.le_refl _
  | cons x r ih =>
    intro i
    simp only [trueFrom, List.length_cons]
    have := ih (i + 1)
    split
    · simp only [List.length_cons]; omega
    · omega
theorem listB_take (s : List Bool) (i : Nat) (hi : i < s.length) : listB (s.take (i + 1)) = if s[i] then listB (s.take i) ++ [(i : Int)] else listB (s.take i) := by
  unfold listB
  rw [List.take_add_one, List.getElem?_eq_getElem hi, Option.toList_some, trueFrom_snoc, List.length_take, Nat.zero_add, Nat.min_eq_left (by omega)]

theorem run_index_set (s : List Bool) (i : Nat) (b : Bool) (hs : s.length = 20) (hi : i < 20) (hb : s[i]? = some b) (W : World) : (Instr.index 144 (.agg (setCs s).toArray) (.int .i64 (i : Int))).run Try.prog W = .ok (.bool b) W := by
  have h1 : (0 : Int) ≤ (i : Int) ∧ (i : Int) < 20 := by omega
  have hu4 := Try.underlying4
  have hc : (setCs s)[i]? = some (.bool b) := by simp [setCs, hb]
  simp [Instr.index, Sem.run_bind, run_underlying Try.underlying144, asIntOf, Result.andThen, go_sem, h1, hc]
  intro h20
  omega
set_option maxHeartbeats 4000000 in
theorem list_calls (s : List Bool) (w : World) (hs : s.length = 20) :
    Calls Try.prog 79 #[.agg (setCs s).toArray] w fun e w' => ∃ v, e = .returned v ∧ w'.ownsRow w.heap.size 3 1 v (listB s).length (ints (listB s)) ∧ Below w.heap.size w w' := by
  obtain ⟨i3, hi3, hy0, hy1, hy2⟩ := info_parts info3
  have HS := Aside0.mk hs
  clear hs
  go_enter Try.func79, Try.ntmps79
  go_wp2_with ((with_reducible refine gate_dst (N := 1) rfl ?_); refine hold ?_)
  refine box_event rfl (N := 1) rfl (cs := (setCs s).toArray) (t := 144) (by go_simp) ?_
  intro bs hbs w1 hb1 hB1
  have HB1 := Aside0.mk (And.intro hB1 hb1)
  clear hbs hB1 hb1
  go_wp2_with ((with_reducible refine gate_dst (N := 6) rfl ?_); refine hold ?_)
  refine wpList_load_row rfl 144 (.tmp 1) rfl bs (by go_simp) 144 (setCs s).toArray (0, 0) _ HB1.out.2 Try.underlying144 rfl (by rw [List.size_toArray, setCs_length, HS.out]; exact info144) ?_
  go_wp2
  have HI0 : Aside0 (Below w.heap.size w w1 ∧ w1.ownsRow w.heap.size 3 1 (.slice none 0 0) (listB (s.take 0)).length (ints (listB (s.take 0)))) := ⟨HB1.out.1, by rw [List.take_zero]; exact ⟨rfl, .inl ⟨rfl, rfl⟩⟩⟩
  go_loopw [3, 7] (fun v3 v7 wr => ∃ i : Nat, v7 = .int .i64 i ∧ i ≤ 20 ∧ Aside0 (Below w.heap.size w wr ∧ wr.ownsRow w.heap.size 3 1 v3 (listB (s.take i)).length (ints (listB (s.take i))))) (fun _ v7 _ => 20 - (intOf v7).toNat)
  case atStart => exact ⟨0, rfl, by omega, HI0⟩
  case round =>
    obtain ⟨i, rfl, hi, HI⟩ := hrel
    clear HI0
    obtain ⟨wo, rfl⟩ : ∃ wo, wo = wr := ⟨_, rfl⟩
    by_cases hgo : i < 20
    · have hil : i < s.length := by rw [HS.out]; exact hgo
      have hwi : IntKind.i64.wrap ((i : Int) + 1) = (i : Int) + 1 := by rw [i64_w]; unfold wrap64; omega
      have hdg : decide ((i : Int) < 20) = true := by simp; omega
      obtain ⟨b, hb⟩ : ∃ b, s[i] = b := ⟨_, rfl⟩
      have hidx : (setCs s)[i]? = some (.bool b) := by simp [setCs, hil, hb]
      have hlen : (setCs s).length = 20 := by rw [setCs_length, HS.out]
      have HB := Aside0.mk (show listB (s.take (i + 1)) = if b then listB (s.take i) ++ [(i : Int)] else listB (s.take i) by rw [listB_take s i hil, hb])
      have hll : (listB (s.take i)).length ≤ 20 := by
        have := trueFrom_len (s.take i) 0
        rw [List.length_take] at this
        unfold listB
        omega
      have hix : ∀ W, (Instr.index 144 (.agg (setCs s).toArray) (.int .i64 (i : Int))).run Try.prog W = .ok (.bool b) W := run_index_set s i b HS.out hgo (by rw [List.getElem?_eq_getElem hil, hb])
      clear hb hil hidx hlen
      cases b
      · go_wp2
        go_roundw
        case rel => exact ⟨i + 1, by go_num, by omega, ⟨HI.out.1, by rw [HB.out]; exact HI.out.2⟩⟩
        case measure => simp [intOf]; omega
      · have hA : Below wo.heap.size wo (wo.alloc (.cells #[.int .i64 (i : Int)] 3)) := below_alloc (Below.refl _ _) _
        have HN : Aside0 ((wo.alloc (.cells #[.int .i64 (i : Int)] 3)).ownsRow w.heap.size 3 1 u3 (listB (s.take i)).length (ints (listB (s.take i))) ∧ Below w.heap.size w (wo.alloc (.cells #[.int .i64 (i : Int)] 3)) ∧ ∀ j u, [Value.int .i64 (i : Int)][j]? = some u → (wo.alloc (.cells #[.int .i64 (i : Int)] 3)).cell? ((⟨wo.heap.size, 0, none⟩ : Addr).add j) = some u) := ⟨HI.out.2.alloc _, below_step HI.out.1 hA, World.news_of_block (w := wo.alloc (.cells #[.int .i64 (i : Int)] 3)) (cs := #[.int .i64 (i : Int)]) (blk_new wo _)⟩
        clear hA
        go_wp2_with ((with_reducible refine gate_dst (N := 15) rfl ?_); refine hold ?_)
        refine wpList_append_lies _ rfl (.tmp 12) (.tmp 14) 33 rfl w.heap.size 3 i3 _ 1 8 Try.underlying33 hi3 hy0 hy1 hy2 rfl (by decide) u3 (listB (s.take i)).length (ints (listB (s.take i))) (by go_simp) HN.out.1 ⟨wo.heap.size, 0, none⟩ 1 1 [.int .i64 (i : Int)] (by go_simp) rfl HN.out.2.2 (by simp [Value.oneCell']) (by decide) (by unfold maxLen; omega) (by omega) HN.out.2.1.size _ rfl ?_
        intro g cap w5 hown5 hg5 hor hlt5
        have HI5 : Aside0 (Below w.heap.size w w5 ∧ w5.ownsRow w.heap.size 3 1 (.slice (some ⟨g, 0, none⟩) ((listB (s.take i)).length + 1) cap) (listB (s.take (i + 1))).length (ints (listB (s.take (i + 1))))) := by
          refine ⟨HN.out.2.1.trans ((Kp.grown hg5).below HN.out.2.1.size (fun k hk => own_base HN.out.1 k hk.symm)), ?_⟩
          rw [HB.out]
          simpa [ints] using hown5
        clear hown5 hg5 hor hlt5
        obtain ⟨N, hN⟩ : ∃ N, N = (listB (s.take i)).length + 1 := ⟨_, rfl⟩
        rw [← hN] at HI5 ⊢
        clear hN hll
        go_wp2
        go_roundw
        case rel => exact ⟨i + 1, by go_num, by omega, HI5⟩
        case measure => simp [intOf]; omega
    · obtain rfl : i = 20 := by omega
      clear hi hgo
      go_wp2
      go_ret
      have h2 := HI.out.2
      rw [List.take_of_length_le (by rw [HS.out]; exact Nat.le_refl _)] at h2
      exact ⟨_, rfl, h2, HI.out.1⟩
end Go.Proofs.Ytgmglpnoppcnkaa
end
section
namespace Go.Proofs.Ytgmglpnoppcnkaa
open Go.RowKit Go.Proofs.YtgmglpnoppcnkaaW.PrintWords Go.Proofs.YtgmglpnoppcnkaaW.PrintLast Go.Proofs.YtgmglpnoppcnkaaW.PrintMore
set_option linter.unusedVariables false
set_option linter.unusedSimpArgs false
set_option maxRecDepth 100000

theorem hu165 : Try.prog.underlying 165 = some (.map 3 3) := by kernel_rfl
theorem zero3 (w : World) : (zeroValue 3).run Try.prog w = .ok (.int .i64 0) w := by rfl
/-- The times that a map of receipts tells. -/
def TimesAt (w : World) (m : Nat) (tm : Int → Option Int) : Prop := ∃ L c, MapAt w m L c ∧ ∀ k, lookL L k = (tm k).map (Value.int .i64)
def runCs (wp m : Nat) (failed : List Bool) : List Value := .pointer (some ⟨wp, 0, none⟩) :: .map (some m) :: setCs failed
structure RunAt (w : World) (rb wp m : Nat) (tm : Int → Option Int) (failed : List Bool) : Prop where
  blk : w.heap[rb]? = some (.cells (runCs wp m failed).toArray 167 (0, 0))
  tm : TimesAt w m tm
  len : failed.length = 20
theorem RunAt.below {w W : World} {rb wp m : Nat} {tm : Int → Option Int} {failed : List Bool} (h : RunAt w rb wp m tm failed) (hb : Below w.heap.size w W) : RunAt W rb wp m tm failed := by
  obtain ⟨L, c, h1, h2⟩ := h.tm
  exact ⟨blk_below h.blk hb, ⟨L, c, (hb.block m (blk_lt h1)).trans h1, h2⟩, h.len⟩
theorem RunAt.look {w : World} {rb wp m : Nat} {tm : Int → Option Int} {failed : List Bool} (h : RunAt w rb wp m tm failed) (k : Int) :
    (Instr.lookup 165 (.map (some m)) (.int .i64 k) true).run Try.prog w = .ok (.tuple #[.int .i64 ((tm k).getD 0), .bool (tm k).isSome]) w := by
  obtain ⟨L, c, h1, h2⟩ := h.tm
  rw [run_look_ok w 165 3 hu165 _ (zero3 w) m L c h1 k, h2]
  cases tm k <;> rfl
theorem RunAt.look1 {w : World} {rb wp m : Nat} {tm : Int → Option Int} {failed : List Bool} (h : RunAt w rb wp m tm failed) (k : Int) :
    (Instr.lookup 165 (.map (some m)) (.int .i64 k) false).run Try.prog w = .ok (.int .i64 ((tm k).getD 0)) w := by
  obtain ⟨L, c, h1, h2⟩ := h.tm
  rw [run_look w 165 3 hu165 _ (zero3 w) m L c h1 k, h2]
  cases tm k <;> rfl

/-- The link is sure and did not pass on a warning. -/
def silentB (tm : Int → Option Int) (l : Lk) (u : Int) : Bool :=
  match tm l.f0 with
  | none => false
  | some t => l.f4 && decide (t + l.f2.f1 ≤ u) && (match tm l.f1 with | none => true | some s => decide (t + l.f2.f1 < s))

set_option maxHeartbeats 4000000 in
theorem silent_calls (rb wp m : Nat) (tm : Int → Option Int) (failed : List Bool) (l : Lk) (u : Int) (w : World) (hr : RunAt w rb wp m tm failed) (hb : ∀ k t, tm k = some t → 0 ≤ t ∧ t ≤ 1000000000) (hd : 0 ≤ l.f2.f1 ∧ l.f2.f1 ≤ 1000000000) :
    Calls Try.prog 75 #[.pointer (some ⟨rb, 0, none⟩), .agg (linkCs l), .int .i64 u] w fun e w' => e = .returned (.bool (silentB tm l u)) ∧ Below w.heap.size w w' := by
  have HR := Aside0.mk hr
  clear hr
  unfold linkCs
  go_enter Try.func75, Try.ntmps75
  go_wp2_with ((with_reducible refine gate_dst (N := 4) rfl ?_); refine hold ?_)
  refine box_event rfl (N := 4) rfl (cs := linkCs l) (t := 88) (by unfold linkCs; go_simp) ?_
  intro lb hlb w1 hb1 hB1
  have hR1 := HR.out.below hB1
  have HB1 := Aside0.mk (And.intro hB1 hb1)
  have C0 : ∀ W, Below w1.heap.size w1 W → W.cell? ⟨rb, 1, none⟩ = some (.map (some m)) := fun W h => blk_cell (blk_below hR1.blk h) 1
  have C1 : ∀ W, Below w1.heap.size w1 W → W.cell? ⟨lb, 0, none⟩ = some (.int .i64 l.f0) := fun W h => blk_cell (blk_below hb1 h) 0
  have C2 : ∀ W, Below w1.heap.size w1 W → W.cell? ⟨lb, 1, none⟩ = some (.int .i64 l.f1) := fun W h => blk_cell (blk_below hb1 h) 1
  have L0 : (Instr.lookup 165 (.map (some m)) (.int .i64 l.f0) true).run Try.prog w1.drew = .ok (.tuple #[.int .i64 ((tm l.f0).getD 0), .bool (tm l.f0).isSome]) w1.drew := (hR1.below (below_drew1 (Below.refl _ _))).look l.f0
  have L1 : (Instr.lookup 165 (.map (some m)) (.int .i64 l.f1) true).run Try.prog w1.drew.drew = .ok (.tuple #[.int .i64 ((tm l.f1).getD 0), .bool (tm l.f1).isSome]) w1.drew.drew := (hR1.below (below_drew1 (below_drew1 (Below.refl _ _)))).look l.f1
  have HB := Aside0.mk (And.intro hb hd)
  clear hR1 hB1 hb1 hlb hb hd
  go_wp2
  go_region_held3 (fun W => Below w1.heap.size w1 W) (first | exact below_drew1 (Below.refl _ _) | exact below_drew1 (by assumption) | exact below_step (by assumption) (by assumption)) (fail)
  go_wp2
  go_region_held3 (fun W => Below w1.heap.size w1 W) (first | exact below_drew1 (Below.refl _ _) | exact below_drew1 (below_drew1 (Below.refl _ _)) | exact below_step (by assumption) (by assumption)) (fail)
  rename_i hH
  have D3 : w1.drew.drew.cell? ⟨lb, 3, none⟩ = some (.int .i64 l.f2.f1) := blk_cell (blk_below HB1.out.2 hH) 3
  have D4 : w1.drew.drew.cell? ⟨lb, 5, none⟩ = some (.bool l.f4) := blk_cell (blk_below HB1.out.2 hH) 5
  have HBX := Aside0.mk (below_step HB1.out.1 hH)
  clear hH C0 C1 C2 L0 L1
  generalize w1.drew.drew = w2 at D3 D4 HBX ⊢
  have hfin : ∀ (b : Bool), Aside0 (silentB tm l u = b) → (Ending.returned (.bool b) = Ending.returned (.bool (silentB tm l u)) ∧ Below w.heap.size w w2) := fun b hb => ⟨by rw [hb.out], HBX.out⟩
  have HF := Aside0.mk hfin
  clear hfin
  cases h0 : tm l.f0 with
  | none =>
    have HS : Aside0 (silentB tm l u = false) := ⟨by unfold silentB; rw [h0]⟩
    cases h1 : tm l.f1 with
    | none =>
      cases h4 : l.f4 <;> (go_wp2; go_ret; exact HF.out _ HS)
    | some s =>
      cases h4 : l.f4 <;> (go_wp2; go_ret; exact HF.out _ HS)
  | some t =>
    have ht := HB.out.1 _ _ h0
    have hd := HB.out.2
    have hw : IntKind.i64.wrap (t + l.f2.f1) = t + l.f2.f1 := by rw [i64_w]; unfold wrap64; omega
    clear ht hd
    cases h1 : tm l.f1 with
    | none =>
      cases h4 : l.f4
      · have HS : Aside0 (silentB tm l u = false) := ⟨by unfold silentB; rw [h0, h4]; rfl⟩
        go_wp2; go_ret; exact HF.out _ HS
      · by_cases h5 : t + l.f2.f1 ≤ u
        · have hd5 : decide (t + l.f2.f1 ≤ u) = true := by simpa using h5
          have HS : Aside0 (silentB tm l u = true) := ⟨by unfold silentB; rw [h0, h1, h4]; simp [h5]⟩
          clear h5
          go_wp2; go_ret; exact HF.out _ HS
        · have hd5 : decide (t + l.f2.f1 ≤ u) = false := by simpa using h5
          have HS : Aside0 (silentB tm l u = false) := ⟨by unfold silentB; rw [h0, h1, h4]; simp [h5]⟩
          clear h5
          go_wp2; go_ret; exact HF.out _ HS
    | some s =>
      by_cases h6 : s ≤ t + l.f2.f1
      · have hd6 : decide (s ≤ t + l.f2.f1) = true := by simpa using h6
        have HS : Aside0 (silentB tm l u = false) := ⟨by unfold silentB; rw [h0, h1]; simp; intro _ _; omega⟩
        clear h6
        go_wp2; go_ret; exact HF.out _ HS
      · have hd6 : decide (s ≤ t + l.f2.f1) = false := by simpa using h6
        cases h4 : l.f4
        · have HS : Aside0 (silentB tm l u = false) := ⟨by unfold silentB; rw [h0, h4]; rfl⟩
          clear h6
          go_wp2; go_ret; exact HF.out _ HS
        · by_cases h5 : t + l.f2.f1 ≤ u
          · have hd5 : decide (t + l.f2.f1 ≤ u) = true := by simpa using h5
            have HS : Aside0 (silentB tm l u = true) := ⟨by unfold silentB; rw [h0, h1, h4]; simp [h5]; omega⟩
            clear h5 h6
            go_wp2; go_ret; exact HF.out _ HS
          · have hd5 : decide (t + l.f2.f1 ≤ u) = false := by simpa using h5
            have HS : Aside0 (silentB tm l u = false) := ⟨by unfold silentB; rw [h0, h1, h4]; simp [h5]⟩
            clear h5 h6
            go_wp2; go_ret; exact HF.out _ HS
end Go.Proofs.Ytgmglpnoppcnkaa
end
section
namespace Go.Proofs.Ytgmglpnoppcnkaa
open Go.ChangeMaps (setBlock)
open Go.RowKit Go.Proofs.YtgmglpnoppcnkaaW.PrintWords Go.Proofs.YtgmglpnoppcnkaaW.PrintLast Go.Proofs.YtgmglpnoppcnkaaW.PrintMore
set_option linter.unusedVariables false
set_option linter.unusedSimpArgs false
set_option maxRecDepth 100000

/-- No stamp stands twice, and none is to come. -/
def BornOk (L : List Ent) (c : Nat) : Prop := (L.map (·.2.2)).Nodup ∧ ∀ x ∈ L, x.2.2 < c
theorem bornOk_nil (c : Nat) : BornOk [] c := ⟨by simp, by simp⟩
theorem setL_born (L : List Ent) (k : Int) (v : Value) : (putL.setL L k v).map (·.2.2) = L.map (·.2.2) := by
  induction L with
  | nil => rfl
  | cons x L ih =>
    simp only [putL.setL]
    split
    · simp
    · simp [ih]
theorem bornOk_put {L : List Ent} {c : Nat} (h : BornOk L c) (k : Int) (v : Value) (c' : Nat) (hc : c' = if (lookL L k).isSome then c else c + 1) : BornOk (putL L c k v) c' := by
  unfold putL
  split
  · rename_i hs
    rw [if_pos hs] at hc
    have e := setL_born L k v
    refine ⟨by rw [e]; exact h.1, fun x hx => ?_⟩
    have : x.2.2 ∈ (putL.setL L k v).map (·.2.2) := List.mem_map.2 ⟨x, hx, rfl⟩
    rw [e] at this
    obtain ⟨y, hy, e2⟩ := List.mem_map.1 this
    rw [← e2, hc]
    exact h.2 y hy
  · rename_i hs
    rw [if_neg hs] at hc
    refine ⟨?_, fun x hx => ?_⟩
    · rw [List.map_append, List.nodup_append]
      refine ⟨h.1, by simp, ?_⟩
      intro a ha b hb e
      obtain ⟨y, hy, e2⟩ := List.mem_map.1 ha
      have := h.2 y hy
      simp at hb
      omega
    · rcases List.mem_append.1 hx with h1 | h1
      · have := h.2 x h1
        omega
      · simp at h1
        rw [h1, hc]
        simp
theorem lookL_mem {L : List Ent} {k : Int} {v : Value} (h : lookL L k = some v) : ∃ x ∈ L, x.1 = k ∧ x.2.1 = v := by
  induction L with
  | nil => simp [lookL] at h
  | cons x L ih =>
    simp only [lookL] at h
    split at h
    · rename_i e
      cases h
      exact ⟨x, List.mem_cons_self, e.symm, rfl⟩
    · obtain ⟨y, hy, e⟩ := ih h
      exact ⟨y, List.mem_cons_of_mem _ hy, e⟩
theorem mem_lookL {L : List Ent} {x : Ent} (h : x ∈ L) : (lookL L x.1).isSome = true := by
  induction L with
  | nil => simp at h
  | cons y L ih =>
    simp only [lookL]
    split
    · rfl
    · rename_i e
      rcases List.mem_cons.1 h with rfl | h
      · exact absurd rfl e
      · exact ih h

/-- m[k] = v, with the stamps. -/
theorem run_store2 (w : World) (T e : TypeId) (hT : Try.prog.underlying T = some (.map 3 e)) (m : Nat) (L : List Ent) (c : Nat) (h : MapAt w m L c) (hb : BornOk L c) (k : Int) (v : Value) :
    ∃ c', (Instr.mapUpdate T (.map (some m)) (.int .i64 k) v).run Try.prog w = .ok () { w with heap := w.heap.setIfInBounds m (.map ((putL L c k v).map mkE).toArray c') } ∧ BornOk (putL L c k v) c' := by
  refine ⟨if (lookL L k).isSome then c else c + 1, ?_, bornOk_put hb k v _ rfl⟩
  have hset : ∀ o : Obj, (setObj m o).run Try.prog w = .ok () { w with heap := w.heap.setIfInBounds m o } := fun o => by simp [setObj, Sem.run, show w.heap[m]? = _ from h]
  simp only [Instr.mapUpdate, Sem.run_bind, run_underlying hT, Result.andThen, run_getMap h, run_checkKey, run_findKey]
  have hl := idxL_look L k 0
  cases hi : idxL L k 0 with
  | none =>
    rw [hi] at hl
    have hl' : lookL L k = none := hl.symm
    simp only [hset]
    unfold putL
    rw [hl']
    simp [mkE]
  | some r =>
    obtain ⟨j, u⟩ := r
    rw [hi] at hl
    have hl' : lookL L k = some u := hl.symm
    obtain ⟨d, hd, h1, h2⟩ := modify_idx L k v 0 j u hi
    obtain rfl : j = d := by omega
    have hkey : (((L.map mkE).toArray[j]?).map (·.key)).getD (.int .i64 k) = .int .i64 k := by
      rw [List.getElem?_toArray, h1]; rfl
    simp only [Sem.run_bind, hkey, Instr.keyThatStays, Instr.sameBits, beq_self_eq_true, Bool.and_self, if_true, Sem.run_pure, Result.andThen, hset]
    unfold putL
    rw [hl']
    simp only [Option.isSome_some, if_true]
    rw [← h2]
    simp

/-- An iterator over the map in block m lies in block r: what it has handed out. -/
def IterAt (w : World) (r m : Nat) (c : Nat) (seen : List Nat) : Prop := ∃ c0, c ≤ c0 ∧ w.heap[r]? = some (.mapIter (some m) c seen.toArray c0)
theorem run_range_at (w : World) (T e : TypeId) (hT : Try.prog.underlying T = some (.map 3 e)) (m : Nat) (L : List Ent) (c : Nat) (h : MapAt w m L c) :
    (Instr.range T (.map (some m))).run Try.prog w = .ok (.pointer (some ⟨w.heap.size, 0, none⟩)) (w.alloc (.mapIter (some m) c #[] c)) := run_range_map w T 3 e m _ c hT h
theorem iterAt_new (w : World) (m c : Nat) : IterAt (w.alloc (.mapIter (some m) c #[] c)) w.heap.size m c [] := ⟨c, Nat.le_refl _, heap_alloc_new w _⟩
theorem kp_setBlock (w : World) (r : Nat) (o : Obj) : Kp w (setBlock w r o) (fun i => i = r) := by
  refine ⟨rfl, rfl, rfl, ?_, fun i hi hn => ?_⟩
  · simp [setBlock]
  · simp only [setBlock, Array.getElem?_setIfInBounds]
    rw [if_neg (fun e => hn e.symm)]
theorem ent_inj {L : List Ent} (hn : (L.map (·.2.2)).Nodup) {x y : Ent} (hx : x ∈ L) (hy : y ∈ L) (e : x.2.2 = y.2.2) : x = y := by
  induction L with
  | nil => simp at hx
  | cons a L ih =>
    simp only [List.map_cons, List.nodup_cons, List.mem_map, not_exists, not_and] at hn
    rcases List.mem_cons.1 hx with h1 | h1
    · rcases List.mem_cons.1 hy with h2 | h2
      · rw [h1, h2]
      · exact absurd (by rw [← e, h1]) (hn.1 y h2)
    · rcases List.mem_cons.1 hy with h2 | h2
      · exact absurd (by rw [e, h2]) (hn.1 x h1)
      · exact ih hn.2 h1 h2
theorem born_nodup {L : List Ent} (hn : (L.map (·.2.2)).Nodup) : ((L.map mkE).toArray.toList.map (·.born)).Nodup := by
  rw [List.map_map]
  exact hn

/-- The iterator's next step. -/
theorem run_next_ent (w : World) (ty : TypeId) (r m : Nat) (L : List Ent) (c : Nat) (seen : List Nat) (hm : MapAt w m L c) (hb : BornOk L c) (hr : IterAt w r m c seen) :
    ((∀ x ∈ L, x.2.2 ∈ seen) ∧ (Instr.next (.pointer (some ⟨r, 0, none⟩)) false ty).run Try.prog w = .ok (.tuple #[.bool false]) w) ∨
    ∃ x ∈ L, x.2.2 ∉ seen ∧ ∃ w1 w2 : World, (w1 = w ∨ w1 = w.drew) ∧ (Instr.next (.pointer (some ⟨r, 0, none⟩)) false ty).run Try.prog w = .ok (.tuple #[.bool true, .int .i64 x.1, x.2.1]) w2 ∧ Kp w1 w2 (fun i => i = r) ∧ w2.heap.size = w.heap.size ∧ IterAt w2 r m c (seen ++ [x.2.2]) ∧
      (Instr.entry (.pointer (some ⟨r, 0, none⟩))).run Try.prog w2 = .ok (.tuple #[.int .i64 x.1, x.2.1]) w2 := by
  obtain ⟨c0, hc0, hr⟩ := hr
  have hold : ∀ x ∈ (L.map mkE).toArray.toList, x.born < c := by
    intro x hx
    obtain ⟨y, hy, rfl⟩ := List.mem_map.1 (show x ∈ L.map mkE from hx)
    exact hb.2 y hy
  have hrm : r ≠ m := fun e => by
    rw [e, show w.heap[m]? = _ from hm] at hr
    cases hr
  rcases run_next_at w ty r m c c0 seen.toArray (L.map mkE).toArray c hr hm hold hc0 with ⟨h0, hrun⟩ | ⟨e, he, w1, hw1, hrun⟩
  · refine .inl ⟨fun x hx => ?_, hrun⟩
    have hE : leftOf (L.map mkE).toArray seen.toArray = #[] := Array.eq_empty_of_size_eq_zero h0
    unfold leftOf at hE
    rw [Array.filter_eq_empty_iff] at hE
    have := hE (mkE x) (by simpa using ⟨x.1, x.2.1, x.2.2, hx, rfl⟩)
    simpa [mkE] using this
  · unfold leftOf at he
    simp only [Array.toList_filter, List.mem_filter] at he
    obtain ⟨he1, he2⟩ := he
    obtain ⟨x, hx, rfl⟩ := List.mem_map.1 (show e ∈ L.map mkE from he1)
    refine .inr ⟨x, hx, ?_, w1, _, hw1, hrun, ?_, ?_, ?_, ?_⟩
    · simpa [mkE] using he2
    · exact kp_setBlock _ _ _
    · rcases hw1 with rfl | rfl <;> simp [setBlock]
    · refine ⟨c, Nat.le_refl _, ?_⟩
      have hlt : r < w1.heap.size := by rcases hw1 with rfl | rfl <;> exact blk_lt hr
      simp [setBlock, Array.getElem?_setIfInBounds, hlt, mkE]
    · have h1 : (setBlock w1 r (.mapIter (some m) c (seen.toArray.push (mkE x).born) c)).heap[r]? = some (.mapIter (some m) c (seen.toArray.push (mkE x).born) c) := by
        have hlt : r < w1.heap.size := by rcases hw1 with rfl | rfl <;> exact blk_lt hr
        simp [setBlock, Array.getElem?_setIfInBounds, hlt]
      have h2 : (setBlock w1 r (.mapIter (some m) c (seen.toArray.push (mkE x).born) c)).heap[m]? = some (.map (L.map mkE).toArray c) := by
        rw [(kp_setBlock w1 r _).block m (by rcases hw1 with rfl | rfl <;> exact blk_lt hm) (fun e => hrm e.symm)]
        rcases hw1 with rfl | rfl <;> exact hm
      exact run_entry_at _ r m c seen.toArray (L.map mkE).toArray c (mkE x) h1 h2 he1 (born_nodup hb.1)
/-- How many entries are still to come. -/
def leftN (L : List Ent) (seen : List Nat) : Nat := (L.filter (fun x => decide (x.2.2 ∉ seen))).length
theorem leftN_less {L : List Ent} {seen : List Nat} {x : Ent} (hx : x ∈ L) (hn : x.2.2 ∉ seen) : leftN L (seen ++ [x.2.2]) < leftN L seen := by
  unfold leftN
  induction L with
  | nil => simp at hx
  | cons y L ih =>
    have hle : ∀ L : List Ent, (L.filter (fun x_1 => decide (x_1.2.2 ∉ seen ++ [x.2.2]))).length ≤ (L.filter (fun x => decide (x.2.2 ∉ seen))).length := by
      intro L
      induction L with
      | nil => simp
      | cons z L ih =>
        simp only [List.filter_cons]
        by_cases h1 : z.2.2 ∈ seen
        · simpa [h1] using ih
        · by_cases h2 : z.2.2 = x.2.2
          · simp [h1, h2, hn] at ih ⊢
            omega
          · simpa [h1, h2] using ih
    rcases List.mem_cons.1 hx with rfl | hx
    · have := hle L
      simp [List.filter_cons, hn] at this ⊢
      omega
    · have h3 := ih hx
      simp only [List.filter_cons]
      by_cases h1 : y.2.2 ∈ seen
      · simpa [h1] using h3
      · by_cases h2 : y.2.2 = x.2.2
        · simp [h1, h2, hn] at h3 ⊢
          omega
        · simpa [h1, h2] using h3
end Go.Proofs.Ytgmglpnoppcnkaa
end
section
namespace Go.Proofs.Ytgmglpnoppcnkaa
open Go.RowKit Go.Proofs.YtgmglpnoppcnkaaW.PrintWords Go.Proofs.YtgmglpnoppcnkaaW.PrintLast Go.Proofs.YtgmglpnoppcnkaaW.PrintMore
set_option linter.unusedVariables false
set_option linter.unusedSimpArgs false
set_option maxRecDepth 100000

/-- The link can have brought the receipt of its end. -/
def broughtB (tm : Int → Option Int) (failed : List Bool) (l : Lk) : Bool :=
  match tm l.f0 with
  | none => false
  | some t => decide (t + l.f2.f0 ≤ (tm l.f1).getD 0 ∧ (tm l.f1).getD 0 ≤ t + l.f2.f1) && !hasB failed l.f3
theorem run_range {w : World} {rb wp m : Nat} {tm : Int → Option Int} {failed : List Bool} (h : RunAt w rb wp m tm failed) : w.rangeAt rb 2 (setCs failed) := fun j v hj => by
  rw [blk_cell h.blk (2 + j)]
  show (runCs wp m failed).toArray[2 + j]? = _
  simp only [List.getElem?_toArray]
  rw [runCs, show 2 + j = j + 1 + 1 by omega, List.getElem?_cons_succ, List.getElem?_cons_succ]
  exact hj

set_option maxHeartbeats 1000000 in
theorem within_same (a lo hi : Int) (w : World) : Calls Try.prog 72 #[.int .i64 a, .int .i64 lo, .int .i64 hi] w fun e w' => e = .returned (.bool (decide (lo ≤ a ∧ a ≤ hi))) ∧ w' = w := by
  by_cases h1 : lo ≤ a
  · have d1 : decide (lo ≤ a) = true := by simpa using h1
    have HF : Aside0 (decide (lo ≤ a ∧ a ≤ hi) = decide (a ≤ hi)) := ⟨by simp [h1]⟩
    clear h1
    go_enter Try.func72, Try.ntmps72
    go_wp2
    go_ret
    exact ⟨by rw [HF.out]; rfl, rfl⟩
  · have d1 : decide (lo ≤ a) = false := by simpa using h1
    have HF : Aside0 (decide (lo ≤ a ∧ a ≤ hi) = false) := ⟨by simp [h1]⟩
    clear h1
    go_enter Try.func72, Try.ntmps72
    go_wp2
    go_ret
    exact ⟨by rw [HF.out]; rfl, rfl⟩

set_option maxHeartbeats 4000000 in
theorem brought_calls (rb wp m : Nat) (tm : Int → Option Int) (failed : List Bool) (l : Lk) (w : World) (hr : RunAt w rb wp m tm failed) (hb : ∀ k t, tm k = some t → 0 ≤ t ∧ t ≤ 1000000000) (hd : 0 ≤ l.f2.f0 ∧ l.f2.f0 ≤ 1000000000 ∧ 0 ≤ l.f2.f1 ∧ l.f2.f1 ≤ 1000000000) (hu0 : -1 ≤ l.f3) (hu1 : l.f3 < 20) :
    Calls Try.prog 76 #[.pointer (some ⟨rb, 0, none⟩), .agg (linkCs l)] w fun e w' => e = .returned (.bool (broughtB tm failed l)) ∧ Below w.heap.size w w' := by
  have HR := Aside0.mk hr
  clear hr
  unfold linkCs
  go_enter Try.func76, Try.ntmps76
  go_wp2_with ((with_reducible refine gate_dst (N := 3) rfl ?_); refine hold ?_)
  refine box_event rfl (N := 3) rfl (cs := linkCs l) (t := 88) (by unfold linkCs; go_simp) ?_
  intro lb hlb w1 hb1 hB1
  have hR1 := HR.out.below hB1
  have HB1 := Aside0.mk (And.intro hB1 (And.intro hb1 hR1))
  have C0 : ∀ W, Below w1.heap.size w1 W → W.cell? ⟨rb, 1, none⟩ = some (.map (some m)) := fun W h => blk_cell (blk_below hR1.blk h) 1
  have C1 : ∀ W, Below w1.heap.size w1 W → W.cell? ⟨lb, 0, none⟩ = some (.int .i64 l.f0) := fun W h => blk_cell (blk_below hb1 h) 0
  have L0 : (Instr.lookup 165 (.map (some m)) (.int .i64 l.f0) true).run Try.prog w1.drew = .ok (.tuple #[.int .i64 ((tm l.f0).getD 0), .bool (tm l.f0).isSome]) w1.drew := (hR1.below (below_drew1 (Below.refl _ _))).look l.f0
  have HB := Aside0.mk (And.intro hb hd)
  clear hR1 hB1 hb1 hlb hb hd
  go_wp2
  go_region_held3 (fun W => Below w1.heap.size w1 W) (first | exact below_drew1 (Below.refl _ _) | exact below_step (by assumption) (by assumption)) (fail)
  rename_i hH
  have HR2 := Aside0.mk (And.intro hH (HB1.out.2.2.below hH))
  have HBX := Aside0.mk (And.intro (below_step HB1.out.1 hH) (blk_below HB1.out.2.1 hH))
  clear hH C0 C1 L0
  generalize w1.drew = w2 at HR2 HBX ⊢
  obtain ⟨T0, hT0⟩ : ∃ T0, T0 = (tm l.f0).getD 0 := ⟨_, rfl⟩
  obtain ⟨B0, hB0⟩ : ∃ B0, B0 = (tm l.f0).isSome := ⟨_, rfl⟩
  rw [← hT0, ← hB0]
  cases B0
  · have HS : Aside0 (broughtB tm failed l = false) := ⟨by
      have h0 : tm l.f0 = none := by simpa using hB0.symm
      unfold broughtB; rw [h0]⟩
    clear hT0 hB0
    go_wp2
    refine wp_region_quiet_lit (by kernel_rfl) (by kernel_rfl) ?_
    repeat (go_big_quiet_step (fail))
    apply wpQuiet_nil
    intro _ hw'
    obtain ⟨nq, hw''⟩ := hw'
    subst hw''
    go_wp2
    go_ret
    exact ⟨by rw [HS.out]; rfl, below_step HBX.out.1 (pw_below_drewN (Below.refl _ _) nq)⟩
  · have h0 : tm l.f0 = some T0 := by
      obtain ⟨t, ht⟩ := Option.isSome_iff_exists.1 hB0.symm
      rw [ht] at hT0 ⊢
      rw [hT0]; rfl
    have ht := HB.out.1 _ _ h0
    have hd := HB.out.2
    have hw0 : IntKind.i64.wrap (T0 + l.f2.f0) = T0 + l.f2.f0 := by rw [i64_w]; unfold wrap64; omega
    have hw1 : IntKind.i64.wrap (T0 + l.f2.f1) = T0 + l.f2.f1 := by rw [i64_w]; unfold wrap64; omega
    clear ht hd hT0 hB0
    have H0 := Aside0.mk h0
    clear h0
    have L1 : ∀ W, Below w2.heap.size w2 W → (Instr.lookup 165 (.map (some m)) (.int .i64 l.f1) false).run Try.prog W = .ok (.int .i64 ((tm l.f1).getD 0)) W := fun W h => (HR2.out.2.below h).look1 l.f1
    obtain ⟨s, hs⟩ : ∃ s, s = (tm l.f1).getD 0 := ⟨_, rfl⟩
    rw [← hs] at L1
    have HSS := Aside0.mk hs
    clear hs
    by_cases hin : T0 + l.f2.f0 ≤ s ∧ s ≤ T0 + l.f2.f1
    · have HS : Aside0 (broughtB tm failed l = !hasB failed l.f3) := ⟨by unfold broughtB; rw [H0.out, ← HSS.out]; simp [hin]⟩
      have HIN := Aside0.mk (decide_eq_true hin)
      clear hin
      go_wp2
      have C0 : ∀ W, Below w2.heap.size w2 W → W.cell? ⟨rb, 1, none⟩ = some (.map (some m)) := fun W h => blk_cell (blk_below HR2.out.2.blk h) 1
      have C1 : ∀ W, Below w2.heap.size w2 W → W.cell? ⟨lb, 1, none⟩ = some (.int .i64 l.f1) := fun W h => blk_cell (blk_below HBX.out.2 h) 1
      have C2 : ∀ W, Below w2.heap.size w2 W → W.cell? ⟨lb, 2, none⟩ = some (.int .i64 l.f2.f0) := fun W h => blk_cell (blk_below HBX.out.2 h) 2
      have C3 : ∀ W, Below w2.heap.size w2 W → W.cell? ⟨lb, 3, none⟩ = some (.int .i64 l.f2.f1) := fun W h => blk_cell (blk_below HBX.out.2 h) 3
      have C4 : ∀ W, Below w2.heap.size w2 W → W.cell? ⟨lb, 4, none⟩ = some (.int .i64 l.f3) := fun W h => blk_cell (blk_below HBX.out.2 h) 4
      have C5 : ∀ W, Below w2.heap.size w2 W → W.rangeAt rb 2 (setCs failed) := fun W h => run_range (HR2.out.2.below h)
      have HC72 : Aside0 (∀ W, Calls Try.prog 72 #[.int .i64 s, .int .i64 (T0 + l.f2.f0), .int .i64 (T0 + l.f2.f1)] W fun e w' => e = .returned (.bool true) ∧ w' = W) := ⟨fun W => by have := within_same s (T0 + l.f2.f0) (T0 + l.f2.f1) W; rw [HIN.out] at this; exact this⟩
      have HC106 : Aside0 (∀ W, Calls Try.prog 106 #[.agg (setCs failed).toArray, .int .i64 l.f3] W fun e w' => e = .returned (.bool (hasB failed l.f3)) ∧ Below W.heap.size W w') := ⟨fun W => has_calls failed l.f3 W HR2.out.2.len hu0 hu1⟩
      have hu144 := Try.underlying144
      have hi144 : (Try.prog.info? 144).map (·.size) = some (setCs failed).length := by rw [setCs_length, HR2.out.2.len]; exact info144
      have H5 := Aside0.mk C5
      clear C5
      go_region_held3 (fun W => Below w2.heap.size w2 W ∧ W.rangeAt rb 2 (setCs failed)) (first | exact keepC0 (fun W h => H5.out W h) | exact keepC (fun W h => H5.out W h) (by assumption) (by assumption)) (first | (go_at_call 72; refine (HC72.out _).mono ?_; rintro e w' ⟨rfl, rfl⟩) | (go_at_call 106; refine (HC106.out _).mono ?_; rintro e w' ⟨rfl, hb3⟩))
      rename_i hH
      have HH := Aside0.mk hH.1
      clear hH hb3 C0 C1 C2 C3 C4 L1 hu144 hi144
      go_wp2
      go_ret
      exact ⟨by rw [HS.out]; rfl, below_step HBX.out.1 HH.out⟩
    · have HS : Aside0 (broughtB tm failed l = false) := ⟨by unfold broughtB; rw [H0.out, ← HSS.out]; simp; intro a b; omega⟩
      have HIN := Aside0.mk (decide_eq_false hin)
      clear hin
      have D0 : ∀ n, (w2.drewN n).cell? ⟨rb, 1, none⟩ = some (.map (some m)) := fun n => blk_cell (blk_below HR2.out.2.blk (pw_below_drewN (Below.refl _ _) n)) 1
      have D1 : ∀ n, (w2.drewN n).cell? ⟨lb, 1, none⟩ = some (.int .i64 l.f1) := fun n => blk_cell (blk_below HBX.out.2 (pw_below_drewN (Below.refl _ _) n)) 1
      have D2 : ∀ n, (w2.drewN n).cell? ⟨lb, 2, none⟩ = some (.int .i64 l.f2.f0) := fun n => blk_cell (blk_below HBX.out.2 (pw_below_drewN (Below.refl _ _) n)) 2
      have D3 : ∀ n, (w2.drewN n).cell? ⟨lb, 3, none⟩ = some (.int .i64 l.f2.f1) := fun n => blk_cell (blk_below HBX.out.2 (pw_below_drewN (Below.refl _ _) n)) 3
      have L2 : ∀ n, (Instr.lookup 165 (.map (some m)) (.int .i64 l.f1) false).run Try.prog (w2.drewN n) = .ok (.int .i64 s) (w2.drewN n) := fun n => L1 _ (pw_below_drewN (Below.refl _ _) n)
      clear L1
      have d0 := HR2.out.2.blk
      have d1 := HBX.out.2
      have e0 : w2.cell? ⟨rb, 1, none⟩ = some (.map (some m)) := blk_cell d0 1
      have e1 : w2.cell? ⟨lb, 1, none⟩ = some (.int .i64 l.f1) := blk_cell d1 1
      have e2 : w2.cell? ⟨lb, 2, none⟩ = some (.int .i64 l.f2.f0) := blk_cell d1 2
      have e3 : w2.cell? ⟨lb, 3, none⟩ = some (.int .i64 l.f2.f1) := blk_cell d1 3
      clear d0 d1
      go_wp2
      refine wp_region_quiet_lit (by kernel_rfl) (by kernel_rfl) ?_
      repeat (go_big_quiet_step (first | (go_at_call 72; exact Calls.quiet_of_same (by have := within_same s (T0 + l.f2.f0) (T0 + l.f2.f1); rw [HIN.out] at this; exact this _))))
      apply wpQuiet_nil
      intro _ hw'
      obtain ⟨nq, hw''⟩ := hw'
      subst hw''
      clear D0 D1 D2 D3 L2 e0 e1 e2 e3
      go_wp2
      go_ret
      exact ⟨by rw [HS.out]; rfl, below_step HBX.out.1 (pw_below_drewN (Below.refl _ _) nq)⟩
end Go.Proofs.Ytgmglpnoppcnkaa
end
section
namespace Go.Proofs.Ytgmglpnoppcnkaa
open Go.RowKit Go.Proofs.YtgmglpnoppcnkaaW.PrintWords Go.Proofs.YtgmglpnoppcnkaaW.PrintLast Go.Proofs.YtgmglpnoppcnkaaW.PrintMore
set_option linter.unusedVariables false
set_option linter.unusedSimpArgs false
set_option maxRecDepth 100000

def minL : List Int → Int
  | [] => 0
  | a :: r => r.foldl (fun m y => if y < m then y else m) a
def maxiL : List Int → Int
  | [] => 0
  | a :: r => r.foldl (fun m y => if y > m then y else m) a
theorem minL_step (x : List Int) (k : Nat) (h0 : 0 < k) (hk : k < x.length) : minL (x.take (k + 1)) = if x[k] < minL (x.take k) then x[k] else minL (x.take k) := by
  cases x with
  | nil => simp at hk
  | cons a r =>
    obtain ⟨j, rfl⟩ : ∃ j, k = j + 1 := ⟨k - 1, by omega⟩
    have hj : j < r.length := by simpa using hk
    simp only [List.take_succ_cons, minL, List.getElem_cons_succ]
    rw [List.take_add_one, List.getElem?_eq_getElem hj, Option.toList_some, List.foldl_append]
    rfl
theorem maxiL_step (x : List Int) (k : Nat) (h0 : 0 < k) (hk : k < x.length) : maxiL (x.take (k + 1)) = if x[k] > maxiL (x.take k) then x[k] else maxiL (x.take k) := by
  cases x with
  | nil => simp at hk
  | cons a r =>
    obtain ⟨j, rfl⟩ : ∃ j, k = j + 1 := ⟨k - 1, by omega⟩
    have hj : j < r.length := by simpa using hk
    simp only [List.take_succ_cons, maxiL, List.getElem_cons_succ]
    rw [List.take_add_one, List.getElem?_eq_getElem hj, Option.toList_some, List.foldl_append]
    rfl
theorem minL_le (x : List Int) : ∀ y ∈ x, minL x ≤ y := by
  cases x with
  | nil => intro y h; simp at h
  | cons a r =>
    have H : ∀ (r : List Int) (a : Int), (r.foldl (fun m y => if y < m then y else m) a ≤ a) ∧ ∀ y ∈ r, r.foldl (fun m y => if y < m then y else m) a ≤ y := by
      intro r
      induction r with
      | nil => intro a; simp
      | cons b r ih =>
        intro a
        simp only [List.foldl_cons]
        have := ih (if b < a then b else a)
        refine ⟨by have := this.1; split at this <;> omega, fun y hy => ?_⟩
        rcases List.mem_cons.1 hy with rfl | hy
        · have := this.1; split at this <;> omega
        · exact this.2 y hy
    intro y hy
    rcases List.mem_cons.1 hy with rfl | hy
    · exact (H r _).1
    · exact (H r a).2 y hy
theorem maxiL_le (x : List Int) : ∀ y ∈ x, y ≤ maxiL x := by
  cases x with
  | nil => intro y h; simp at h
  | cons a r =>
    have H : ∀ (r : List Int) (a : Int), (a ≤ r.foldl (fun m y => if y > m then y else m) a) ∧ ∀ y ∈ r, y ≤ r.foldl (fun m y => if y > m then y else m) a := by
      intro r
      induction r with
      | nil => intro a; simp
      | cons b r ih =>
        intro a
        simp only [List.foldl_cons]
        have := ih (if b > a then b else a)
        refine ⟨by have := this.1; split at this <;> omega, fun y hy => ?_⟩
        rcases List.mem_cons.1 hy with rfl | hy
        · have := this.1; split at this <;> omega
        · exact this.2 y hy
    intro y hy
    rcases List.mem_cons.1 hy with rfl | hy
    · exact (H r _).1
    · exact (H r a).2 y hy
theorem minL_mem (a : Int) (r : List Int) : minL (a :: r) ∈ a :: r := by
  have H : ∀ (r : List Int) (a : Int), r.foldl (fun m y => if y < m then y else m) a ∈ a :: r := by
    intro r
    induction r with
    | nil => intro a; simp
    | cons b r ih =>
      intro a
      simp only [List.foldl_cons]
      have := ih (if b < a then b else a)
      by_cases hb : b < a
      · rw [if_pos hb] at this ⊢
        exact List.mem_cons_of_mem _ this
      · rw [if_neg hb] at this ⊢
        rcases List.mem_cons.1 this with h | h
        · rw [h]; exact List.mem_cons_self
        · exact List.mem_cons_of_mem _ (List.mem_cons_of_mem _ h)
  exact H r a
/-- All are one: the least is the greatest. -/
theorem min_eq_max (a : Int) (r : List Int) : minL (a :: r) = maxiL (a :: r) ↔ ∀ y ∈ r, y = a := by
  constructor
  · intro e y hy
    have h1 := minL_le (a :: r) y (List.mem_cons_of_mem _ hy)
    have h2 := maxiL_le (a :: r) y (List.mem_cons_of_mem _ hy)
    have h3 := minL_le (a :: r) a List.mem_cons_self
    have h4 := maxiL_le (a :: r) a List.mem_cons_self
    omega
  · intro h
    have H : ∀ (r : List Int), (∀ y ∈ r, y = a) → r.foldl (fun m y => if y < m then y else m) a = a ∧ r.foldl (fun m y => if y > m then y else m) a = a := by
      intro r
      induction r with
      | nil => intro _; exact ⟨rfl, rfl⟩
      | cons b r ih =>
        intro h
        have hb := h b List.mem_cons_self
        subst hb
        simpa using ih (fun y hy => h y (List.mem_cons_of_mem _ hy))
    show r.foldl _ a = r.foldl _ a
    rw [(H r h).1, (H r h).2]
theorem ints_cells {w : World} {ad : Addr} {x : List Int} (h : IntsAt w (some ad) x) (k : Nat) (hk : k < x.length) : w.cell? (ad.add k) = some (.int .i64 x[k]) := by
  refine ints_news h k _ ?_
  simp [ints, hk]

set_option maxHeartbeats 2000000 in
theorem min_calls (ad : Addr) (c : Nat) (x : List Int) (w : World) (hx : IntsAt w (some ad) x) (h0 : 0 < x.length) :
    Calls Try.prog 77 #[.slice (some ad) x.length c] w fun e w' => e = .returned (.int .i64 (minL x)) ∧ w' = w := by
  have hbig := hx.2.1
  unfold maxLen at hbig
  obtain ⟨n, hn⟩ : ∃ n, n = x.length := ⟨_, rfl⟩
  have hc0 : w.cell? ad = some (.int .i64 (minL (x.take 1))) := by
    have := ints_cells hx 0 h0
    rw [show ad.add 0 = ad from rfl] at this
    cases x with
    | nil => simp at h0
    | cons a r => simpa [minL] using this
  have HX := Aside0.mk hx
  have HN := Aside0.mk hn
  rw [← hn] at h0 hbig ⊢
  clear hx hn
  go_enter Try.func77, Try.ntmps77
  go_wp2
  go_loopg [3, 4] n (fun g m i wr => ∃ k : Nat, 0 < k ∧ k ≤ n ∧ n - k ≤ g ∧ i = .int .i64 k ∧ m = .int .i64 (minL (x.take k)) ∧ wr = w)
  case atStart => exact ⟨1, Nat.one_pos, h0, by omega, rfl, rfl, rfl⟩
  case round =>
    obtain ⟨k, hk0, hk, hg, rfl, rfl, rfl⟩ := hrel
    by_cases hlt : k < n
    · have hkx : k < x.length := by rw [← HN.out]; exact hlt
      have ck : wr.cell? (ad.add k) = some (.int .i64 x[k]) := ints_cells HX.out k hkx
      have S : Aside0 (minL (x.take (k + 1)) = if x[k] < minL (x.take k) then x[k] else minL (x.take k)) := ⟨minL_step x k hk0 hkx⟩
      obtain ⟨xk, hxk⟩ : ∃ xk, xk = x[k] := ⟨_, rfl⟩
      rw [← hxk] at ck S
      clear hc0 hxk
      obtain ⟨mv, hmv⟩ : ∃ mv, mv = minL (x.take k) := ⟨_, rfl⟩
      rw [← hmv] at S ⊢
      by_cases hb : xk < mv
      · have HV := Aside0.mk (S.out.trans (if_pos hb))
        clear hmv S
        go_wp2
        go_roundg (n - (k + 1))
        case measure => omega
        case rel => exact ⟨k + 1, Nat.succ_pos k, by omega, Nat.le_refl _, by go_num, by rw [HV.out], rfl⟩
      · have HV := Aside0.mk (S.out.trans (if_neg hb))
        clear hmv S
        go_wp2
        go_roundg (n - (k + 1))
        case measure => omega
        case rel => exact ⟨k + 1, Nat.succ_pos k, by omega, Nat.le_refl _, by go_num, by rw [HV.out], rfl⟩
    · have : k = n := by omega
      subst this
      clear hc0
      go_wp2
      go_ret
      exact ⟨by rw [HN.out, List.take_length]; rfl, rfl⟩
set_option maxHeartbeats 2000000 in
theorem max_calls (ad : Addr) (c : Nat) (x : List Int) (w : World) (hx : IntsAt w (some ad) x) (h0 : 0 < x.length) :
    Calls Try.prog 78 #[.slice (some ad) x.length c] w fun e w' => e = .returned (.int .i64 (maxiL x)) ∧ w' = w := by
  have hbig := hx.2.1
  unfold maxLen at hbig
  obtain ⟨n, hn⟩ : ∃ n, n = x.length := ⟨_, rfl⟩
  have hc0 : w.cell? ad = some (.int .i64 (maxiL (x.take 1))) := by
    have := ints_cells hx 0 h0
    rw [show ad.add 0 = ad from rfl] at this
    cases x with
    | nil => simp at h0
    | cons a r => simpa [maxiL] using this
  have HX := Aside0.mk hx
  have HN := Aside0.mk hn
  rw [← hn] at h0 hbig ⊢
  clear hx hn
  go_enter Try.func78, Try.ntmps78
  go_wp2
  go_loopg [3, 4] n (fun g m i wr => ∃ k : Nat, 0 < k ∧ k ≤ n ∧ n - k ≤ g ∧ i = .int .i64 k ∧ m = .int .i64 (maxiL (x.take k)) ∧ wr = w)
  case atStart => exact ⟨1, Nat.one_pos, h0, by omega, rfl, rfl, rfl⟩
  case round =>
    obtain ⟨k, hk0, hk, hg, rfl, rfl, rfl⟩ := hrel
    by_cases hlt : k < n
    · have hkx : k < x.length := by rw [← HN.out]; exact hlt
      have ck : wr.cell? (ad.add k) = some (.int .i64 x[k]) := ints_cells HX.out k hkx
      have S : Aside0 (maxiL (x.take (k + 1)) = if x[k] > maxiL (x.take k) then x[k] else maxiL (x.take k)) := ⟨maxiL_step x k hk0 hkx⟩
      obtain ⟨xk, hxk⟩ : ∃ xk, xk = x[k] := ⟨_, rfl⟩
      rw [← hxk] at ck S
      clear hc0 hxk
      obtain ⟨mv, hmv⟩ : ∃ mv, mv = maxiL (x.take k) := ⟨_, rfl⟩
      rw [← hmv] at S ⊢
      by_cases hb : xk > mv
      · have HV := Aside0.mk (S.out.trans (if_pos hb))
        clear hmv S
        go_wp2
        go_roundg (n - (k + 1))
        case measure => omega
        case rel => exact ⟨k + 1, Nat.succ_pos k, by omega, Nat.le_refl _, by go_num, by rw [HV.out], rfl⟩
      · have HV := Aside0.mk (S.out.trans (if_neg hb))
        clear hmv S
        go_wp2
        go_roundg (n - (k + 1))
        case measure => omega
        case rel => exact ⟨k + 1, Nat.succ_pos k, by omega, Nat.le_refl _, by go_num, by rw [HV.out], rfl⟩
    · have : k = n := by omega
      subst this
      clear hc0
      go_wp2
      go_ret
      exact ⟨by rw [HN.out, List.take_length]; rfl, rfl⟩
end Go.Proofs.Ytgmglpnoppcnkaa
end
section
namespace Go.Proofs.Ytgmglpnoppcnkaa
open Go.RowKit Go.Proofs.YtgmglpnoppcnkaaW.PrintWords Go.Proofs.YtgmglpnoppcnkaaW.PrintLast Go.Proofs.YtgmglpnoppcnkaaW.PrintMore
set_option linter.unusedVariables false
set_option linter.unusedSimpArgs false
set_option maxRecDepth 100000

/-- The time of a node's receipt. -/
def tmOf (l : List Du) (k : Int) : Option Int := (l.find? (fun x => decide (x.f0 = k))).map (·.f1)
theorem tmOf_snoc (l : List Du) (x : Du) (h : tmOf l x.f0 = none) (k : Int) : tmOf (l ++ [x]) k = if k = x.f0 then some x.f1 else tmOf l k := by
  unfold tmOf at h ⊢
  rw [List.find?_append]
  simp only [Option.map_eq_none_iff] at h
  by_cases e : k = x.f0
  · subst e
    rw [h]
    simp
  · rw [if_neg e]
    have : decide (x.f0 = k) = false := by simpa using fun e2 => e e2.symm
    rw [List.find?_cons, this]
    simp
theorem tmOf_mem {l : List Du} {k t : Int} (h : tmOf l k = some t) : ∃ x ∈ l, x.f0 = k ∧ x.f1 = t := by
  unfold tmOf at h
  obtain ⟨x, hx, e⟩ := Option.map_eq_some_iff.1 h
  exact ⟨x, List.mem_of_find?_eq_some hx, by simpa using List.find?_some hx, e⟩
theorem mem_tmOf {l : List Du} {x : Du} (h : x ∈ l) : (tmOf l x.f0).isSome = true := by
  unfold tmOf
  rw [Option.isSome_map, List.find?_isSome]
  exact ⟨x, h, by simp⟩
/-- The error of receipts, behind some. -/
def rcErr (nn u : Int) : List Du → List Du → Int
  | _, [] => 0
  | done, x :: r => if 0 ≤ x.f0 ∧ x.f0 ≤ nn - 1 then (if (tmOf done x.f0).isSome then 5 else if 0 ≤ x.f1 ∧ x.f1 ≤ u then rcErr nn u (done ++ [x]) r else 3) else 4
theorem rcErr_step {nn u : Int} {l : List Du} {i : Nat} (hi : i < l.length) (h1 : 0 ≤ l[i].f0 ∧ l[i].f0 ≤ nn - 1) (h2 : tmOf (l.take i) l[i].f0 = none) (h3 : 0 ≤ l[i].f1 ∧ l[i].f1 ≤ u) :
    rcErr nn u (l.take i) (l.drop i) = rcErr nn u (l.take (i + 1)) (l.drop (i + 1)) := by
  rw [List.drop_eq_getElem_cons hi, rcErr, if_pos h1, h2, if_neg (by simp), if_pos h3, List.take_add_one, List.getElem?_eq_getElem hi]
  rfl
theorem rcErr_none {nn u : Int} {l : List Du} {i : Nat} (hi : i < l.length) (h1 : ¬ (0 ≤ l[i].f0 ∧ l[i].f0 ≤ nn - 1)) : rcErr nn u (l.take i) (l.drop i) = 4 := by
  rw [List.drop_eq_getElem_cons hi, rcErr, if_neg h1]
theorem rcErr_twice {nn u : Int} {l : List Du} {i : Nat} (hi : i < l.length) (h1 : 0 ≤ l[i].f0 ∧ l[i].f0 ≤ nn - 1) (h2 : (tmOf (l.take i) l[i].f0).isSome = true) : rcErr nn u (l.take i) (l.drop i) = 5 := by
  rw [List.drop_eq_getElem_cons hi, rcErr, if_pos h1, if_pos h2]
theorem rcErr_time {nn u : Int} {l : List Du} {i : Nat} (hi : i < l.length) (h1 : 0 ≤ l[i].f0 ∧ l[i].f0 ≤ nn - 1) (h2 : tmOf (l.take i) l[i].f0 = none) (h3 : ¬ (0 ≤ l[i].f1 ∧ l[i].f1 ≤ u)) : rcErr nn u (l.take i) (l.drop i) = 3 := by
  rw [List.drop_eq_getElem_cons hi, rcErr, if_pos h1, h2, if_neg (by simp), if_neg h3]
/-- The units of links that were silent. -/
def silU (tm : Int → Option Int) (sn u : Int) (ls : List Lk) : List Int := (ls.filter (fun l => decide (l.f1 ≠ sn) && silentB tm l u)).map (·.f3)
def noB : List Bool := List.replicate 20 false
def failB (us : List Int) : List Bool := setUs noB us
theorem failB_len (us : List Int) : (failB us).length = 20 := by unfold failB; rw [setUs_len]; rfl
theorem silU_snoc (tm : Int → Option Int) (sn u : Int) (ls : List Lk) (l : Lk) : silU tm sn u (ls ++ [l]) = if l.f1 ≠ sn ∧ silentB tm l u = true then silU tm sn u ls ++ [l.f3] else silU tm sn u ls := by
  unfold silU
  rw [List.filter_append, List.map_append]
  by_cases h : l.f1 ≠ sn ∧ silentB tm l u = true
  · rw [if_pos h]; simp [h.1, h.2]
  · rw [if_neg h]
    have : (decide (l.f1 ≠ sn) && silentB tm l u) = false := by
      rw [Bool.and_eq_false_iff]
      by_cases h1 : l.f1 ≠ sn
      · right
        cases hs : silentB tm l u
        · rfl
        · exact absurd ⟨h1, hs⟩ h
      · left; simpa using h1
    rw [List.filter_cons_of_neg (by rw [this]; simp)]
    simp
/-- The units that can have brought a receipt. -/
def brU (tm : Int → Option Int) (failed : List Bool) (k : Int) (ls : List Lk) : List Int := (ls.filter (fun l => decide (l.f1 = k) && broughtB tm failed l)).map (·.f3)
theorem brU_snoc (tm : Int → Option Int) (failed : List Bool) (k : Int) (ls : List Lk) (l : Lk) : brU tm failed k (ls ++ [l]) = if l.f1 = k ∧ broughtB tm failed l = true then brU tm failed k ls ++ [l.f3] else brU tm failed k ls := by
  unfold brU
  rw [List.filter_append, List.map_append]
  by_cases h : l.f1 = k ∧ broughtB tm failed l = true
  · rw [if_pos h]; simp [h.1, h.2]
  · rw [if_neg h]
    have : (decide (l.f1 = k) && broughtB tm failed l) = false := by
      rw [Bool.and_eq_false_iff]
      by_cases h1 : l.f1 = k
      · right
        cases hs : broughtB tm failed l
        · rfl
        · exact absurd ⟨h1, hs⟩ h
      · left; simpa using h1
    rw [List.filter_cons_of_neg (by rw [this]; simp)]
    simp
theorem brU_len (tm : Int → Option Int) (failed : List Bool) (k : Int) (ls : List Lk) : (brU tm failed k ls).length ≤ ls.length := by
  unfold brU
  rw [List.length_map]
  exact List.length_filter_le ..
theorem brU_mem {tm : Int → Option Int} {failed : List Bool} {k : Int} {ls : List Lk} {v : Int} (h : v ∈ brU tm failed k ls) : ∃ l ∈ ls, l.f3 = v := by
  unfold brU at h
  obtain ⟨l, hl, e⟩ := List.mem_map.1 h
  exact ⟨l, (List.mem_filter.1 hl).1, e⟩
theorem silU_mem {tm : Int → Option Int} {sn u : Int} {ls : List Lk} {v : Int} (h : v ∈ silU tm sn u ls) : ∃ l ∈ ls, l.f3 = v := by
  unfold silU at h
  obtain ⟨l, hl, e⟩ := List.mem_map.1 h
  exact ⟨l, (List.mem_filter.1 hl).1, e⟩
/-- The one unit of a list, if it is one, and a unit. -/
def onlyU : List Int → Option Int
  | [] => none
  | a :: r => if (∀ y ∈ r, y = a) ∧ 0 ≤ a then some a else none
/-- Which unit worked for sure, by a node's receipt. -/
def goodU (tm : Int → Option Int) (failed : List Bool) (sn : Int) (ls : List Lk) (k : Int) : Option Int := if k = sn then none else onlyU (brU tm failed k ls)
theorem setUs_get (us : List Int) (hu : ∀ u ∈ us, 0 ≤ u) : ∀ (s : List Bool) (j : Nat), j < s.length → (setUs s us).getD j false = (s.getD j false || decide ((j : Int) ∈ us)) := by
  induction us with
  | nil => intro s j hj; simp [setUs]
  | cons v r ih =>
    intro s j hj
    have hv := hu v List.mem_cons_self
    rw [show setUs s (v :: r) = setUs (s.set v.toNat true) r from rfl, ih (fun u h => hu u (List.mem_cons_of_mem _ h)) _ j (by simpa using hj)]
    simp only [List.getD_eq_getElem?_getD, List.getElem?_set]
    by_cases e : v.toNat = j
    · have e2 : (j : Int) = v := by omega
      subst e
      rw [if_pos rfl, if_pos hj]
      simp [e2]
    · have e2 : ¬ (j : Int) = v := by omega
      rw [if_neg e]
      simp [e2]
theorem setUs_same {us vs : List Int} (hu : ∀ u ∈ us, 0 ≤ u) (h : ∀ u, u ∈ us ↔ u ∈ vs) (s : List Bool) : setUs s us = setUs s vs := by
  refine List.ext_getElem (by rw [setUs_len, setUs_len]) fun j h1 h2 => ?_
  have hj : j < s.length := by rw [setUs_len] at h1; exact h1
  have e1 := setUs_get us hu s j hj
  have e2 := setUs_get vs (fun u hv => hu u ((h u).2 hv)) s j hj
  simp only [List.getD_eq_getElem?_getD, List.getElem?_eq_getElem h1, List.getElem?_eq_getElem h2, Option.getD_some] at e1 e2
  rw [e1, e2]
  simp [h]
section
variable (nn uu : Int) (ls : List Lk) (sn lo hi : Int) (l : List Du) (u : Int)
def dFail : List Bool := failB (silU (tmOf l) sn u ls)
def dWork : List Bool := setUs noB (l.filterMap (fun x => goodU (tmOf l) (dFail ls sn l u) sn ls x.f0))
/-- The error behind the receipts' own. -/
def runErr : Int :=
  match tmOf l sn with
  | none => 2
  | some b => if lo ≤ b ∧ b ≤ hi then (if ∀ v ∈ silU (tmOf l) sn u ls, 0 ≤ v then (if ∀ x ∈ l, x.f0 ≠ sn → brU (tmOf l) (dFail ls sn l u) x.f0 ls ≠ [] then 0 else 14) else 14) else 14
def diagE : Int :=
  if startE nn uu ls sn lo hi = 0 then (if 0 ≤ u ∧ u ≤ 1000000000 then (if rcErr nn u [] l = 0 then runErr ls sn lo hi l u else rcErr nn u [] l) else 3) else startE nn uu ls sn lo hi
end
end Go.Proofs.Ytgmglpnoppcnkaa
end
section
namespace Go.Proofs.Ytgmglpnoppcnkaa
open Go.RowKit
set_option linter.unusedVariables false
set_option linter.unusedSimpArgs false

def NL : List Lk := [⟨0, 1, ⟨10, 20⟩, 0, true⟩, ⟨0, 2, ⟨5, 50⟩, 1, true⟩, ⟨1, 3, ⟨10, 10⟩, 0, true⟩, ⟨2, 3, ⟨0, 30⟩, 2, true⟩, ⟨1, 2, ⟨1, 5⟩, -1, false⟩]
theorem N_f : PB.tidewalllaw08_N.f = some (4, 3, NL) := rfl
theorem S_f : PB.tidewalllaw08_S.f = some (0, 100, 100) := rfl
theorem fine_f : PB.tidewalllaw08_fine.f = some [1, 1, 1] := rfl
theorem N_start : startE 4 3 NL 0 100 100 = 0 := by decide +kernel
theorem N_ok : StOk 4 3 NL 0 100 100 := by
  obtain ⟨n, e, h⟩ := startE_ok N_start
  have : n = 4 := by omega
  subst this
  exact h
theorem N_valid (f : Int) (h0 : 0 ≤ f) (h3 : f ≤ 3) : validE 4 3 NL 0 100 100 [1, 1, 1] f = 0 := by
  unfold validE
  rw [if_pos N_start, if_pos (by decide), if_pos (by decide), if_pos ⟨h0, h3⟩]
def loN (s : List Bool) : List Int := iterL (ueLo s) 0 NL 4 (startL 0 100 4)
def hiN (s : List Bool) : List Int := iterL (ueHi s) 0 NL 4 (startL 0 100 4)
theorem loN_eq (s : List Bool) (h : stableB (ueLo s) 0 NL (loN s) = true) : loL 4 NL 0 100 s = loN s := leastL_iter (N_ok.lo s) 4 h
theorem hiN_eq (s : List Bool) (h : stableB (ueHi s) 0 NL (hiN s) = true) : leastL NL (ueHi s) 0 100 4 = hiN s := leastL_iter (N_ok.hi s) 4 h
def hiU (us : List Int) : List Int := hiN (setUs (looseB [1, 1, 1]) us)
theorem fine3 : fineL [1, 1, 1] = [0, 1, 2] := by decide +kernel
theorem cho0 : choicesL 0 (fineL [1, 1, 1]) = [[]] := by rw [fine3]; simp [choicesL, choFrom, chooseL_zero]
theorem cho1 : choicesL 1 (fineL [1, 1, 1]) = [[], [0], [1], [2]] := by rw [fine3]; simp [choicesL, choFrom, chooseL_zero, chooseL_nil, chooseL_cons]
theorem cho2 : choicesL 2 (fineL [1, 1, 1]) = [[], [0], [1], [2], [0, 1], [0, 2], [1, 2]] := by rw [fine3]; simp [choicesL, choFrom, chooseL_zero, chooseL_nil, chooseL_cons]
theorem cho3 : choicesL 3 (fineL [1, 1, 1]) = [[], [0], [1], [2], [0, 1], [0, 2], [1, 2], [0, 1, 2]] := by rw [fine3]; simp [choicesL, choFrom, chooseL_zero, chooseL_nil, chooseL_cons]
theorem choices3 : (choicesL 3 (fineL [1, 1, 1])).all (fun us => stableB (ueHi (setUs (looseB [1, 1, 1]) us)) 0 NL (hiU us)) = true := by rw [cho3]; decide +kernel
theorem choFrom_sub (fine : List Int) : ∀ (n k j : Nat) (x : List Int), x ∈ choFrom fine k n → x ∈ choFrom fine k (n + j) := by
  intro n
  induction n with
  | zero => intro k j x h; cases h
  | succ n ih =>
    intro k j x h
    rw [show n + 1 + j = (n + j) + 1 by omega]
    simp only [choFrom, List.mem_append] at h ⊢
    rcases h with h | h
    · exact .inl h
    · exact .inr (ih (k + 1) j x h)
theorem choices_sub {f : Nat} (hf : f ≤ 3) {fine x : List Int} (h : x ∈ choicesL f fine) : x ∈ choicesL 3 fine := by
  unfold choicesL at h ⊢
  have := choFrom_sub fine (f + 1) 0 (3 - f) x h
  rw [show f + 1 + (3 - f) = 3 + 1 by omega] at this
  exact this
theorem hiU_eq {f : Nat} (hf : f ≤ 3) {us : List Int} (h : us ∈ choicesL f (fineL [1, 1, 1])) : hiL 4 NL 0 100 [1, 1, 1] us = hiU us :=
  hiN_eq _ ((List.all_eq_true.1 choices3) us (choices_sub hf h))
theorem hiU_nil : hiL 4 NL 0 100 [1, 1, 1] [] = hiU [] := hiU_eq (f := 0) (by omega) (by rw [cho0]; simp)
theorem foldl_congr_mem {α β : Type} (f g : β → α → β) : ∀ (l : List α) (b : β), (∀ x ∈ l, ∀ b, f b x = g b x) → l.foldl f b = l.foldl g b := by
  intro l
  induction l with
  | nil => intro b _; rfl
  | cons x r ih => intro b h; rw [List.foldl_cons, List.foldl_cons, h x List.mem_cons_self]; exact ih _ (fun y hy => h y (List.mem_cons_of_mem _ hy))
theorem find_congr_mem {α : Type} (p q : α → Bool) : ∀ (l : List α), (∀ x ∈ l, p x = q x) → l.find? p = l.find? q := by
  intro l
  induction l with
  | nil => intro _; rfl
  | cons x r ih => intro h; rw [List.find?_cons, List.find?_cons, h x List.mem_cons_self, ih (fun y hy => h y (List.mem_cons_of_mem _ hy))]
theorem worst_N {f : Nat} (hf : f ≤ 3) : worstS 4 NL 0 100 100 [1, 1, 1] f = zipS (loN (goneB [1, 1, 1])) ((choicesL f (fineL [1, 1, 1])).foldl (fun o us => maxL o (hiU us)) (hiU [])) := by
  unfold worstS worstOf
  rw [loN_eq _ (by decide +kernel), hiU_nil, foldl_congr_mem _ (fun o us => maxL o (hiU us)) _ _ (fun us hus o => by rw [hiU_eq hf hus])]
theorem blame_N {f : Nat} (hf : f ≤ 3) (d : Du) : blameL 4 NL 0 100 [1, 1, 1] f d = (choicesL f (fineL [1, 1, 1])).find? (fun us => decide (d.f1 < (hiU us).getD d.f0.toNat 0)) := by
  unfold blameL
  refine find_congr_mem _ _ _ fun us hus => ?_
  unfold lateB
  rw [hiU_eq hf hus]
theorem worst_N1 : worstS 4 NL 0 100 100 [1, 1, 1] 1 = [⟨100, 100⟩, ⟨110, NV⟩, ⟨105, NV⟩, ⟨105, 180⟩] := by
  have ha : loN (goneB [1, 1, 1]) = [100, 110, 105, 105] := by decide +kernel
  have hb : [[], [0], [1], [2]].foldl (fun o us => maxL o (hiU us)) (hiU []) = [100, NV, NV, 180] := by decide +kernel
  rw [worst_N (by omega), cho1, ha, hb]
  rfl
theorem blame_N2 : blameL 4 NL 0 100 [1, 1, 1] 2 ⟨3, 180⟩ = some [0, 1] := by
  rw [blame_N (by omega), cho2]
  decide +kernel
def RL : List Du := [⟨0, 100⟩, ⟨2, 130⟩, ⟨3, 140⟩]
theorem diag_N : diagE 4 3 NL 0 100 100 RL 200 = 0 := by decide +kernel
theorem diag_N1 : listB (dWork NL 0 RL 200) = [1, 2] := by decide +kernel
theorem diag_N2 : listB (dFail NL 0 RL 200) = [0] := by decide +kernel
end Go.Proofs.Ytgmglpnoppcnkaa
end
section
namespace Go.Proofs.Ytgmglpnoppcnkaa
open Go.RowKit Go.Proofs.YtgmglpnoppcnkaaW.PrintWords Go.Proofs.YtgmglpnoppcnkaaW.PrintLast Go.Proofs.YtgmglpnoppcnkaaW.PrintMore
set_option linter.unusedVariables false
set_option linter.unusedSimpArgs false
set_option maxRecDepth 100000

set_option maxHeartbeats 4000000 in
theorem Diag_early (nn uu : Int) (A : Option Addr) (c : Nat) (ls : List Lk) (sn lo hi : Int) (A3 : Option Addr) (c3 : Nat) (l : List Du) (u : Int) (w : World)
    (hr : Kd.C PB.k88 w A ls.length ls) (hc : ls.length ≤ c) (h : startE nn uu ls sn lo hi ≠ 0) :
    Calls Try.prog 24 #[.agg #[.int .i64 nn, .int .i64 uu, .slice A ls.length c], .agg #[.int .i64 sn, .int .i64 lo, .int .i64 hi], .slice A3 l.length c3, .int .i64 u] w fun e w' => e = .returned (.tuple #[.slice none 0 0, .slice none 0 0, .int .i64 (startE nn uu ls sn lo hi)]) ∧ Below w.heap.size w w' := by
  have HR := Aside0.mk (And.intro hr hc)
  obtain ⟨E, hE⟩ : ∃ E, E = startE nn uu ls sn lo hi := ⟨_, rfl⟩
  have HE := Aside0.mk (And.intro h hE)
  have HCW : Aside0 (∀ W, Below w.heap.size w W → Calls Try.prog 68 #[.agg #[.int .i64 nn, .int .i64 uu, .slice A ls.length c], .agg #[.int .i64 sn, .int .i64 lo, .int .i64 hi]] W fun e w' => e = .returned (.tuple #[.pointer none, .int .i64 E]) ∧ Below W.heap.size W w') := ⟨fun W hW => by rw [hE]; exact weave_err nn uu A c ls sn lo hi W (Kd.C_below hr hW) hc h⟩
  rw [← hE] at h ⊢
  have hEb : (E == 0) = false := by simpa using h
  have hEn : (E != 0) = true := by simpa using h
  clear hr hc hE h
  go_enter Try.func24, Try.ntmps24
  go_wp2_with ((with_reducible refine gate_dst (N := 4) rfl ?_); refine hold ?_)
  refine box_event rfl (N := 4) rfl (cs := #[.int .i64 nn, .int .i64 uu, .slice A ls.length c]) (t := 32) (by go_simp) ?_
  intro bn hbn w1 hb1 hB1
  have HB1 := Aside0.mk hB1
  have Hb1 := Aside0.mk hb1
  clear hbn hB1 hb1
  go_wp2_with ((with_reducible refine gate_dst (N := 5) rfl ?_); refine hold ?_)
  refine box_event rfl (N := 5) rfl (cs := #[.int .i64 sn, .int .i64 lo, .int .i64 hi]) (t := 43) (by go_simp) ?_
  intro bs hbs w2 hb2 hB2
  have HB2 := Aside0.mk (below_step HB1.out hB2)
  have hb1' := blk_below Hb1.out hB2
  have C0 : w2.cell? ⟨bn, 0, none⟩ = some (.int .i64 nn) := blk_cell hb1' 0
  have C1 : w2.cell? ⟨bn, 1, none⟩ = some (.int .i64 uu) := blk_cell hb1' 1
  have C2 : w2.cell? ⟨bn, 2, none⟩ = some (.slice A ls.length c) := blk_cell hb1' 2
  have C3 : w2.cell? ⟨bs, 0, none⟩ = some (.int .i64 sn) := blk_cell hb2 0
  have C4 : w2.cell? ⟨bs, 1, none⟩ = some (.int .i64 lo) := blk_cell hb2 1
  have C5 : w2.cell? ⟨bs, 2, none⟩ = some (.int .i64 hi) := blk_cell hb2 2
  clear hb1' hb2 hB2 Hb1 HB1 hbs
  go_wp2_with (go_at_call 68; refine (HCW.out _ HB2.out).mono ?_; rintro e w3 ⟨rfl, hb3⟩; have B3 := Aside0.mk (below_step HB2.out hb3); clear hb3 C0 C1 C2 C3 C4 C5)
  go_ret3
  exact ⟨rfl, B3.out⟩

set_option maxHeartbeats 4000000 in
theorem Diag_until (nn uu : Int) (A : Option Addr) (c : Nat) (ls : List Lk) (sn lo hi : Int) (A3 : Option Addr) (c3 : Nat) (l : List Du) (u : Int) (w : World)
    (hr : Kd.C PB.k88 w A ls.length ls) (hc : ls.length ≤ c) (h : startE nn uu ls sn lo hi = 0) (hu : ¬ (0 ≤ u ∧ u ≤ 1000000000)) :
    Calls Try.prog 24 #[.agg #[.int .i64 nn, .int .i64 uu, .slice A ls.length c], .agg #[.int .i64 sn, .int .i64 lo, .int .i64 hi], .slice A3 l.length c3, .int .i64 u] w fun e w' => e = .returned (.tuple #[.slice none 0 0, .slice none 0 0, .int .i64 3]) ∧ Below w.heap.size w w' := by
  have HR := Aside0.mk (And.intro hr hc)
  have HE := Aside0.mk h
  have HU := Aside0.mk (decide_eq_false hu)
  clear hr hc h hu
  go_enter Try.func24, Try.ntmps24
  go_wp2_with ((with_reducible refine gate_dst (N := 4) rfl ?_); refine hold ?_)
  refine box_event rfl (N := 4) rfl (cs := #[.int .i64 nn, .int .i64 uu, .slice A ls.length c]) (t := 32) (by go_simp) ?_
  intro bn hbn w1 hb1 hB1
  have HB1 := Aside0.mk hB1
  have Hb1 := Aside0.mk hb1
  clear hbn hB1 hb1
  go_wp2_with ((with_reducible refine gate_dst (N := 5) rfl ?_); refine hold ?_)
  refine box_event rfl (N := 5) rfl (cs := #[.int .i64 sn, .int .i64 lo, .int .i64 hi]) (t := 43) (by go_simp) ?_
  intro bs hbs w2 hb2 hB2
  have HB2 := Aside0.mk (below_step HB1.out hB2)
  have hb1' := blk_below Hb1.out hB2
  have C0 : w2.cell? ⟨bn, 0, none⟩ = some (.int .i64 nn) := blk_cell hb1' 0
  have C1 : w2.cell? ⟨bn, 1, none⟩ = some (.int .i64 uu) := blk_cell hb1' 1
  have C2 : w2.cell? ⟨bn, 2, none⟩ = some (.slice A ls.length c) := blk_cell hb1' 2
  have C3 : w2.cell? ⟨bs, 0, none⟩ = some (.int .i64 sn) := blk_cell hb2 0
  have C4 : w2.cell? ⟨bs, 1, none⟩ = some (.int .i64 lo) := blk_cell hb2 1
  have C5 : w2.cell? ⟨bs, 2, none⟩ = some (.int .i64 hi) := blk_cell hb2 2
  clear hb1' hb2 hB2 Hb1 HB1 hbs
  go_wp2_with (first | (go_at_call 68; refine (weave_ok nn uu A c ls sn lo hi _ (Kd.C_below HR.out.1 HB2.out) HR.out.2 HE.out).mono ?_; rintro e w3 ⟨wp, rfl, hb3, hw3⟩; have B3 := Aside0.mk (below_step HB2.out hb3); clear hb3 hw3 C0 C1 C2 C3 C4 C5) | (go_at_call 72; refine (within_same u 0 1000000000 _).mono ?_; rw [HU.out]; rintro e w4 ⟨rfl, rfl⟩))
  go_ret3
  exact ⟨rfl, B3.out⟩

theorem map_run165 (W : World) (o : Oper) (ev : Operand → Value) (ho : o.op = .makeMap 165 none) : (execOp ev o).run Try.prog W = .ok (.value (.map (some W.heap.size))) (W.alloc (.map #[] 0)) := by
  unfold execOp
  rw [ho]
  rfl
/-- The loops' bodies. -/
def loopsOf : Code → List Code
  | .loop c => c :: loopsOf c
  | .seq a b => loopsOf a ++ loopsOf b
  | .block _ c => loopsOf c
  | .scope c => loopsOf c
  | .cond _ a b => loopsOf a ++ loopsOf b
  | _ => []
noncomputable def dBody (i : Nat) : Code := ((Try.f24.body.map loopsOf).getD []).getD i .skip
/-- The state of Diagnose, from the loop over the receipts on. -/
structure DgAt (w : World) (bn bs rb wp m : Nat) (nn uu : Int) (sv : Value) (sn lo hi : Int) (tm : Int → Option Int) (failed : List Bool) (wr : World) : Prop where
  kp : Below w.heap.size w wr
  net : wr.heap[bn]? = some (.cells #[.int .i64 nn, .int .i64 uu, sv] 32 (0, 0))
  st : wr.heap[bs]? = some (.cells #[.int .i64 sn, .int .i64 lo, .int .i64 hi] 43 (0, 0))
  blk : wr.heap[rb]? = some (.cells (runCs wp m failed).toArray 167 (0, 0))
  map : ∃ L c, MapAt wr m L c ∧ BornOk L c ∧ ∀ k, lookL L k = (tm k).map (Value.int .i64)
  len : failed.length = 20
  rge : w.heap.size ≤ rb
  mge : w.heap.size ≤ m
theorem DgAt.keep {w wr W : World} {bn bs rb wp m : Nat} {nn uu : Int} {sv : Value} {sn lo hi : Int} {tm : Int → Option Int} {failed : List Bool} (h : DgAt w bn bs rb wp m nn uu sv sn lo hi tm failed wr) (hb : Below wr.heap.size wr W) : DgAt w bn bs rb wp m nn uu sv sn lo hi tm failed W := by
  obtain ⟨h1, h2, h3, h4, ⟨L, c, h5, h6⟩, h7, h8, h9⟩ := h
  exact ⟨below_step h1 hb, blk_below h2 hb, blk_below h3 hb, blk_below h4 hb, ⟨L, c, (hb.block m (blk_lt h5)).trans h5, h6⟩, h7, h8, h9⟩
theorem DgAt.run {w wr : World} {bn bs rb wp m : Nat} {nn uu : Int} {sv : Value} {sn lo hi : Int} {tm : Int → Option Int} {failed : List Bool} (h : DgAt w bn bs rb wp m nn uu sv sn lo hi tm failed wr) : RunAt wr rb wp m tm failed := by
  obtain ⟨L, c, h5, h6, h7⟩ := h.map
  exact ⟨h.blk, ⟨L, c, h5, h7⟩, h.len⟩

theorem DgAt.store {w wr : World} {bn bs rb wp m : Nat} {nn uu : Int} {sv : Value} {sn lo hi : Int} {tm : Int → Option Int} {failed : List Bool} (h : DgAt w bn bs rb wp m nn uu sv sn lo hi tm failed wr) (k v : Int) (tm' : Int → Option Int) (ht : ∀ j, tm' j = if j = k then some v else tm j) :
    ∃ w3, (Instr.mapUpdate 165 (.map (some m)) (.int .i64 k) (.int .i64 v)).run Try.prog wr.drew = .ok () w3 ∧ Kp wr w3 (fun i => i = m) ∧ DgAt w bn bs rb wp m nn uu sv sn lo hi tm' failed w3 := by
  obtain ⟨h1, h2, h3, h4, ⟨L, c, h5, h6, h6'⟩, h7, h8, h9⟩ := h
  obtain ⟨c', hrun, hborn⟩ := run_store2 wr.drew 165 3 hu165 m L c h5 h6 k (.int .i64 v)
  refine ⟨_, hrun, ?_⟩
  have hm : wr.heap[m]? = some (.map (L.map mkE).toArray c) := h5
  have hml : m < wr.heap.size := blk_lt hm
  have hk : Kp wr ({ wr.drew with heap := wr.drew.heap.setIfInBounds m (.map ((putL L c k (.int .i64 v)).map mkE).toArray c') } : World) (fun i => i = m) := by
    refine ⟨rfl, rfl, rfl, ?_, fun i hi hn => ?_⟩
    · show wr.heap.size ≤ (wr.heap.setIfInBounds m _).size
      simp
    · show (wr.heap.setIfInBounds m _)[i]? = _
      rw [Array.getElem?_setIfInBounds, if_neg (fun e => hn e.symm)]
  have hne : ∀ {b : Nat} {cs : Array Value} {t : TypeId} {fr : Nat × Nat}, wr.heap[b]? = some (.cells cs t fr) → ¬ b = m := fun hb e => by
    rw [e, hm] at hb; cases hb
  refine ⟨hk, h1.trans (hk.below h1.size (fun i e => by rw [e]; exact h9)), hk.blk h2 (hne h2), hk.blk h3 (hne h3), hk.blk h4 (hne h4), ⟨putL L c k (.int .i64 v), c', ?_, hborn, fun j => ?_⟩, h7, h8, h9⟩
  · show (wr.heap.setIfInBounds m _)[m]? = _
    rw [Array.getElem?_setIfInBounds, if_pos rfl, if_pos hml]
  · rw [lookL_put, ht, h6']
    split <;> rfl
def DiagPost (w : World) (nn uu : Int) (ls : List Lk) (sn lo hi : Int) (l : List Du) (u : Int) (e : Ending) (w' : World) : Prop :=
  Below w.heap.size w w' ∧ ((diagE nn uu ls sn lo hi l u ≠ 0 ∧ e = .returned (.tuple #[.slice none 0 0, .slice none 0 0, .int .i64 (diagE nn uu ls sn lo hi l u)])) ∨
    (diagE nn uu ls sn lo hi l u = 0 ∧ ∃ v1 v2, e = .returned (.tuple #[v1, v2, .int .i64 0]) ∧ w'.ownsRow w.heap.size 3 1 v1 (listB (dWork ls sn l u)).length (ints (listB (dWork ls sn l u))) ∧ w'.ownsRow w.heap.size 3 1 v2 (listB (dFail ls sn l u)).length (ints (listB (dFail ls sn l u)))))
theorem DiagPost.fail {w : World} {nn uu : Int} {ls : List Lk} {sn lo hi : Int} {l : List Du} {u : Int} {w' : World} {E : Int} (hb : Below w.heap.size w w') (hE : diagE nn uu ls sn lo hi l u = E) (h0 : E ≠ 0) : DiagPost w nn uu ls sn lo hi l u (.returned (.tuple #[.slice none 0 0, .slice none 0 0, .int .i64 E])) w' :=
  ⟨hb, .inl ⟨by rw [hE]; exact h0, by rw [hE]⟩⟩
end Go.Proofs.Ytgmglpnoppcnkaa
end
section
namespace Go.Proofs.Ytgmglpnoppcnkaa
open Go.RowKit Go.Proofs.YtgmglpnoppcnkaaW.PrintWords Go.Proofs.YtgmglpnoppcnkaaW.PrintLast Go.Proofs.YtgmglpnoppcnkaaW.PrintMore
set_option linter.unusedVariables false
set_option linter.unusedSimpArgs false
set_option maxRecDepth 100000

theorem alloc_run144 (W : World) (o : Oper) (ev : Operand → Value) (ho : o.op = .alloc 144) : (execOp ev o).run Try.prog W = .ok (.value (.pointer (some ⟨W.heap.size, 0, none⟩))) (W.alloc (.cells (setCs noB).toArray 144 (0, 0))) := by
  unfold execOp
  rw [ho]
  rfl
theorem range_run165 (W : World) (o : Oper) (ev : Operand → Value) (x : Operand) (m : Nat) (L : List Ent) (c : Nat) (ho : o.op = .range 165 x) (hx : ev x = .map (some m)) (h : MapAt W m L c) : (execOp ev o).run Try.prog W = .ok (.value (.pointer (some ⟨W.heap.size, 0, none⟩))) (W.alloc (.mapIter (some m) c #[] c)) := by
  unfold execOp
  rw [ho]
  simp only [hx]
  rw [Sem.run_bind, run_range_at W 165 3 hu165 m L c h]
  rfl
/-- At the head of the loop over the receipts' nodes: V has been, S tells the iterator. -/
structure GInv (w : World) (bn bs rb wp m gb r c : Nat) (nn uu : Int) (sv : Value) (sn lo hi : Int) (tm : Int → Option Int) (failed : List Bool) (ls : List Lk) (L V : List Ent) (S : List Nat) (wr : World) : Prop where
  dg : DgAt w bn bs rb wp m nn uu sv sn lo hi tm failed wr
  mp : MapAt wr m L c
  born : BornOk L c
  look : ∀ k, lookL L k = (tm k).map (Value.int .i64)
  good : wr.heap[gb]? = some (.cells (setCs (setUs noB (V.filterMap (fun e => goodU tm failed sn ls e.1)))).toArray 144 (0, 0))
  it : IterAt wr r m c S
  vis : ∀ e ∈ V, e ∈ L
  ok : ∀ e ∈ V, e.1 ≠ sn → brU tm failed e.1 ls ≠ []
  gge : w.heap.size ≤ gb
  rge : w.heap.size ≤ r
section
variable {w wr W : World} {bn bs rb wp m gb r c : Nat} {nn uu : Int} {sv : Value} {sn lo hi : Int} {tm : Int → Option Int} {failed : List Bool} {ls : List Lk} {L V : List Ent} {S : List Nat}
theorem GInv.keep (h : GInv w bn bs rb wp m gb r c nn uu sv sn lo hi tm failed ls L V S wr) (hb : Below wr.heap.size wr W) : GInv w bn bs rb wp m gb r c nn uu sv sn lo hi tm failed ls L V S W := by
  obtain ⟨h1, h2, h3, h4, h5, ⟨c0, h6, h6'⟩, h7, h8, h9, h10⟩ := h
  exact ⟨h1.keep hb, (hb.block m (blk_lt h2)).trans h2, h3, h4, blk_below h5 hb, ⟨c0, h6, (hb.block r (blk_lt h6')).trans h6'⟩, h7, h8, h9, h10⟩
/-- Which blocks are not the iterator's. -/
theorem GInv.next (h : GInv w bn bs rb wp m gb r c nn uu sv sn lo hi tm failed ls L V S wr) (S' : List Nat) (w1 : World) (hw1 : w1 = wr ∨ w1 = wr.drew) (hk : Kp w1 W (fun i => i = r)) (hit : IterAt W r m c S') : GInv w bn bs rb wp m gb r c nn uu sv sn lo hi tm failed ls L V S' W := by
  have h' : GInv w bn bs rb wp m gb r c nn uu sv sn lo hi tm failed ls L V S w1 := by
    rcases hw1 with rfl | rfl
    · exact h
    · exact h.keep (below_drew1 (Below.refl _ _))
  clear h hw1
  obtain ⟨⟨g1, g2, g3, g4, ⟨L', c', g5, g6⟩, g7, g8, g9⟩, h2, h3, h4, h5, ⟨c0, h6, h6'⟩, h7, h8, h9, h10⟩ := h'
  have hne : ∀ {b : Nat} {cs : Array Value} {t : TypeId} {fr : Nat × Nat}, w1.heap[b]? = some (.cells cs t fr) → ¬ b = r := fun hb e => by
    rw [e, h6'] at hb; cases hb
  have hmr : ¬ m = r := fun e => by
    rw [e] at h2
    rw [show w1.heap[r]? = _ from h2] at h6'
    cases h6'
  exact ⟨⟨g1.trans (hk.below g1.size (fun i e => by rw [e]; exact h10)), hk.blk g2 (hne g2), hk.blk g3 (hne g3), hk.blk g4 (hne g4), ⟨L', c', hk.blk g5 hmr, g6⟩, g7, g8, g9⟩, hk.blk h2 hmr, h3, h4, hk.blk h5 (hne h5), hit, h7, h8, h9, h10⟩
/-- A node without news. -/
theorem GInv.pass (h : GInv w bn bs rb wp m gb r c nn uu sv sn lo hi tm failed ls L V S wr) (x : Ent) (hx : x ∈ L) (hn : goodU tm failed sn ls x.1 = none) (hok : x.1 ≠ sn → brU tm failed x.1 ls ≠ []) : GInv w bn bs rb wp m gb r c nn uu sv sn lo hi tm failed ls L (V ++ [x]) S wr := by
  obtain ⟨h1, h2, h3, h4, h5, h6, h7, h8, h9, h10⟩ := h
  refine ⟨h1, h2, h3, h4, ?_, h6, ?_, ?_, h9, h10⟩
  · rw [List.filterMap_append]
    simp only [List.filterMap_cons, hn, List.filterMap_nil, List.append_nil]
    exact h5
  · intro e he
    rcases List.mem_append.1 he with h | h
    · exact h7 e h
    · rw [List.mem_singleton.1 h]; exact hx
  · intro e he
    rcases List.mem_append.1 he with h | h
    · exact h8 e h
    · rw [List.mem_singleton.1 h]; exact hok
theorem setCs_set (s : List Bool) (j : Nat) (b : Bool) : (setCs s).set j (.bool b) = setCs (s.set j b) := by simp [setCs, List.map_set]
/-- A node that tells of a unit. -/
theorem GInv.mark (h : GInv w bn bs rb wp m gb r c nn uu sv sn lo hi tm failed ls L V S wr) (x : Ent) (hx : x ∈ L) (j : Nat) (hn : goodU tm failed sn ls x.1 = some (j : Int)) (hok : x.1 ≠ sn → brU tm failed x.1 ls ≠ []) (hne : gb ≠ bn ∧ gb ≠ bs ∧ gb ≠ rb) : GInv w bn bs rb wp m gb r c nn uu sv sn lo hi tm failed ls L (V ++ [x]) S (wr.setCell ⟨gb, j, none⟩ (.bool true)) := by
  obtain ⟨⟨g1, g2, g3, g4, ⟨L', c', g5, g6⟩, g7, g8, g9⟩, h2, h3, h4, h5, ⟨c0, h6, h6'⟩, h7, h8, h9, h10⟩ := h
  have hk := Kp.setCell wr gb j (.bool true)
  have hmg : ¬ m = gb := fun e => by
    rw [e] at h2
    rw [show wr.heap[gb]? = _ from h2] at h5
    cases h5
  have hrg : ¬ r = gb := fun e => by
    rw [e, h5] at h6'
    cases h6'
  refine ⟨⟨g1.trans (hk.below g1.size (fun i e => by rw [e]; exact h9)), hk.blk g2 (fun e => hne.1 e.symm), hk.blk g3 (fun e => hne.2.1 e.symm), hk.blk g4 (fun e => hne.2.2 e.symm), ⟨L', c', hk.blk g5 hmg, g6⟩, g7, g8, g9⟩, hk.blk h2 hmg, h3, h4, ?_, ⟨c0, h6, hk.blk h6' hrg⟩, ?_, ?_, h9, h10⟩
  · rw [blk_set h5 j (.bool true), List.filterMap_append]
    simp only [List.filterMap_cons, hn, List.filterMap_nil]
    rw [setUs_snoc]
    simp [setCs_set]
  · intro e he
    rcases List.mem_append.1 he with h | h
    · exact h7 e h
    · rw [List.mem_singleton.1 h]; exact hx
  · intro e he
    rcases List.mem_append.1 he with h | h
    · exact h8 e h
    · rw [List.mem_singleton.1 h]; exact hok
end
/-- What the iterator has handed out. -/
def seenOf (w : World) (r : Nat) : List Nat := match w.heap[r]? with | some (.mapIter _ _ seen _) => seen.toList | _ => []
theorem IterAt.seen {w : World} {r m c : Nat} {S : List Nat} (h : IterAt w r m c S) : seenOf w r = S := by
  obtain ⟨c0, _, h⟩ := h
  unfold seenOf
  rw [h]
/-- All nodes have been. -/
theorem GInv.work {w wr : World} {bn bs rb wp m gb r c : Nat} {nn uu : Int} {sv : Value} {sn lo hi : Int} {l : List Du} {u : Int} {ls : List Lk} {L V : List Ent} (h : GInv w bn bs rb wp m gb r c nn uu sv sn lo hi (tmOf l) (dFail ls sn l u) ls L V (V.map (·.2.2)) wr) (hall : ∀ x ∈ L, x.2.2 ∈ V.map (·.2.2)) :
    setUs noB (V.filterMap (fun e => goodU (tmOf l) (dFail ls sn l u) sn ls e.1)) = dWork ls sn l u ∧ ∀ x ∈ l, x.f0 ≠ sn → brU (tmOf l) (dFail ls sn l u) x.f0 ls ≠ [] := by
  have hVL : ∀ x ∈ L, x ∈ V := fun x hx => by
    obtain ⟨y, hy, e⟩ := List.mem_map.1 (hall x hx)
    rw [ent_inj h.born.1 hx (h.vis y hy) e.symm]
    exact hy
  have hkeys : ∀ k, (∃ e ∈ V, e.1 = k) ↔ ∃ x ∈ l, x.f0 = k := fun k => by
    constructor
    · rintro ⟨e, he, rfl⟩
      have h1 := mem_lookL (h.vis e he)
      rw [h.look, Option.isSome_map] at h1
      obtain ⟨t, ht⟩ := Option.isSome_iff_exists.1 h1
      obtain ⟨x, hx, e1, _⟩ := tmOf_mem ht
      exact ⟨x, hx, e1⟩
    · rintro ⟨x, hx, rfl⟩
      have h1 := mem_tmOf hx
      obtain ⟨t, ht⟩ := Option.isSome_iff_exists.1 h1
      have h2 := h.look x.f0
      rw [ht] at h2
      obtain ⟨y, hy, e1, _⟩ := lookL_mem h2
      exact ⟨y, hVL y hy, e1⟩
  constructor
  · unfold dWork
    refine setUs_same (fun v hv => ?_) (fun v => ?_) _
    · obtain ⟨e, he, h1⟩ := List.mem_filterMap.1 hv
      unfold goodU at h1
      split at h1
      · cases h1
      · unfold onlyU at h1
        split at h1
        · cases h1
        · split at h1
          · rename_i h2
            cases h1
            exact h2.2
          · cases h1
    · simp only [List.mem_filterMap]
      constructor
      · rintro ⟨e, he, h1⟩
        obtain ⟨x, hx, e1⟩ := (hkeys e.1).1 ⟨e, he, rfl⟩
        exact ⟨x, hx, by rw [e1]; exact h1⟩
      · rintro ⟨x, hx, h1⟩
        obtain ⟨e, he, e1⟩ := (hkeys x.f0).2 ⟨x, hx, rfl⟩
        exact ⟨e, he, by rw [e1]; exact h1⟩
  · intro x hx hne
    obtain ⟨e, he, e1⟩ := (hkeys x.f0).2 ⟨x, hx, rfl⟩
    rw [← e1] at hne ⊢
    exact h.ok e he hne
/-- A node that nothing can have brought. -/
theorem GInv.bad {w wr : World} {bn bs rb wp m gb r c : Nat} {nn uu : Int} {sv : Value} {sn lo hi : Int} {l : List Du} {u : Int} {ls : List Lk} {L V : List Ent} {S : List Nat} (h : GInv w bn bs rb wp m gb r c nn uu sv sn lo hi (tmOf l) (dFail ls sn l u) ls L V S wr) (x : Ent) (hx : x ∈ L) (hne : x.1 ≠ sn) (hb : brU (tmOf l) (dFail ls sn l u) x.1 ls = []) :
    ¬ ∀ x ∈ l, x.f0 ≠ sn → brU (tmOf l) (dFail ls sn l u) x.f0 ls ≠ [] := fun hall => by
  have h1 := mem_lookL hx
  rw [h.look, Option.isSome_map] at h1
  obtain ⟨t, ht⟩ := Option.isSome_iff_exists.1 h1
  obtain ⟨y, hy, e1, _⟩ := tmOf_mem ht
  exact hall y hy (by rw [e1]; exact hne) (by rw [e1]; exact hb)
end Go.Proofs.Ytgmglpnoppcnkaa
end
section
namespace Go.Proofs.Ytgmglpnoppcnkaa
open Go.RowKit Go.Proofs.YtgmglpnoppcnkaaW.PrintWords Go.Proofs.YtgmglpnoppcnkaaW.PrintLast Go.Proofs.YtgmglpnoppcnkaaW.PrintMore
set_option linter.unusedVariables false
set_option linter.unusedSimpArgs false
set_option maxRecDepth 100000

theorem unhold {p : Prop} (h : p) : Hold p := h
theorem runCs_get (wp m : Nat) (failed : List Bool) (j : Nat) (hj : j < failed.length) : (runCs wp m failed)[2 + j]? = some (.bool failed[j]) := by
  rw [runCs, show 2 + j = j + 1 + 1 by omega, List.getElem?_cons_succ, List.getElem?_cons_succ]
  simp [setCs, hj]
theorem runCs_set (wp m : Nat) (failed : List Bool) (j : Nat) (b : Bool) : (runCs wp m failed).set (2 + j) (.bool b) = runCs wp m (failed.set j b) := by
  rw [runCs, show 2 + j = j + 1 + 1 by omega, List.set_cons_succ, List.set_cons_succ]
  simp [setCs, runCs, List.map_set]
theorem DgAt.mark {w wr : World} {bn bs rb wp m : Nat} {nn uu : Int} {sv : Value} {sn lo hi : Int} {tm : Int → Option Int} {failed : List Bool} (h : DgAt w bn bs rb wp m nn uu sv sn lo hi tm failed wr) (j : Nat) (hne : rb ≠ bn) (hne2 : rb ≠ bs) :
    DgAt w bn bs rb wp m nn uu sv sn lo hi tm (failed.set j true) (wr.setCell ⟨rb, 2 + j, none⟩ (.bool true)) := by
  obtain ⟨h1, h2, h3, h4, ⟨L, c, h5, h6⟩, h7, h8, h9⟩ := h
  have hk := Kp.setCell wr rb (2 + j) (.bool true)
  have hm : ¬ m = rb := fun e => by rw [e] at h5; rw [show wr.heap[rb]? = _ from h5] at h4; cases h4
  refine ⟨h1.trans (hk.below h1.size (fun i e => by rw [e]; exact h8)), hk.blk h2 (fun e => hne e.symm), hk.blk h3 (fun e => hne2 e.symm), ?_, ⟨L, c, hk.blk h5 hm, h6⟩, by rw [List.length_set]; exact h7, h8, h9⟩
  have := blk_set h4 (2 + j) (.bool true)
  rw [this]
  simp [runCs_set]
def RSees (rb m lb : Nat) (x y : Int) (W : World) : Prop := W.cell? ⟨rb, 1, none⟩ = some (.map (some m)) ∧ W.cell? ⟨lb, 0, none⟩ = some (.int .i64 x) ∧ W.cell? ⟨lb, 1, none⟩ = some (.int .i64 y)
set_option maxHeartbeats 8000000 in
theorem Diag_ok (nn : Nat) (uu : Int) (A : Option Addr) (c : Nat) (ls : List Lk) (sn lo hi : Int) (A3 : Option Addr) (c3 : Nat) (l : List Du) (u : Int) (w : World)
    (hr : Kd.C PB.k88 w A ls.length ls) (hc : ls.length ≤ c) (h : startE nn uu ls sn lo hi = 0) (hu : 0 ≤ u ∧ u ≤ 1000000000) (hr3 : Kd.C PB.k41 w A3 l.length l) (hc3 : l.length ≤ c3) (hl : l.length ≤ 100000) :
    Calls Try.prog 24 #[.agg #[.int .i64 nn, .int .i64 uu, .slice A ls.length c], .agg #[.int .i64 sn, .int .i64 lo, .int .i64 hi], .slice A3 l.length c3, .int .i64 u] w (DiagPost w nn uu ls sn lo hi l u) := by
  have HR := Aside0.mk (And.intro hr (And.intro hc (And.intro hr3 hc3)))
  have HE := Aside0.mk h
  obtain ⟨n', e', hO⟩ := startE_ok h
  obtain rfl : nn = n' := by omega
  have HO := Aside0.mk hO
  have hn64 : nn ≤ 64 := by have := hO.net.n2; omega
  have hn1 : 1 ≤ nn := by have := hO.net.n1; omega
  have HU := Aside0.mk (decide_eq_true hu)
  have HU0 := Aside0.mk hu
  have HRC : Aside0 (∀ E, rcErr nn u [] l = E → E ≠ 0 → diagE nn uu ls sn lo hi l u = E) := ⟨fun E e h0 => by unfold diagE; rw [if_pos h, if_pos hu, if_neg (by rw [e]; exact h0), e]⟩
  have HRO : Aside0 (rcErr nn u [] l = 0 → diagE nn uu ls sn lo hi l u = runErr ls sn lo hi l u) := ⟨fun e => by unfold diagE; rw [if_pos h, if_pos hu, if_pos e]⟩
  clear hr hc h hu hr3 hc3 hO e'
  go_enter Try.func24, Try.ntmps24
  go_wp2_with ((with_reducible refine gate_dst (N := 4) rfl ?_); refine hold ?_)
  refine box_event rfl (N := 4) rfl (cs := #[.int .i64 nn, .int .i64 uu, .slice A ls.length c]) (t := 32) (by go_simp) ?_
  intro bn hbn w1 hb1 hB1
  have HB1 := Aside0.mk hB1
  have Hb1 := Aside0.mk hb1
  clear hbn hB1 hb1
  go_wp2_with ((with_reducible refine gate_dst (N := 5) rfl ?_); refine hold ?_)
  refine box_event rfl (N := 5) rfl (cs := #[.int .i64 sn, .int .i64 lo, .int .i64 hi]) (t := 43) (by go_simp) ?_
  intro bs hbs w2 hb2 hB2
  have HB2 := Aside0.mk (below_step HB1.out hB2)
  have hb1' := blk_below Hb1.out hB2
  have C0 : w2.cell? ⟨bn, 0, none⟩ = some (.int .i64 nn) := blk_cell hb1' 0
  have C1 : w2.cell? ⟨bn, 1, none⟩ = some (.int .i64 uu) := blk_cell hb1' 1
  have C2 : w2.cell? ⟨bn, 2, none⟩ = some (.slice A ls.length c) := blk_cell hb1' 2
  have C3 : w2.cell? ⟨bs, 0, none⟩ = some (.int .i64 sn) := blk_cell hb2 0
  have C4 : w2.cell? ⟨bs, 1, none⟩ = some (.int .i64 lo) := blk_cell hb2 1
  have C5 : w2.cell? ⟨bs, 2, none⟩ = some (.int .i64 hi) := blk_cell hb2 2
  have HNS := Aside0.mk (And.intro hb1' hb2)
  clear hb1' hb2 hB2 Hb1 HB1 hbs
  go_wp2_with (first | (go_at_call 68; refine (weave_ok nn uu A c ls sn lo hi _ (Kd.C_below HR.out.1 HB2.out) HR.out.2.1 HE.out).mono ?_; rintro e w3 ⟨wp, rfl, hb3, hw3⟩; have B3 := Aside0.mk (And.intro hb3 (below_step HB2.out hb3)); clear hb3 hw3 C0 C1 C2 C3 C4 C5) | (go_at_call 72; refine (within_same u 0 1000000000 _).mono ?_; rw [HU.out]; rintro e w4 ⟨rfl, rfl⟩) | ((with_reducible refine gate_dst (N := 43) rfl ?_); refine hold ?_))
  refine Kd.event_run (v := .map (some w4.heap.size)) (w1 := w4.alloc (.map #[] 0)) rfl (map_run165 _ _ _ rfl) ?_
  obtain ⟨w5, hw5⟩ : ∃ w5, w5 = w4.alloc (.map #[] 0) := ⟨_, rfl⟩
  obtain ⟨m, hm⟩ : ∃ m, m = w4.heap.size := ⟨_, rfl⟩
  rw [← hw5, ← hm]
  have hb5 : Below w4.heap.size w4 w5 := by rw [hw5]; exact below_alloc (Below.refl _ _) _
  have hmp : w5.heap[m]? = some (.map #[] 0) := by rw [hw5, hm]; exact blk_new w4 _
  have hmge : w.heap.size ≤ m := by rw [hm]; exact B3.out.2.size
  have HM := Aside0.mk (And.intro hmp (And.intro hmge (And.intro (below_step B3.out.1 hb5) (below_step B3.out.2 hb5))))
  clear hw5 hm hb5 hmp hmge
  go_wp2_with ((with_reducible refine gate_dst (N := 45) rfl ?_); refine hold ?_)
  refine box_event rfl (N := 45) rfl (cs := (runCs wp m noB).toArray) (t := 167) (by simp only [runCs, noB, setCs, List.replicate, List.map]; go_simp) ?_
  intro rb hrb w6 hb6 hB6
  have HI0 : Aside0 (DgAt w bn bs rb wp m nn uu (.slice A ls.length c) sn lo hi (tmOf (l.take 0)) noB w6) := by
    have h2 := below_step HM.out.2.2.1 hB6
    have h3 := below_step HM.out.2.2.2 hB6
    refine ⟨h3, blk_below HNS.out.1 h2, blk_below HNS.out.2 h2, hb6, ⟨[], 0, (hB6.block m (blk_lt HM.out.1)).trans HM.out.1, bornOk_nil 0, fun k => by simp [lookL, tmOf]⟩, rfl, by rw [hrb]; exact HM.out.2.2.2.size, HM.out.2.1⟩
  have HNE : Aside0 (rb ≠ bn ∧ rb ≠ bs) := ⟨by
    have h2 := HM.out.2.2.1
    have a := blk_lt (blk_below HNS.out.1 h2)
    have b := blk_lt (blk_below HNS.out.2 h2)
    omega⟩
  clear hrb hb6 hB6 HM HNS HB2 B3
  go_wp2
  go_loopw [48] (fun v wr => ∃ i : Nat, v = .int .i64 i ∧ i ≤ l.length ∧ Aside0 (DgAt w bn bs rb wp m nn uu (.slice A ls.length c) sn lo hi (tmOf (l.take i)) noB wr) ∧ Aside0 (rcErr nn u [] l = rcErr nn u (l.take i) (l.drop i)) ∧ Aside0 (∀ x ∈ l.take i, (0 ≤ x.f0 ∧ x.f0 ≤ (nn : Int) - 1) ∧ 0 ≤ x.f1 ∧ x.f1 ≤ u)) (fun v _ => l.length - (intOf v).toNat)
  case atStart => exact ⟨0, rfl, Nat.zero_le _, HI0, ⟨rfl⟩, ⟨fun x hx => by simp at hx⟩⟩
  case round =>
    obtain ⟨i, rfl, hile, HI, HD, HX⟩ := hrel
    obtain ⟨wo, rfl⟩ : ∃ wo, wo = wr := ⟨_, rfl⟩
    clear HI0
    by_cases hgo : i < l.length
    · have hwi : IntKind.i64.wrap ((i : Int) + 1) = (i : Int) + 1 := by rw [i64_w]; unfold wrap64; omega
      obtain ⟨d, hdd⟩ : ∃ d, d = l[i] := ⟨_, rfl⟩
      have hrd : PB.rd_T41 l (i : Int) = d := by rw [hdd]; simp [PB.rd_T41, List.getElem?_eq_getElem hgo]
      have ea := PB.at_T41 (Kd.C_below HR.out.2.2.1 HI.out.kp) (i : Int) (by omega) (by omega)
      rw [hrd, Int.toNat_natCast] at ea
      obtain ⟨ad, rfl, e0, e1⟩ := ea
      have HDD := Aside0.mk hdd
      obtain ⟨lb, hlb⟩ : ∃ lb, lb = wo.heap.size := ⟨_, rfl⟩
      have hbx : (wo.alloc (.cells #[.int .i64 d.f0, .int .i64 d.f1] 71)).heap[lb]? = some (.cells #[.int .i64 d.f0, .int .i64 d.f1] 71 (0, 0)) := by rw [hlb]; exact blk_new wo _
      have hBx : Below wo.heap.size wo (wo.alloc (.cells #[.int .i64 d.f0, .int .i64 d.f1] 71)) := below_alloc (Below.refl _ _) _
      clear hdd hrd
      go_wp2
      obtain ⟨W1, hW1⟩ : ∃ W1, W1 = wo.alloc (.cells #[.int .i64 d.f0, .int .i64 d.f1] 71) := ⟨_, rfl⟩
      rw [← hW1] at hbx hBx ⊢
      rw [← hlb]
      have HI1 := Aside0.mk (HI.out.keep hBx)
      have HBX := Aside0.mk hbx
      clear hBx hlb hW1 e0 e1 hbx
      obtain ⟨T0, hT0⟩ : ∃ T0, T0 = (tmOf (l.take i) d.f0).getD 0 := ⟨_, rfl⟩
      obtain ⟨B0, hB0⟩ : ∃ B0, B0 = (tmOf (l.take i) d.f0).isSome := ⟨_, rfl⟩
      have c0 : ∀ W, Below W1.heap.size W1 W → W.cell? ⟨lb, 0, none⟩ = some (.int .i64 d.f0) := fun W h => blk_cell (blk_below HBX.out h) 0
      have c1 : ∀ W, Below W1.heap.size W1 W → W.cell? ⟨rb, 1, none⟩ = some (.map (some m)) := fun W h => blk_cell (HI1.out.keep h).blk 1
      have L0 : (Instr.lookup 165 (.map (some m)) (.int .i64 d.f0) true).run Try.prog W1.drew = .ok (.tuple #[.int .i64 T0, .bool B0]) W1.drew := by rw [hT0, hB0]; exact (HI1.out.keep (below_drew1 (Below.refl _ _))).run.look d.f0
      have HTB := Aside0.mk (And.intro hT0 hB0)
      clear hT0 hB0
      go_region_held3 (fun W => Below W1.heap.size W1 W) (first | exact below_drew1 (Below.refl _ _) | exact below_step (by assumption) (by assumption)) (fail)
      rename_i hH
      have HI2 := Aside0.mk (HI1.out.keep hH)
      have HBX2 := Aside0.mk (blk_below HBX.out hH)
      clear c0 c1 L0 hH HI1 HBX
      generalize W1.drew = W2 at HI2 HBX2 ⊢
      have c0 : W2.cell? ⟨lb, 0, none⟩ = some (.int .i64 d.f0) := blk_cell HBX2.out 0
      have c1 : W2.cell? ⟨lb, 1, none⟩ = some (.int .i64 d.f1) := blk_cell HBX2.out 1
      have c2 : W2.cell? ⟨bn, 0, none⟩ = some (.int .i64 nn) := blk_cell HI2.out.net 0
      by_cases hnode : 0 ≤ d.f0 ∧ d.f0 ≤ (nn : Int) - 1
      · have HN := Aside0.mk hnode
        clear hnode
        cases B0
        · have HT : Aside0 (tmOf (l.take i) d.f0 = none) := ⟨by simpa using HTB.out.2.symm⟩
          clear HTB
          by_cases hby : 0 ≤ d.f1 ∧ d.f1 ≤ u
          · have HBY := Aside0.mk hby
            clear hby
            have HSTO := Aside0.mk (HI2.out.store d.f0 d.f1 (tmOf (l.take (i + 1))) (fun j => by rw [List.take_add_one, List.getElem?_eq_getElem hgo, ← HDD.out]; exact tmOf_snoc _ _ HT.out j))
            have HC1 : Aside0 (∀ W, Calls Try.prog 72 #[.int .i64 d.f0, .int .i64 0, .int .i64 ((nn : Int) - 1)] W fun e w' => e = .returned (.bool true) ∧ w' = W) := ⟨fun W => by have := within_same d.f0 0 ((nn : Int) - 1) W; rw [decide_eq_true HN.out] at this; exact this⟩
            have HC2 : Aside0 (∀ W, Calls Try.prog 72 #[.int .i64 d.f1, .int .i64 0, .int .i64 u] W fun e w' => e = .returned (.bool true) ∧ w' = W) := ⟨fun W => by have := within_same d.f1 0 u W; rw [decide_eq_true HBY.out] at this; exact this⟩
            go_wp2_with fail
            refine (HC1.out _).mono ?_
            rintro e w7 ⟨rfl, rfl⟩
            go_wp2_with fail
            refine (HC2.out _).mono ?_
            rintro e w8 ⟨rfl, rfl⟩
            go_wp2
            obtain ⟨w3, hst, hkp, hdg⟩ := HSTO.out
            have hS0 : RSees rb m lb d.f0 d.f1 w8.drew := ⟨blk_cell HI2.out.blk 1, c0, c1⟩
            have hlm : ¬ lb = m := fun e => by
              obtain ⟨L, cl, h5, -⟩ := HI2.out.map
              have := HBX2.out
              rw [e, show w8.heap[m]? = _ from h5] at this
              cases this
            have hbx3 := hkp.blk HBX2.out hlm
            have hS3 : RSees rb m lb d.f0 d.f1 w3 := ⟨blk_cell hdg.blk 1, blk_cell hbx3 0, blk_cell hbx3 1⟩
            have HDG := Aside0.mk hdg
            have HRC2 : Aside0 (rcErr nn u [] l = rcErr nn u (l.take (i + 1)) (l.drop (i + 1))) := ⟨by
              rw [HD.out]
              have hT := HT.out
              have hN := HN.out
              have hB := HBY.out
              rw [HDD.out] at hT hN hB
              exact rcErr_step hgo hN hT hB⟩
            have HX2 : Aside0 (∀ x ∈ l.take (i + 1), (0 ≤ x.f0 ∧ x.f0 ≤ (nn : Int) - 1) ∧ 0 ≤ x.f1 ∧ x.f1 ≤ u) := ⟨by
              intro x hx
              rw [List.take_add_one, List.getElem?_eq_getElem hgo] at hx
              rcases List.mem_append.1 hx with h | h
              · exact HX.out x h
              · rw [Option.toList_some, List.mem_singleton, ← HDD.out] at h
                rw [h]
                exact ⟨HN.out, HBY.out⟩⟩
            have K0 : ∀ W, RSees rb m lb d.f0 d.f1 W → W.cell? ⟨rb, 1, none⟩ = some (.map (some m)) := fun W h => h.1
            have K1 : ∀ W, RSees rb m lb d.f0 d.f1 W → W.cell? ⟨lb, 0, none⟩ = some (.int .i64 d.f0) := fun W h => h.2.1
            have K2 : ∀ W, RSees rb m lb d.f0 d.f1 W → W.cell? ⟨lb, 1, none⟩ = some (.int .i64 d.f1) := fun W h => h.2.2
            clear hkp hdg hbx3 hlm c0 c1 c2
            go_region_held3 (fun W => RSees rb m lb d.f0 d.f1 W) (first | assumption) (fail)
            go_wp2
            go_roundw
            case rel => exact ⟨i + 1, by go_num, by omega, HDG, HRC2, HX2⟩
            case measure => simp [intOf]; omega
          · have HBY := Aside0.mk hby
            clear hby
            have HC1 : Aside0 (∀ W, Calls Try.prog 72 #[.int .i64 d.f0, .int .i64 0, .int .i64 ((nn : Int) - 1)] W fun e w' => e = .returned (.bool true) ∧ w' = W) := ⟨fun W => by have := within_same d.f0 0 ((nn : Int) - 1) W; rw [decide_eq_true HN.out] at this; exact this⟩
            have HC2 : Aside0 (∀ W, Calls Try.prog 72 #[.int .i64 d.f1, .int .i64 0, .int .i64 u] W fun e w' => e = .returned (.bool false) ∧ w' = W) := ⟨fun W => by have := within_same d.f1 0 u W; rw [decide_eq_false HBY.out] at this; exact this⟩
            have HFIN : Aside0 (diagE nn uu ls sn lo hi l u = 3) := ⟨by
              have hT := HT.out
              have hN := HN.out
              have hB := HBY.out
              rw [HDD.out] at hT hN hB
              exact HRC.out 3 (by rw [HD.out]; exact rcErr_time hgo hN hT hB) (by decide)⟩
            go_wp2_with fail
            refine (HC1.out _).mono ?_
            rintro e w7 ⟨rfl, rfl⟩
            go_wp2_with fail
            refine (HC2.out _).mono ?_
            rintro e w8 ⟨rfl, rfl⟩
            go_wp2
            go_ret3
            exact DiagPost.fail HI2.out.kp HFIN.out (by decide)
        · have HT : Aside0 ((tmOf (l.take i) d.f0).isSome = true) := ⟨HTB.out.2.symm⟩
          clear HTB
          have HC1 : Aside0 (∀ W, Calls Try.prog 72 #[.int .i64 d.f0, .int .i64 0, .int .i64 ((nn : Int) - 1)] W fun e w' => e = .returned (.bool true) ∧ w' = W) := ⟨fun W => by have := within_same d.f0 0 ((nn : Int) - 1) W; rw [decide_eq_true HN.out] at this; exact this⟩
          have HFIN : Aside0 (diagE nn uu ls sn lo hi l u = 5) := ⟨by
            have hT := HT.out
            have hN := HN.out
            rw [HDD.out] at hT hN
            exact HRC.out 5 (by rw [HD.out]; exact rcErr_twice hgo hN hT) (by decide)⟩
          go_wp2_with fail
          refine (HC1.out _).mono ?_
          rintro e w7 ⟨rfl, rfl⟩
          go_wp2
          go_ret3
          exact DiagPost.fail HI2.out.kp HFIN.out (by decide)
      · have HN := Aside0.mk hnode
        clear hnode
        have HC1 : Aside0 (∀ W, Calls Try.prog 72 #[.int .i64 d.f0, .int .i64 0, .int .i64 ((nn : Int) - 1)] W fun e w' => e = .returned (.bool false) ∧ w' = W) := ⟨fun W => by have := within_same d.f0 0 ((nn : Int) - 1) W; rw [decide_eq_false HN.out] at this; exact this⟩
        have HFIN : Aside0 (diagE nn uu ls sn lo hi l u = 4) := ⟨by
          have hN := HN.out
          rw [HDD.out] at hN
          exact HRC.out 4 (by rw [HD.out]; exact rcErr_none hgo hN) (by decide)⟩
        go_wp2_with fail
        refine (HC1.out _).mono ?_
        rintro e w7 ⟨rfl, rfl⟩
        go_wp2
        go_ret3
        exact DiagPost.fail HI2.out.kp HFIN.out (by decide)
    · obtain rfl : i = l.length := by omega
      have hHI := HI.out
      have hD := HD.out
      have hX := HX.out
      rw [List.take_length] at hHI hX hD
      rw [List.drop_length] at hD
      have HG := Aside0.mk hHI
      have HRE : Aside0 (diagE nn uu ls sn lo hi l u = runErr ls sn lo hi l u) := ⟨HRO.out hD⟩
      have HTM : Aside0 (∀ k t, tmOf l k = some t → 0 ≤ t ∧ t ≤ 1000000000) := ⟨fun k t ht => by
        obtain ⟨x, hx, -, e⟩ := tmOf_mem ht
        have := (hX x hx).2
        have := HU0.out
        omega⟩
      have HND : Aside0 (∀ x ∈ l, 0 ≤ x.f0 ∧ x.f0 ≤ (nn : Int) - 1) := ⟨fun x hx => (hX x hx).1⟩
      clear hile hgo HI HD HX hHI hD hX HRC HRO
      obtain ⟨T0, hT0⟩ : ∃ T0, T0 = (tmOf l sn).getD 0 := ⟨_, rfl⟩
      obtain ⟨B0, hB0⟩ : ∃ B0, B0 = (tmOf l sn).isSome := ⟨_, rfl⟩
      have c0 : ∀ W, Below wo.heap.size wo W → W.cell? ⟨bs, 0, none⟩ = some (.int .i64 sn) := fun W h => blk_cell (HG.out.keep h).st 0
      have c1 : ∀ W, Below wo.heap.size wo W → W.cell? ⟨rb, 1, none⟩ = some (.map (some m)) := fun W h => blk_cell (HG.out.keep h).blk 1
      have L0 : (Instr.lookup 165 (.map (some m)) (.int .i64 sn) true).run Try.prog wo.drew = .ok (.tuple #[.int .i64 T0, .bool B0]) wo.drew := by rw [hT0, hB0]; exact (HG.out.keep (below_drew1 (Below.refl _ _))).run.look sn
      have HTB := Aside0.mk (And.intro hT0 hB0)
      clear hT0 hB0
      go_wp2
      go_region_held3 (fun W => Below wo.heap.size wo W) (first | exact below_drew1 (Below.refl _ _) | exact below_step (by assumption) (by assumption)) (fail)
      rename_i hH
      have HG2 := Aside0.mk (HG.out.keep hH)
      clear c0 c1 L0 hH
      generalize wo.drew = W2 at HG2 ⊢
      cases B0
      · have HFIN : Aside0 (diagE nn uu ls sn lo hi l u = 2) := ⟨by
          have : tmOf l sn = none := by simpa using HTB.out.2.symm
          rw [HRE.out]; unfold runErr; rw [this]⟩
        go_wp2
        go_ret3
        exact DiagPost.fail HG2.out.kp HFIN.out (by decide)
      · have hT : tmOf l sn = some T0 := by
          obtain ⟨t, ht⟩ := Option.isSome_iff_exists.1 HTB.out.2.symm
          have := HTB.out.1
          rw [ht] at this ⊢
          rw [this]; rfl
        have HT := Aside0.mk hT
        have c1 : W2.cell? ⟨bs, 1, none⟩ = some (.int .i64 lo) := blk_cell HG2.out.st 1
        have c2 : W2.cell? ⟨bs, 2, none⟩ = some (.int .i64 hi) := blk_cell HG2.out.st 2
        clear hT HTB
        by_cases hin : lo ≤ T0 ∧ T0 ≤ hi
        · have HIN := Aside0.mk hin
          have HC1 : Aside0 (∀ W, Calls Try.prog 72 #[.int .i64 T0, .int .i64 lo, .int .i64 hi] W fun e w' => e = .returned (.bool true) ∧ w' = W) := ⟨fun W => by have := within_same T0 lo hi W; rw [decide_eq_true hin] at this; exact this⟩
          clear hin
          go_wp2_with fail
          refine (HC1.out _).mono ?_
          rintro e w7 ⟨rfl, rfl⟩
          have c3 : w7.cell? ⟨bn, 2, none⟩ = some (.slice A ls.length c) := blk_cell HG2.out.net 2
          have HLEN := Aside0.mk HO.out.net.len
          clear c1 c2
          go_wp2
          clear c3
          have HI0 : Aside0 (DgAt w bn bs rb wp m nn uu (.slice A ls.length c) sn lo hi (tmOf l) (failB (silU (tmOf l) sn u (ls.take 0))) w7) := ⟨HG2.out⟩
          go_loopw [113] (fun v wr => ∃ i : Nat, v = .int .i64 i ∧ i ≤ ls.length ∧ Aside0 (DgAt w bn bs rb wp m nn uu (.slice A ls.length c) sn lo hi (tmOf l) (failB (silU (tmOf l) sn u (ls.take i))) wr) ∧ Aside0 (∀ v ∈ silU (tmOf l) sn u (ls.take i), 0 ≤ v)) (fun v _ => ls.length - (intOf v).toNat)
          case atStart => exact ⟨0, rfl, Nat.zero_le _, HI0, ⟨fun x hx => by simp [silU] at hx⟩⟩
          case round =>
            obtain ⟨i, rfl, hile, HI, HS⟩ := hrel
            clear HI0
            obtain ⟨wo, rfl⟩ : ∃ wo, wo = wr := ⟨_, rfl⟩
            by_cases hgo : i < ls.length
            · obtain ⟨x, hx⟩ : ∃ x, x = ls[i] := ⟨_, rfl⟩
              have HL := Aside0.mk hx
              clear hx
              have hrd : PB.rd_T88 ls (i : Int) = x := by rw [HL.out]; simp [PB.rd_T88, List.getElem?_eq_getElem hgo]
              have ea := PB.at_T88 (Kd.C_below HR.out.1 HI.out.kp) (i : Int) (by omega) (by omega)
              rw [hrd, Int.toNat_natCast] at ea
              obtain ⟨ad, rfl, e0, e1, e2, e3, e4, e5⟩ := ea
              clear hrd
              have hi256 : i < 256 := by have := HLEN.out; omega
              have hwi : IntKind.i64.wrap ((i : Int) + 1) = (i : Int) + 1 := by rw [i64_w]; unfold wrap64; omega
              obtain ⟨lb, hlb⟩ : ∃ lb, lb = wo.heap.size := ⟨_, rfl⟩
              have hbx : (wo.alloc (.cells #[.int .i64 x.f0, .int .i64 x.f1, .int .i64 x.f2.f0, .int .i64 x.f2.f1, .int .i64 x.f3, .bool x.f4] 88)).heap[lb]? = some (.cells #[.int .i64 x.f0, .int .i64 x.f1, .int .i64 x.f2.f0, .int .i64 x.f2.f1, .int .i64 x.f3, .bool x.f4] 88 (0, 0)) := by rw [hlb]; exact blk_new wo _
              have hBx : Below wo.heap.size wo (wo.alloc (.cells #[.int .i64 x.f0, .int .i64 x.f1, .int .i64 x.f2.f0, .int .i64 x.f2.f1, .int .i64 x.f3, .bool x.f4] 88)) := below_alloc (Below.refl _ _) _
              go_wp2_with ((with_reducible refine gate_dst (N := 117) rfl ?_); refine hold ?_)
              apply unhold
              obtain ⟨W1, hW1⟩ : ∃ W1, W1 = wo.alloc (.cells #[.int .i64 x.f0, .int .i64 x.f1, .int .i64 x.f2.f0, .int .i64 x.f2.f1, .int .i64 x.f3, .bool x.f4] 88) := ⟨_, rfl⟩
              rw [← hW1] at hbx hBx ⊢
              rw [← hlb]
              have HI1 := Aside0.mk (HI.out.keep hBx)
              have HBX := Aside0.mk hbx
              clear hBx hlb hW1 e0 e1 e2 e3 e4 e5
              have hbs1 := HI1.out.st
              have f0 : W1.cell? ⟨lb, 0, none⟩ = some (.int .i64 x.f0) := blk_cell hbx 0
              have f1 : W1.cell? ⟨lb, 1, none⟩ = some (.int .i64 x.f1) := blk_cell hbx 1
              have f2 : W1.cell? ⟨lb, 2, none⟩ = some (.int .i64 x.f2.f0) := blk_cell hbx 2
              have f3 : W1.cell? ⟨lb, 3, none⟩ = some (.int .i64 x.f2.f1) := blk_cell hbx 3
              have f4 : W1.cell? ⟨lb, 4, none⟩ = some (.int .i64 x.f3) := blk_cell hbx 4
              have f5 : W1.cell? ⟨lb, 5, none⟩ = some (.bool x.f4) := blk_cell hbx 5
              have f6 : W1.cell? ⟨bs, 0, none⟩ = some (.int .i64 sn) := blk_cell hbs1 0
              have hxm : x ∈ ls := by rw [HL.out]; exact List.getElem_mem hgo
              have hlk := HO.out.net.links x hxm
              have hu2 := HO.out.net.u2
              have HLK := Aside0.mk (And.intro hlk hu2)
              have hsnoc := silU_snoc (tmOf l) sn u (ls.take i) x
              rw [show ls.take i ++ [x] = ls.take (i + 1) by rw [HL.out]; exact (take_snoc ls i hgo).symm] at hsnoc
              have HSN := Aside0.mk hsnoc
              clear hbx hbs1 hxm hlk hu2 hsnoc
              by_cases hto : x.f1 = sn
              · have hq : (x.f1 == sn) = true := by simpa using hto
                have HE2 : Aside0 (silU (tmOf l) sn u (ls.take (i + 1)) = silU (tmOf l) sn u (ls.take i)) := ⟨by rw [HSN.out, if_neg (fun h => h.1 hto)]⟩
                clear hto
                have HI2 : Aside0 (DgAt w bn bs rb wp m nn uu (.slice (some ad) ls.length c) sn lo hi (tmOf l) (failB (silU (tmOf l) sn u (ls.take (i + 1)))) W1) := ⟨by rw [HE2.out]; exact HI1.out⟩
                have HS2 : Aside0 (∀ v ∈ silU (tmOf l) sn u (ls.take (i + 1)), 0 ≤ v) := ⟨by rw [HE2.out]; exact HS.out⟩
                go_wp2
                go_roundw
                case rel => exact ⟨i + 1, by go_num, by omega, HI2, HS2⟩
                case measure => simp [intOf]; omega
              · have hq : (x.f1 == sn) = false := by simpa using hto
                have HTO := Aside0.mk hto
                obtain ⟨b, hb⟩ : ∃ b, b = silentB (tmOf l) x u := ⟨_, rfl⟩
                have HC75 : Aside0 (∀ W, Below W1.heap.size W1 W → Calls Try.prog 75 #[.pointer (some ⟨rb, 0, none⟩), .agg #[.int .i64 x.f0, .int .i64 x.f1, .int .i64 x.f2.f0, .int .i64 x.f2.f1, .int .i64 x.f3, .bool x.f4], .int .i64 u] W fun e w' => e = .returned (.bool b) ∧ Below W.heap.size W w') := ⟨fun W h => by
                  rw [hb]
                  have ht := HLK.out.1.2.2.2.2
                  unfold timedP at ht
                  exact silent_calls rb wp m (tmOf l) _ x u W (HI1.out.keep h).run HTM.out (by omega)⟩
                have HB := Aside0.mk hb
                clear hto hb
                go_wp2_with fail
                refine (HC75.out _ (Below.refl _ _)).mono ?_
                rintro e w8 ⟨rfl, hb8⟩
                have HI2 := Aside0.mk (HI1.out.keep hb8)
                have HBX2 := Aside0.mk (blk_below HBX.out hb8)
                clear f0 f1 f2 f3 f4 f5 f6 hb8
                cases b
                · have HE2 : Aside0 (silU (tmOf l) sn u (ls.take (i + 1)) = silU (tmOf l) sn u (ls.take i)) := ⟨by rw [HSN.out, if_neg (fun h => by rw [← HB.out] at h; exact absurd h.2 (by decide))]⟩
                  have HI3 : Aside0 (DgAt w bn bs rb wp m nn uu (.slice (some ad) ls.length c) sn lo hi (tmOf l) (failB (silU (tmOf l) sn u (ls.take (i + 1)))) w8) := ⟨by rw [HE2.out]; exact HI2.out⟩
                  have HS2 : Aside0 (∀ v ∈ silU (tmOf l) sn u (ls.take (i + 1)), 0 ≤ v) := ⟨by rw [HE2.out]; exact HS.out⟩
                  go_wp2
                  go_roundw
                  case rel => exact ⟨i + 1, by go_num, by omega, HI3, HS2⟩
                  case measure => simp [intOf]; omega
                · have HE2 : Aside0 (silU (tmOf l) sn u (ls.take (i + 1)) = silU (tmOf l) sn u (ls.take i) ++ [x.f3]) := ⟨by rw [HSN.out, if_pos ⟨HTO.out, HB.out.symm⟩]⟩
                  have g4 : w8.cell? ⟨lb, 4, none⟩ = some (.int .i64 x.f3) := blk_cell HBX2.out 4
                  by_cases hneg : x.f3 < 0
                  · have HFIN : Aside0 (diagE nn uu ls sn lo hi l u = 14) := ⟨by
                      rw [HRE.out]; unfold runErr; rw [HT.out]
                      show (if lo ≤ T0 ∧ T0 ≤ hi then _ else _) = _
                      rw [if_pos HIN.out]
                      refine if_neg (fun hall => ?_)
                      have := hall x.f3 ?_
                      · omega
                      · have hmem : x.f3 ∈ silU (tmOf l) sn u (ls.take (i + 1)) := by rw [HE2.out]; simp
                        unfold silU at hmem ⊢
                        obtain ⟨y, hy, e⟩ := List.mem_map.1 hmem
                        obtain ⟨h1, h2⟩ := List.mem_filter.1 hy
                        exact List.mem_map.2 ⟨y, List.mem_filter.2 ⟨List.mem_of_mem_take h1, h2⟩, e⟩⟩
                    go_wp2
                    go_ret3
                    exact DiagPost.fail HI2.out.kp HFIN.out (by decide)
                  · obtain ⟨un, hun⟩ : ∃ un : Nat, (un : Int) = x.f3 := ⟨x.f3.toNat, by omega⟩
                    have hun20 : un < 20 := by have := HLK.out; omega
                    have HI3 : Aside0 (DgAt w bn bs rb wp m nn uu (.slice (some ad) ls.length c) sn lo hi (tmOf l) (failB (silU (tmOf l) sn u (ls.take (i + 1)))) (w8.setCell ⟨rb, 2 + un, none⟩ (.bool true))) := ⟨by
                      have := HI2.out.mark un HNE.out.1 HNE.out.2
                      rw [HE2.out]
                      unfold failB at this ⊢
                      rw [setUs_snoc, ← hun]
                      exact this⟩
                    have HS2 : Aside0 (∀ v ∈ silU (tmOf l) sn u (ls.take (i + 1)), 0 ≤ v) := ⟨by
                      rw [HE2.out]
                      intro v hv
                      rcases List.mem_append.1 hv with h | h
                      · exact HS.out v h
                      · rw [List.mem_singleton] at h
                        omega⟩
                    have g5 : ∃ bb, w8.cell? ⟨rb, 2 + un, none⟩ = some (.bool bb) := by
                      have hl := HI2.out.len
                      have := runCs_get wp m (failB (silU (tmOf l) sn u (ls.take i))) un (by rw [hl]; exact hun20)
                      exact ⟨_, by rw [blk_cell HI2.out.blk (2 + un)]; simpa using this⟩
                    obtain ⟨bb, g5⟩ := g5
                    have g6 : w8.frozen? ⟨rb, 2 + un, none⟩ = false := blk_frozen HI2.out.blk (2 + un)
                    rw [← hun] at g4
                    clear hun hneg
                    go_wp2
                    go_region
                    have HI4 := Aside0.mk (HI3.out.keep (below_drew1 (Below.refl _ _)))
                    clear HI3 g4 g5 g6
                    go_wp2
                    go_roundw
                    case rel => exact ⟨i + 1, by go_num, by omega, HI4, HS2⟩
                    case measure => simp [intOf]; omega
            · obtain rfl : i = ls.length := by omega
              have hHI := HI.out
              have hS := HS.out
              rw [List.take_length] at hHI hS
              have HG3 : Aside0 (DgAt w bn bs rb wp m nn uu (.slice A ls.length c) sn lo hi (tmOf l) (dFail ls sn l u) wo) := ⟨hHI⟩
              have HRE2 : Aside0 (diagE nn uu ls sn lo hi l u = if ∀ x ∈ l, x.f0 ≠ sn → brU (tmOf l) (dFail ls sn l u) x.f0 ls ≠ [] then 0 else 14) := ⟨by
                rw [HRE.out]; unfold runErr; rw [HT.out]
                show (if lo ≤ T0 ∧ T0 ≤ hi then _ else _) = _
                rw [if_pos HIN.out, if_pos hS]⟩
              clear hile hgo HI HS hHI hS HRE HG HG2 HC1
              go_wp2_with ((with_reducible refine gate_dst (N := 21) rfl ?_); refine hold ?_)
              refine Kd.event_run (v := .pointer (some ⟨wo.heap.size, 0, none⟩)) (w1 := wo.alloc (.cells (setCs noB).toArray 144 (0, 0))) rfl (alloc_run144 _ _ _ rfl) ?_
              obtain ⟨W1, hW1⟩ : ∃ W1, W1 = wo.alloc (.cells (setCs noB).toArray 144 (0, 0)) := ⟨_, rfl⟩
              obtain ⟨gb, hgb⟩ : ∃ gb, gb = wo.heap.size := ⟨_, rfl⟩
              rw [← hW1, ← hgb]
              have hb1 : Below wo.heap.size wo W1 := by rw [hW1]; exact below_alloc (Below.refl _ _) _
              have hgood : W1.heap[gb]? = some (.cells (setCs noB).toArray 144 (0, 0)) := by rw [hW1, hgb]; exact blk_new wo _
              have HG4 := Aside0.mk (And.intro (HG3.out.keep hb1) (And.intro hgood (And.intro (show w.heap.size ≤ gb by rw [hgb]; exact HG3.out.kp.size) (show gb ≠ bn ∧ gb ≠ bs ∧ gb ≠ rb by
                have a := blk_lt HG3.out.net
                have b := blk_lt HG3.out.st
                have d := blk_lt HG3.out.blk
                omega))))
              have c1 : W1.cell? ⟨rb, 1, none⟩ = some (.map (some m)) := blk_cell HG4.out.1.blk 1
              clear hW1 hgb hb1 hgood HG3
              go_wp2_with ((with_reducible refine gate_dst (N := 143) rfl ?_); refine hold ?_)
              obtain ⟨L, cl, hmp, hborn, hlook⟩ := HG4.out.1.map
              refine Kd.event_run (v := .pointer (some ⟨W1.heap.size, 0, none⟩)) (w1 := W1.alloc (.mapIter (some m) cl #[] cl)) rfl (range_run165 _ _ _ _ m L cl rfl (by go_simp) hmp) ?_
              obtain ⟨W2, hW2⟩ : ∃ W2, W2 = W1.alloc (.mapIter (some m) cl #[] cl) := ⟨_, rfl⟩
              obtain ⟨r, hr⟩ : ∃ r, r = W1.heap.size := ⟨_, rfl⟩
              rw [← hW2, ← hr]
              have HI0 : Aside0 (GInv w bn bs rb wp m gb r cl nn uu (.slice A ls.length c) sn lo hi (tmOf l) (dFail ls sn l u) ls L [] [] W2) := ⟨by
                have hb : Below W1.heap.size W1 W2 := by rw [hW2]; exact below_alloc (Below.refl _ _) _
                refine ⟨HG4.out.1.keep hb, (hb.block m (blk_lt hmp)).trans hmp, hborn, hlook, blk_below HG4.out.2.1 hb, ?_, fun _ h => by simp at h, fun _ h => by simp at h, HG4.out.2.2.1, by rw [hr]; exact HG4.out.1.kp.size⟩
                rw [hW2, hr]
                exact iterAt_new W1 m cl⟩
              have HNE2 := Aside0.mk HG4.out.2.2.2
              clear hW2 hr hmp hborn hlook HG4 c1
              go_wp2
              go_frame
              go_loopw [] (fun wr => ∃ V : List Ent, Aside0 (GInv w bn bs rb wp m gb r cl nn uu (.slice A ls.length c) sn lo hi (tmOf l) (dFail ls sn l u) ls L V (V.map (·.2.2)) wr)) (fun wr => leftN L (seenOf wr r))
              case atStart => exact ⟨[], HI0⟩
              case round =>
                obtain ⟨V, HI⟩ := hrel
                clear HI0
                obtain ⟨wo, rfl⟩ : ∃ wo, wo = wr := ⟨_, rfl⟩
                rcases run_next_ent wo 0 r m L cl (V.map (·.2.2)) HI.out.mp HI.out.born HI.out.it with ⟨hall, hnx⟩ | ⟨x, hxL, hxn, wa, wb, hwa, hnx, hkp, hsz, hit, hen⟩
                · obtain ⟨hwork, hok⟩ := HI.out.work hall
                  have HEZ : Aside0 (diagE nn uu ls sn lo hi l u = 0) := ⟨by rw [HRE2.out, if_pos hok]⟩
                  obtain ⟨GB, hGB⟩ : ∃ GB, GB = dWork ls sn l u := ⟨_, rfl⟩
                  obtain ⟨FB, hFB⟩ : ∃ FB, FB = dFail ls sn l u := ⟨_, rfl⟩
                  have hg := HI.out.good
                  have hf := HI.out.dg.blk
                  have hfl := HI.out.dg.len
                  have hgl : GB.length = 20 := by rw [hGB]; unfold dWork; rw [setUs_len]; rfl
                  rw [hwork, ← hGB] at hg
                  rw [← hFB] at hf hfl
                  have hr1 : wo.rangeAt gb 0 (setCs GB) := fun j v hj => by
                    rw [blk_cell hg (0 + j)]
                    simpa using hj
                  have hr2 : wo.rangeAt rb 2 (setCs FB) := fun j v hj => by
                    rw [blk_cell hf (2 + j)]
                    simp only [List.getElem?_toArray]
                    rw [runCs, show 2 + j = j + 1 + 1 by omega, List.getElem?_cons_succ, List.getElem?_cons_succ]
                    exact hj
                  have HRS := Aside0.mk (And.intro hr1 hr2)
                  have HGF := Aside0.mk (And.intro hGB hFB)
                  have HLG : Aside0 (∀ W, Calls Try.prog 79 #[.agg (setCs GB).toArray] W fun e w' => ∃ v, e = .returned v ∧ w'.ownsRow W.heap.size 3 1 v (listB GB).length (ints (listB GB)) ∧ Below W.heap.size W w') := ⟨fun W => list_calls GB W hgl⟩
                  have HLF : Aside0 (∀ W, Calls Try.prog 79 #[.agg (setCs FB).toArray] W fun e w' => ∃ v, e = .returned v ∧ w'.ownsRow W.heap.size 3 1 v (listB FB).length (ints (listB FB)) ∧ Below W.heap.size W w') := ⟨fun W => list_calls FB W hfl⟩
                  have hu144 := Try.underlying144
                  have hi144 : (Try.prog.info? 144).map (·.size) = some (setCs GB).length := by rw [setCs_length, hgl]; exact info144
                  have hj144 : (Try.prog.info? 144).map (·.size) = some (setCs FB).length := by rw [setCs_length, hfl]; exact info144
                  clear hwork hok hGB hFB hg hf hfl hgl hr1 hr2 hall
                  go_wp2
                  have HSX : Aside0 (∀ W, Below wo.heap.size wo W → Below wo.heap.size wo W ∧ (W.rangeAt gb 0 (setCs GB) ∧ W.rangeAt rb 2 (setCs FB))) := ⟨fun W h => ⟨h, range_below HRS.out.1 h, range_below HRS.out.2 h⟩⟩
                  refine wp_region_held_drew (S := (fun W => Below wo.heap.size wo W ∧ (W.rangeAt gb 0 (setCs GB) ∧ W.rangeAt rb 2 (setCs FB)))) (by kernel_rfl) (HSX.out _ (below_drew1 (Below.refl _ _))) (fun hS => ?_)
                  refine wpAnyH_take (i := 0) (v := .agg (setCs GB).toArray) rfl (by kernel_rfl) (by kernel_rfl) (by kernel_rfl) (fun _ _ _ h => h) (yieldsIf_load_mid (by rfl) _ _ rfl gb 0 rfl (setCs GB) _ (fun w h => h.2.1) Try.underlying144 rfl hi144) hS ?_
                  try simp only [Act.put, List.setIfInBounds_toArray, List.set_cons_zero, List.set_cons_succ]
                  refine wpAnyH_take (i := 2) (v := .pointer (some ⟨rb, 0, none⟩)) rfl (by kernel_rfl) (by kernel_rfl) (by kernel_rfl) (fun _ _ _ h => h) (Or.inl ⟨by rfl, fun Wx hSx => by go_simp⟩) hS ?_
                  try simp only [Act.put, List.setIfInBounds_toArray, List.set_cons_zero, List.set_cons_succ]
                  refine wpAnyH_take (i := 3) (v := .pointer (some ⟨rb, 0, none⟩)) rfl (by kernel_rfl) (by kernel_rfl) (by kernel_rfl) (fun _ _ _ h => h) (Or.inl ⟨by rfl, fun Wx hSx => by go_simp⟩) hS ?_
                  try simp only [Act.put, List.setIfInBounds_toArray, List.set_cons_zero, List.set_cons_succ]
                  refine wpAnyH_take (i := 4) (v := .pointer (some ⟨rb, 2, none⟩)) rfl (by kernel_rfl) (by kernel_rfl) (by kernel_rfl) (fun _ _ _ h => h) (Or.inl ⟨by rfl, fun Wx hSx => by go_simp⟩) hS ?_
                  try simp only [Act.put, List.setIfInBounds_toArray, List.set_cons_zero, List.set_cons_succ]
                  refine wpAnyH_take (i := 5) (v := .agg (setCs FB).toArray) rfl (by kernel_rfl) (by kernel_rfl) (by kernel_rfl) (fun _ _ _ h => h) (yieldsIf_load_mid (by rfl) _ _ rfl rb 2 rfl (setCs FB) _ (fun w h => h.2.2) Try.underlying144 rfl hj144) hS ?_
                  try simp only [Act.put, List.setIfInBounds_toArray, List.set_cons_zero, List.set_cons_succ]
                  refine wpAnyH_ready (rs := [1]) (by kernel_rfl) (by simp) ?_
                  refine AllReadyH.cons rfl (fun K hK => ?_) AllReadyH.nil
                  go_simp
                  refine (HLG.out _).mono ?_
                  rintro e wg ⟨vg, rfl, hvg, hbg⟩
                  have HVG := Aside0.mk (And.intro hvg hbg)
                  refine hK.out _ _ (HSX.out _ (below_step hS.1 hbg)) (fun hS2 => ?_)
                  clear hK K hvg hbg
                  have HB1 := Aside0.mk hS
                  clear hS
                  have hS := hS2
                  clear hS2
                  try simp only [Act.put, List.setIfInBounds_toArray, List.set_cons_zero, List.set_cons_succ]
                  refine wpAnyH_ready (rs := [6]) (by kernel_rfl) (by simp) ?_
                  refine AllReadyH.cons rfl (fun K hK => ?_) AllReadyH.nil
                  go_simp
                  refine (HLF.out _).mono ?_
                  rintro e wf ⟨vf, rfl, hvf, hbf⟩
                  have HVF := Aside0.mk (And.intro hvf hbf)
                  refine hK.out _ _ (HSX.out _ (below_step hS.1 hbf)) (fun hS2 => ?_)
                  clear hK K hvf hbf
                  have HB2 := Aside0.mk hS
                  clear hS
                  have hS := hS2
                  clear hS2
                  try simp only [Act.put, List.setIfInBounds_toArray, List.set_cons_zero, List.set_cons_succ]
                  refine wpAnyH_take (i := 7) (oi := ⟨some 8, _, _, _, _, _⟩) (v := vg) rfl (by kernel_rfl) (by kernel_rfl) (by kernel_rfl) (fun _ _ _ h => h) (Or.inl ⟨by rfl, fun Wx hSx => by go_simp⟩) hS ?_
                  try simp only [Act.put, List.setIfInBounds_toArray, List.set_cons_zero, List.set_cons_succ]
                  refine wpAnyH_take (i := 8) (oi := ⟨some 9, _, _, _, _, _⟩) (v := vf) rfl (by kernel_rfl) (by kernel_rfl) (by kernel_rfl) (fun _ _ _ h => h) (Or.inl ⟨by rfl, fun Wx hSx => by go_simp⟩) hS ?_
                  try simp only [Act.put, List.setIfInBounds_toArray, List.set_cons_zero, List.set_cons_succ]
                  refine wpAnyH_take (i := 9) (oi := ⟨some 10, _, _, _, _, _⟩) (v := .int .i64 0) rfl (by kernel_rfl) (by kernel_rfl) (by kernel_rfl) (fun _ _ _ h => h) (Or.inl ⟨by rfl, fun Wx hSx => by go_simp⟩) hS ?_
                  try simp only [Act.put, List.setIfInBounds_toArray, List.set_cons_zero, List.set_cons_succ]
                  refine wpAnyH_done (by kernel_rfl) ?_ _
                  have HB3 := Aside0.mk hS.1
                  clear hS hu144 hi144 hj144
                  go_wp2
                  go_ret3
                  refine ⟨below_step HI.out.dg.kp HB3.out, .inr ⟨HEZ.out, vg, vf, rfl, ?_, ?_⟩⟩
                  · rw [← HGF.out.1]
                    have := HVG.out.1
                    refine own_less (own_move this (fun k hk => HVF.out.2.block k (own_lt this k hk))) ?_
                    exact Nat.le_trans HI.out.dg.kp.size HB1.out.1.size
                  · rw [← HGF.out.2]
                    refine own_less HVF.out.1 ?_
                    exact Nat.le_trans HI.out.dg.kp.size HB2.out.1.size
                · have HX := Aside0.mk (And.intro hxL hxn)
                  have HJ := Aside0.mk (HI.out.next (V.map (·.2.2) ++ [x.2.2]) wa hwa hkp hit)
                  have HLESS := Aside0.mk (And.intro HI.out.it.seen hit.seen)
                  have hen' := hen
                  clear hwa hkp hsz hit hxL hxn hen'
                  have c0 : wb.cell? ⟨bs, 0, none⟩ = some (.int .i64 sn) := blk_cell HJ.out.dg.st 0
                  by_cases hs : x.1 = sn
                  · have hq : (x.1 == sn) = true := by simpa using hs
                    have HJ2 : Aside0 (GInv w bn bs rb wp m gb r cl nn uu (.slice A ls.length c) sn lo hi (tmOf l) (dFail ls sn l u) ls L (V ++ [x]) ((V ++ [x]).map (·.2.2)) wb) := ⟨by
                      rw [List.map_append]
                      exact HJ.out.pass x HX.out.1 (by unfold goodU; rw [if_pos hs]) (fun h => absurd hs h)⟩
                    clear hs
                    go_wp2
                    exact ⟨⟨V ++ [x], HJ2⟩, by rw [HLESS.out.1, HLESS.out.2]; exact leftN_less HX.out.1 HX.out.2⟩
                  · have hq : (x.1 == sn) = false := by simpa using hs
                    have HSN := Aside0.mk hs
                    have c1 : wb.cell? ⟨bn, 2, none⟩ = some (.slice A ls.length c) := blk_cell HJ.out.dg.net 2
                    clear hs
                    go_wp2
                    clear c0 c1 hnx hen
                    have HK0 : Aside0 (Below wb.heap.size wb wb ∧ wb.ownsRow wb.heap.size 3 1 (.slice none 0 0) (brU (tmOf l) (dFail ls sn l u) x.1 (ls.take 0)).length (ints (brU (tmOf l) (dFail ls sn l u) x.1 (ls.take 0)))) := ⟨Below.refl _ _, rfl, .inl ⟨rfl, rfl⟩⟩
                    go_loopw [23, 155] (fun vs v wr => ∃ j : Nat, v = .int .i64 j ∧ j ≤ ls.length ∧ Aside0 (Below wb.heap.size wb wr ∧ wr.ownsRow wb.heap.size 3 1 vs (brU (tmOf l) (dFail ls sn l u) x.1 (ls.take j)).length (ints (brU (tmOf l) (dFail ls sn l u) x.1 (ls.take j))))) (fun _ v _ => ls.length - (intOf v).toNat)
                    case atStart => exact ⟨0, rfl, Nat.zero_le _, HK0⟩
                    case round =>
                      obtain ⟨j, rfl, hjle, HK⟩ := hrel
                      clear HK0
                      obtain ⟨wo, rfl⟩ : ∃ wo, wo = wr := ⟨_, rfl⟩
                      by_cases hgo : j < ls.length
                      · obtain ⟨y, hy⟩ : ∃ y, y = ls[j] := ⟨_, rfl⟩
                        have HL := Aside0.mk hy
                        clear hy
                        have hrd : PB.rd_T88 ls (j : Int) = y := by rw [HL.out]; simp [PB.rd_T88, List.getElem?_eq_getElem hgo]
                        have ea := PB.at_T88 (Kd.C_below HR.out.1 (HJ.out.keep HK.out.1).dg.kp) (j : Int) (by omega) (by omega)
                        rw [hrd, Int.toNat_natCast] at ea
                        obtain ⟨ad, rfl, e0, e1, e2, e3, e4, e5⟩ := ea
                        clear hrd
                        have hj256 : j < 256 := by have := HLEN.out; omega
                        have hwi : IntKind.i64.wrap ((j : Int) + 1) = (j : Int) + 1 := by rw [i64_w]; unfold wrap64; omega
                        obtain ⟨lb, hlb⟩ : ∃ lb, lb = wo.heap.size := ⟨_, rfl⟩
                        have hbx : (wo.alloc (.cells #[.int .i64 y.f0, .int .i64 y.f1, .int .i64 y.f2.f0, .int .i64 y.f2.f1, .int .i64 y.f3, .bool y.f4] 88)).heap[lb]? = some (.cells #[.int .i64 y.f0, .int .i64 y.f1, .int .i64 y.f2.f0, .int .i64 y.f2.f1, .int .i64 y.f3, .bool y.f4] 88 (0, 0)) := by rw [hlb]; exact blk_new wo _
                        have hBx : Below wo.heap.size wo (wo.alloc (.cells #[.int .i64 y.f0, .int .i64 y.f1, .int .i64 y.f2.f0, .int .i64 y.f2.f1, .int .i64 y.f3, .bool y.f4] 88)) := below_alloc (Below.refl _ _) _
                        go_wp2_with ((with_reducible refine gate_dst (N := 159) rfl ?_); refine hold ?_)
                        apply unhold
                        obtain ⟨W1, hW1⟩ : ∃ W1, W1 = wo.alloc (.cells #[.int .i64 y.f0, .int .i64 y.f1, .int .i64 y.f2.f0, .int .i64 y.f2.f1, .int .i64 y.f3, .bool y.f4] 88) := ⟨_, rfl⟩
                        rw [← hW1] at hbx hBx ⊢
                        rw [← hlb]
                        have HB1 := Aside0.mk (below_step HK.out.1 hBx)
                        have HO1 : Aside0 (W1.ownsRow wb.heap.size 3 1 u23 (brU (tmOf l) (dFail ls sn l u) x.1 (ls.take j)).length (ints (brU (tmOf l) (dFail ls sn l u) x.1 (ls.take j)))) := ⟨own_move HK.out.2 (fun k hk => hBx.block k (own_lt HK.out.2 k hk))⟩
                        have HBX := Aside0.mk hbx
                        clear hBx hlb hW1 e0 e1 e2 e3 e4 e5
                        have f0 : W1.cell? ⟨lb, 0, none⟩ = some (.int .i64 y.f0) := blk_cell hbx 0
                        have f1 : W1.cell? ⟨lb, 1, none⟩ = some (.int .i64 y.f1) := blk_cell hbx 1
                        have f2 : W1.cell? ⟨lb, 2, none⟩ = some (.int .i64 y.f2.f0) := blk_cell hbx 2
                        have f3 : W1.cell? ⟨lb, 3, none⟩ = some (.int .i64 y.f2.f1) := blk_cell hbx 3
                        have f4 : W1.cell? ⟨lb, 4, none⟩ = some (.int .i64 y.f3) := blk_cell hbx 4
                        have f5 : W1.cell? ⟨lb, 5, none⟩ = some (.bool y.f4) := blk_cell hbx 5
                        have hym : y ∈ ls := by rw [HL.out]; exact List.getElem_mem hgo
                        have hlk := HO.out.net.links y hym
                        have hu2 := HO.out.net.u2
                        have HLK := Aside0.mk (And.intro hlk hu2)
                        have hsnoc := brU_snoc (tmOf l) (dFail ls sn l u) x.1 (ls.take j) y
                        rw [show ls.take j ++ [y] = ls.take (j + 1) by rw [HL.out]; exact (take_snoc ls j hgo).symm] at hsnoc
                        have HSNOC := Aside0.mk hsnoc
                        clear hbx hym hlk hu2 hsnoc
                        by_cases hto : y.f1 = x.1
                        · have hq2 : (y.f1 == x.1) = true := by simpa using hto
                          have HTO := Aside0.mk hto
                          obtain ⟨b, hb⟩ : ∃ b, b = broughtB (tmOf l) (dFail ls sn l u) y := ⟨_, rfl⟩
                          have HC76 : Aside0 (∀ W, Below W1.heap.size W1 W → Calls Try.prog 76 #[.pointer (some ⟨rb, 0, none⟩), .agg #[.int .i64 y.f0, .int .i64 y.f1, .int .i64 y.f2.f0, .int .i64 y.f2.f1, .int .i64 y.f3, .bool y.f4]] W fun e w' => e = .returned (.bool b) ∧ Below W.heap.size W w') := ⟨fun W h => by
                            rw [hb]
                            have hlk := HLK.out.1
                            have ht := hlk.2.2.2.2
                            unfold timedP at ht
                            exact brought_calls rb wp m (tmOf l) _ y W (HJ.out.keep (below_step HB1.out h)).dg.run HTM.out (by omega) hlk.2.2.1.1 (by have := HLK.out.2; omega)⟩
                          have HBB := Aside0.mk hb
                          clear hto hb
                          go_wp2_with fail
                          refine (HC76.out _ (Below.refl _ _)).mono ?_
                          rintro e w8 ⟨rfl, hb8⟩
                          have HB8 := Aside0.mk (below_step HB1.out hb8)
                          have HO8 : Aside0 (w8.ownsRow wb.heap.size 3 1 u23 (brU (tmOf l) (dFail ls sn l u) x.1 (ls.take j)).length (ints (brU (tmOf l) (dFail ls sn l u) x.1 (ls.take j)))) := ⟨own_move HO1.out (fun k hk => hb8.block k (own_lt HO1.out k hk))⟩
                          have HBX8 := Aside0.mk (blk_below HBX.out hb8)
                          clear f0 f1 f2 f3 f4 f5 hb8
                          cases b
                          · have HE2 : Aside0 (brU (tmOf l) (dFail ls sn l u) x.1 (ls.take (j + 1)) = brU (tmOf l) (dFail ls sn l u) x.1 (ls.take j)) := ⟨by rw [HSNOC.out, if_neg (fun h => by rw [← HBB.out] at h; exact absurd h.2 (by decide))]⟩
                            have HK2 : Aside0 (Below wb.heap.size wb w8 ∧ w8.ownsRow wb.heap.size 3 1 u23 (brU (tmOf l) (dFail ls sn l u) x.1 (ls.take (j + 1))).length (ints (brU (tmOf l) (dFail ls sn l u) x.1 (ls.take (j + 1))))) := ⟨HB8.out, by rw [HE2.out]; exact HO8.out⟩
                            go_wp2
                            go_roundw
                            case rel => exact ⟨j + 1, by go_num, by omega, HK2⟩
                            case measure => simp [intOf]; omega
                          · have HE2 : Aside0 (brU (tmOf l) (dFail ls sn l u) x.1 (ls.take (j + 1)) = brU (tmOf l) (dFail ls sn l u) x.1 (ls.take j) ++ [y.f3]) := ⟨by rw [HSNOC.out, if_pos ⟨HTO.out, HBB.out.symm⟩]⟩
                            have g4 : w8.cell? ⟨lb, 4, none⟩ = some (.int .i64 y.f3) := blk_cell HBX8.out 4
                            have hA : Below w8.heap.size w8 (w8.alloc (.cells #[.int .i64 y.f3] 3)) := below_alloc (Below.refl _ _) _
                            have HN : Aside0 ((w8.alloc (.cells #[.int .i64 y.f3] 3)).ownsRow wb.heap.size 3 1 u23 (brU (tmOf l) (dFail ls sn l u) x.1 (ls.take j)).length (ints (brU (tmOf l) (dFail ls sn l u) x.1 (ls.take j))) ∧ Below wb.heap.size wb (w8.alloc (.cells #[.int .i64 y.f3] 3)) ∧ ∀ jj v, [Value.int .i64 y.f3][jj]? = some v → (w8.alloc (.cells #[.int .i64 y.f3] 3)).cell? ((⟨w8.heap.size, 0, none⟩ : Addr).add jj) = some v) := ⟨HO8.out.alloc _, below_step HB8.out hA, World.news_of_block (w := w8.alloc (.cells #[.int .i64 y.f3] 3)) (cs := #[.int .i64 y.f3]) (blk_new w8 _)⟩
                            have hll : (brU (tmOf l) (dFail ls sn l u) x.1 (ls.take j)).length ≤ 256 := by
                              have h1 := brU_len (tmOf l) (dFail ls sn l u) x.1 (ls.take j)
                              have h2 := HLEN.out
                              rw [List.length_take] at h1
                              omega
                            obtain ⟨US, hUS⟩ : ∃ US, US = brU (tmOf l) (dFail ls sn l u) x.1 (ls.take j) := ⟨_, rfl⟩
                            rw [← hUS] at HN hll HE2
                            obtain ⟨i3, hi3, hy0, hy1, hy2⟩ := info_parts info3
                            clear hA hUS HO8 HO1 HK
                            go_wp2_with ((with_reducible refine gate_dst (N := 172) rfl ?_); refine hold ?_)
                            refine wpList_append_lies _ rfl (.tmp 168) (.tmp 171) 33 rfl wb.heap.size 3 i3 _ 1 8 Try.underlying33 hi3 hy0 hy1 hy2 rfl (by decide) u23 US.length (ints US) (by go_simp) HN.out.1 ⟨w8.heap.size, 0, none⟩ 1 1 [.int .i64 y.f3] (by go_simp) rfl HN.out.2.2 (by simp [Value.oneCell']) (by decide) (by unfold maxLen; omega) (by omega) HN.out.2.1.size _ rfl ?_
                            intro g cap w9 hown9 hg9 hor hlt9
                            have HK9 : Aside0 (Below wb.heap.size wb w9 ∧ w9.ownsRow wb.heap.size 3 1 (.slice (some ⟨g, 0, none⟩) (US.length + 1) cap) (brU (tmOf l) (dFail ls sn l u) x.1 (ls.take (j + 1))).length (ints (brU (tmOf l) (dFail ls sn l u) x.1 (ls.take (j + 1))))) := by
                              refine ⟨HN.out.2.1.trans ((Kp.grown hg9).below HN.out.2.1.size (fun k hk => own_base HN.out.1 k hk.symm)), ?_⟩
                              rw [HE2.out]
                              simpa [ints] using hown9
                            clear hown9 hg9 hor hlt9
                            obtain ⟨NN, hNN⟩ : ∃ NN, NN = US.length + 1 := ⟨_, rfl⟩
                            rw [← hNN] at HK9 ⊢
                            clear hNN hll g4 HN HE2 hi3 hy0 hy1 hy2
                            go_wp2
                            go_roundw
                            case rel => exact ⟨j + 1, by go_num, by omega, HK9⟩
                            case measure => simp [intOf]; omega
                        · have hq2 : (y.f1 == x.1) = false := by simpa using hto
                          have HE2 : Aside0 (brU (tmOf l) (dFail ls sn l u) x.1 (ls.take (j + 1)) = brU (tmOf l) (dFail ls sn l u) x.1 (ls.take j)) := ⟨by rw [HSNOC.out, if_neg (fun h => hto h.1)]⟩
                          have HK2 : Aside0 (Below wb.heap.size wb W1 ∧ W1.ownsRow wb.heap.size 3 1 u23 (brU (tmOf l) (dFail ls sn l u) x.1 (ls.take (j + 1))).length (ints (brU (tmOf l) (dFail ls sn l u) x.1 (ls.take (j + 1))))) := ⟨HB1.out, by rw [HE2.out]; exact HO1.out⟩
                          clear hto
                          go_wp2
                          go_roundw
                          case rel => exact ⟨j + 1, by go_num, by omega, HK2⟩
                          case measure => simp [intOf]; omega
                      · obtain rfl : j = ls.length := by omega
                        have hb0 := HK.out.1
                        have ho0 := HK.out.2
                        rw [List.take_length] at ho0
                        have HJ3 := Aside0.mk (HJ.out.keep hb0)
                        obtain ⟨US, hUS⟩ : ∃ US, US = brU (tmOf l) (dFail ls sn l u) x.1 ls := ⟨_, rfl⟩
                        rw [← hUS] at ho0
                        have hll : US.length ≤ 256 := by
                          have h1 := brU_len (tmOf l) (dFail ls sn l u) x.1 ls
                          have h2 := HLEN.out
                          rw [← hUS] at h1
                          omega
                        obtain ⟨Au, cu, hvu, hcu, hIA, -⟩ := own_ints_any ho0 (by omega)
                        have HUS := Aside0.mk hUS
                        have HIA := Aside0.mk hIA
                        subst hvu
                        have hgU : goodU (tmOf l) (dFail ls sn l u) sn ls x.1 = onlyU US := by unfold goodU; rw [if_neg HSN.out, ← hUS]
                        have HGU := Aside0.mk hgU
                        have HUM : Aside0 (∀ v ∈ US, -1 ≤ v ∧ v < 20) := ⟨fun v hv => by
                          rw [hUS] at hv
                          obtain ⟨y, hy, e⟩ := brU_mem hv
                          have h1 := (HO.out.net.links y hy).2.2.1
                          have h2 := HO.out.net.u2
                          omega⟩
                        have hX1 := HX.out.1
                        clear hjle hgo HK hb0 ho0 hUS hIA hcu hgU
                        cases US with
                        | nil =>
                          have HFIN : Aside0 (diagE nn uu ls sn lo hi l u = 14) := ⟨by
                            rw [HRE2.out, if_neg (HJ3.out.bad x hX1 HSN.out HUS.out.symm)]⟩
                          clear hX1
                          go_wp2
                          go_ret3
                          exact DiagPost.fail HJ3.out.dg.kp HFIN.out (by decide)
                        | cons a rr =>
                          have hok : x.1 ≠ sn → brU (tmOf l) (dFail ls sn l u) x.1 ls ≠ [] := fun _ => by rw [← HUS.out]; simp
                          have h0l : 0 < (a :: rr).length := by simp
                          obtain ⟨ad, hAu, -⟩ := HIA.out.2.2 h0l
                          subst hAu
                          have HMIN : Aside0 (∀ W, IntsAt W (some ad) (a :: rr) → Calls Try.prog 77 #[.slice (some ad) (a :: rr).length cu] W fun e w' => e = .returned (.int .i64 (minL (a :: rr))) ∧ w' = W) := ⟨fun W h => min_calls ad cu (a :: rr) W h h0l⟩
                          have HMAX : Aside0 (∀ W, IntsAt W (some ad) (a :: rr) → Calls Try.prog 78 #[.slice (some ad) (a :: rr).length cu] W fun e w' => e = .returned (.int .i64 (maxiL (a :: rr))) ∧ w' = W) := ⟨fun W h => max_calls ad cu (a :: rr) W h h0l⟩
                          have c0 : wo.cell? ad = some (.int .i64 a) := ints_cells HIA.out 0 h0l
                          have hmm := min_eq_max a rr
                          have ha20 := HUM.out a List.mem_cons_self
                          obtain ⟨NL, hNL⟩ : ∃ NL, NL = (a :: rr).length := ⟨_, rfl⟩
                          obtain ⟨mi, hmi⟩ : ∃ mi, mi = minL (a :: rr) := ⟨_, rfl⟩
                          obtain ⟨ma, hma⟩ : ∃ ma, ma = maxiL (a :: rr) := ⟨_, rfl⟩
                          rw [← hmi, ← hma] at hmm
                          rw [← hmi, ← hNL] at HMIN
                          rw [← hma, ← hNL] at HMAX
                          rw [← hNL] at h0l hll ⊢
                          have HOK := Aside0.mk hok
                          have HX1 := Aside0.mk hX1
                          clear hmi hma hNL hok hX1
                          by_cases hall : ∀ y ∈ rr, y = a
                          · have hq1 : (mi == ma) = true := by simpa using hmm.2 hall
                            by_cases ha0 : 0 ≤ a
                            · obtain ⟨an, rfl⟩ := Int.eq_ofNat_of_zero_le ha0
                              have han : an < 20 := by omega
                              have HJ4 : Aside0 (GInv w bn bs rb wp m gb r cl nn uu (.slice A ls.length c) sn lo hi (tmOf l) (dFail ls sn l u) ls L (V ++ [x]) ((V ++ [x]).map (·.2.2)) (wo.setCell ⟨gb, an, none⟩ (.bool true))) := ⟨by
                                rw [List.map_append]
                                exact HJ3.out.mark x HX1.out an (by rw [HGU.out]; unfold onlyU; exact if_pos ⟨hall, ha0⟩) HOK.out HNE2.out⟩
                              have hg := HJ3.out.good
                              have hg2 : ∃ bb, wo.cell? ⟨gb, an, none⟩ = some (.bool bb) := by
                                refine ⟨(setUs noB (V.filterMap (fun e => goodU (tmOf l) (dFail ls sn l u) sn ls e.1)))[an]'(by rw [setUs_len]; exact han), ?_⟩
                                rw [blk_cell hg an]
                                simp [setCs, setUs_len, noB, han]
                              obtain ⟨bb, hg2⟩ := hg2
                              have hg3 : wo.frozen? ⟨gb, an, none⟩ = false := blk_frozen hg an
                              clear hall hmm ha0 hg
                              go_wp2_with fail
                              refine (HMIN.out _ HIA.out).mono ?_
                              rintro e wm ⟨rfl, rfl⟩
                              go_wp2_with fail
                              refine (HMAX.out _ HIA.out).mono ?_
                              rintro e wm ⟨rfl, rfl⟩
                              go_wp2
                              exact ⟨⟨V ++ [x], HJ4⟩, by rw [HLESS.out.1, HJ4.out.it.seen, List.map_append]; exact leftN_less HX.out.1 HX.out.2⟩
                            · have hd0 : decide (0 ≤ a) = false := by simpa using ha0
                              have HJ4 : Aside0 (GInv w bn bs rb wp m gb r cl nn uu (.slice A ls.length c) sn lo hi (tmOf l) (dFail ls sn l u) ls L (V ++ [x]) ((V ++ [x]).map (·.2.2)) wo) := ⟨by
                                rw [List.map_append]
                                exact HJ3.out.pass x HX1.out (by rw [HGU.out]; unfold onlyU; exact if_neg (fun h => ha0 h.2)) HOK.out⟩
                              clear hall hmm ha0
                              go_wp2_with fail
                              refine (HMIN.out _ HIA.out).mono ?_
                              rintro e wm ⟨rfl, rfl⟩
                              go_wp2_with fail
                              refine (HMAX.out _ HIA.out).mono ?_
                              rintro e wm ⟨rfl, rfl⟩
                              go_wp2
                              exact ⟨⟨V ++ [x], HJ4⟩, by rw [HLESS.out.1, HJ4.out.it.seen, List.map_append]; exact leftN_less HX.out.1 HX.out.2⟩
                          · have hq1 : (mi == ma) = false := by
                              cases hc : mi == ma
                              · rfl
                              · exact absurd (hmm.1 (by simpa using hc)) hall
                            have HJ4 : Aside0 (GInv w bn bs rb wp m gb r cl nn uu (.slice A ls.length c) sn lo hi (tmOf l) (dFail ls sn l u) ls L (V ++ [x]) ((V ++ [x]).map (·.2.2)) wo) := ⟨by
                              rw [List.map_append]
                              exact HJ3.out.pass x HX1.out (by rw [HGU.out]; unfold onlyU; exact if_neg (fun h => hall h.1)) HOK.out⟩
                            clear hall hmm
                            go_wp2_with fail
                            refine (HMIN.out _ HIA.out).mono ?_
                            rintro e wm ⟨rfl, rfl⟩
                            go_wp2_with fail
                            refine (HMAX.out _ HIA.out).mono ?_
                            rintro e wm ⟨rfl, rfl⟩
                            go_wp2
                            exact ⟨⟨V ++ [x], HJ4⟩, by rw [HLESS.out.1, HJ4.out.it.seen, List.map_append]; exact leftN_less HX.out.1 HX.out.2⟩
        · have HC1 : Aside0 (∀ W, Calls Try.prog 72 #[.int .i64 T0, .int .i64 lo, .int .i64 hi] W fun e w' => e = .returned (.bool false) ∧ w' = W) := ⟨fun W => by have := within_same T0 lo hi W; rw [decide_eq_false hin] at this; exact this⟩
          have HFIN : Aside0 (diagE nn uu ls sn lo hi l u = 14) := ⟨by
            rw [HRE.out]; unfold runErr; rw [HT.out]; exact if_neg hin⟩
          clear hin
          go_wp2_with fail
          refine (HC1.out _).mono ?_
          rintro e w7 ⟨rfl, rfl⟩
          go_wp2
          go_ret3
          exact DiagPost.fail HG2.out.kp HFIN.out (by decide)
end Go.Proofs.Ytgmglpnoppcnkaa
end
section
namespace Go.Proofs.Ytgmglpnoppcnkaa
open Go.RowKit Go.Proofs.YtgmglpnoppcnkaaW.PrintWords Go.Proofs.YtgmglpnoppcnkaaW.PrintLast Go.Proofs.YtgmglpnoppcnkaaW.PrintMore
set_option linter.unusedVariables false
set_option linter.unusedSimpArgs false
set_option maxRecDepth 100000

abbrev LinksAt (w : World) (A : Option Addr) (ls : List Lk) : Prop := Kd.C PB.k88 w A ls.length ls
abbrev DuesAt (w : World) (A : Option Addr) (l : List Du) : Prop := Kd.C PB.k41 w A l.length l
theorem wrap_nat {i n : Nat} (h : i < n) (hn : n ≤ 9223372036854775807) : wrap64 ((i : Int) + 1) = ((i + 1 : Nat) : Int) := by unfold wrap64; omega
theorem same_loop (l : List PB.S41) (n : Nat) (hn : n = l.length) (hl : n ≤ 9223372036854775807) : ∀ d i, i + d = n → ∃ k, PB.tidewalllaw08_same.l0 k l l (i : Int) = some true := by
  intro d
  induction d with
  | zero =>
    intro i hi
    refine ⟨1, ?_⟩
    unfold PB.tidewalllaw08_same.l0
    rw [if_neg (by omega)]
  | succ d ih =>
    intro i hi
    obtain ⟨k, hk⟩ := ih (i + 1) (by omega)
    refine ⟨k + 1, ?_⟩
    unfold PB.tidewalllaw08_same.l0
    rw [if_pos (by omega), if_pos (by omega), if_pos (by omega), if_neg (by simp), wrap_nat (n := n) (by omega) hl]
    exact hk
theorem same_refl (l : List PB.S41) (hl : l.length ≤ 9223372036854775807) : ∃ k, PB.tidewalllaw08_same.f k l l = some true := by
  obtain ⟨k, hk⟩ := same_loop l l.length rfl hl l.length 0 (by omega)
  refine ⟨k, ?_⟩
  unfold PB.tidewalllaw08_same.f
  rw [if_pos rfl]
  exact hk
theorem equal_loop (l : List Int) (n : Nat) (hn : n = l.length) (hl : n ≤ 9223372036854775807) : ∀ d i, i + d = n → ∃ k, PB.tidewalllaw08_equal.l0 k l l (i : Int) = some true := by
  intro d
  induction d with
  | zero =>
    intro i hi
    refine ⟨1, ?_⟩
    unfold PB.tidewalllaw08_equal.l0
    rw [if_neg (by omega)]
  | succ d ih =>
    intro i hi
    obtain ⟨k, hk⟩ := ih (i + 1) (by omega)
    refine ⟨k + 1, ?_⟩
    unfold PB.tidewalllaw08_equal.l0
    rw [if_pos (by omega), if_pos (by omega), if_pos (by omega), if_pos rfl, wrap_nat (n := n) (by omega) hl]
    exact hk
theorem equal_refl (l : List Int) (hl : l.length ≤ 9223372036854775807) : ∃ k, PB.tidewalllaw08_equal.f k l l = some true := by
  obtain ⟨k, hk⟩ := equal_loop l l.length rfl hl l.length 0 (by omega)
  refine ⟨k, ?_⟩
  unfold PB.tidewalllaw08_equal.f
  rw [if_pos rfl]
  exact hk
theorem same_true (A0 A1 : Option Addr) (c0 c1 : Nat) (l : List PB.S41) (w : World) (h0 : DuesAt w A0 l) (k0 : l.length ≤ c0) (h1 : DuesAt w A1 l) (k1 : l.length ≤ c1) :
    Calls Try.prog 34 #[.slice A0 l.length c0, .slice A1 l.length c1] w fun e w' => e = .returned (.bool true) ∧ Below w.heap.size w w' := by
  obtain ⟨k, hk⟩ := same_refl l h0.2.1
  exact (PB.tidewalllaw08_same.calls k A0 c0 l A1 c1 l true w h0 k0 h1 k1 hk).mono fun e w' ⟨he, hd⟩ => ⟨he, hd.below⟩
theorem equal_true (A0 A1 : Option Addr) (c0 c1 : Nat) (l : List Int) (w : World) (h0 : IntsAt w A0 l) (k0 : l.length ≤ c0) (h1 : IntsAt w A1 l) (k1 : l.length ≤ c1) :
    Calls Try.prog 27 #[.slice A0 l.length c0, .slice A1 l.length c1] w fun e w' => e = .returned (.bool true) ∧ Below w.heap.size w w' := by
  obtain ⟨k, hk⟩ := equal_refl l h0.2.1
  exact (PB.tidewalllaw08_equal.calls k A0 c0 l A1 c1 l true w h0 k0 h1 k1 hk).mono fun e w' ⟨he, hd⟩ => ⟨he, hd.below⟩
theorem N_any (w : World) : Calls Try.prog 49 #[] w fun e w' => ∃ A c, e = .returned (.agg #[.int .i64 4, .int .i64 3, .slice A NL.length c]) ∧ NL.length ≤ c ∧ LinksAt w' A NL ∧ Below w.heap.size w w' :=
  (PB.tidewalllaw08_N.calls 4 3 NL w N_f).mono fun e w' ⟨v, he, hr, hb⟩ => by
    obtain ⟨A, c, rfl, hc, hC⟩ := Kd.R_reads hr
    exact ⟨A, c, he, hc, hC, hb⟩
theorem S_any (w : World) : Calls Try.prog 50 #[] w fun e w' => e = .returned (.agg #[.int .i64 0, .int .i64 100, .int .i64 100]) ∧ Below w.heap.size w w' := PB.tidewalllaw08_S.calls 0 100 100 w S_f
theorem fine_any (w : World) : Calls Try.prog 51 #[] w fun e w' => ∃ A c, e = .returned (.slice A [(1 : Int), 1, 1].length c) ∧ [(1 : Int), 1, 1].length ≤ c ∧ IntsAt w' A [1, 1, 1] ∧ Below w.heap.size w w' :=
  (PB.tidewalllaw08_fine.calls [1, 1, 1] w fine_f).mono fun e w' ⟨v, he, hr, hb⟩ => by
    obtain ⟨A, c, rfl, hc, hC⟩ := Kd.R_reads hr
    exact ⟨A, c, he, hc, hC, hb⟩
theorem due_any (x : Int) (w : World) : Calls Try.prog 53 #[.int .i64 x] w fun e w' => e = .returned (.agg #[.int .i64 3, .int .i64 x]) ∧ Below w.heap.size w w' := PB.tidewalllaw08_due.calls x 3 x w rfl
theorem span_any (x y : Int) (w : World) : Calls Try.prog 52 #[.int .i64 x, .int .i64 y] w fun e w' => e = .returned (.agg #[.int .i64 x, .int .i64 y]) ∧ Below w.heap.size w w' := PB.tidewalllaw08_span.calls x y x y w rfl
theorem Worst_any (n : Nat) (uu : Int) (A : Option Addr) (c : Nat) (ls : List Lk) (sn lo hi : Int) (A2 : Option Addr) (c2 : Nat) (st : List Int) (f : Nat) (w : World)
    (hr : LinksAt w A ls) (hc : ls.length ≤ c) (hr2 : IntsAt w A2 st) (hc2 : st.length ≤ c2) (h : validE n uu ls sn lo hi st f = 0) :
    Calls Try.prog 16 #[.agg #[.int .i64 n, .int .i64 uu, .slice A ls.length c], .agg #[.int .i64 sn, .int .i64 lo, .int .i64 hi], .slice A2 st.length c2, .int .i64 f] w fun e w' => ∃ A c, e = .returned (.tuple #[.slice A (worstS n ls sn lo hi st f).length c, .int .i64 0]) ∧ (worstS n ls sn lo hi st f).length ≤ c ∧ DuesAt w' A (worstS n ls sn lo hi st f) ∧ Below w.heap.size w w' :=
  (Worst_ok n uu A c ls sn lo hi A2 c2 st f w hr hc hr2 hc2 h).mono fun e w' ⟨v, he, hv, hb⟩ => by
    obtain ⟨A, c, rfl, hc, hC⟩ := Kd.R_reads hv
    exact ⟨A, c, he, hc, hC, hb⟩
theorem Diag_any (nn uu : Int) (A : Option Addr) (c : Nat) (ls : List Lk) (sn lo hi : Int) (A3 : Option Addr) (c3 : Nat) (l : List Du) (u : Int) (w : World)
    (hr : LinksAt w A ls) (hc : ls.length ≤ c) (hr3 : DuesAt w A3 l) (hc3 : l.length ≤ c3) (hl : l.length ≤ 100000) :
    Calls Try.prog 24 #[.agg #[.int .i64 nn, .int .i64 uu, .slice A ls.length c], .agg #[.int .i64 sn, .int .i64 lo, .int .i64 hi], .slice A3 l.length c3, .int .i64 u] w (DiagPost w nn uu ls sn lo hi l u) := by
  by_cases h : startE nn uu ls sn lo hi = 0
  · by_cases hu : 0 ≤ u ∧ u ≤ 1000000000
    · obtain ⟨n, rfl, _⟩ := startE_ok h
      exact Diag_ok n uu A c ls sn lo hi A3 c3 l u w hr hc h hu hr3 hc3 hl
    · exact (Diag_until nn uu A c ls sn lo hi A3 c3 l u w hr hc h hu).mono fun e w' ⟨he, hb⟩ => by
        rw [he]
        exact DiagPost.fail hb (by unfold diagE; rw [if_pos h, if_neg hu]) (by decide)
  · exact (Diag_early nn uu A c ls sn lo hi A3 c3 l u w hr hc h).mono fun e w' ⟨he, hb⟩ => by
      rw [he]
      exact DiagPost.fail hb (by unfold diagE; rw [if_neg h]) h
theorem Diag_zero (nn uu : Int) (A : Option Addr) (c : Nat) (ls : List Lk) (sn lo hi : Int) (A3 : Option Addr) (c3 : Nat) (l : List Du) (u : Int) (w : World)
    (hr : LinksAt w A ls) (hc : ls.length ≤ c) (hr3 : DuesAt w A3 l) (hc3 : l.length ≤ c3) (hl : l.length ≤ 100000) (h : diagE nn uu ls sn lo hi l u = 0) :
    Calls Try.prog 24 #[.agg #[.int .i64 nn, .int .i64 uu, .slice A ls.length c], .agg #[.int .i64 sn, .int .i64 lo, .int .i64 hi], .slice A3 l.length c3, .int .i64 u] w fun e w' => ∃ A1 c1 A2 c2, e = .returned (.tuple #[.slice A1 (listB (dWork ls sn l u)).length c1, .slice A2 (listB (dFail ls sn l u)).length c2, .int .i64 0]) ∧
      (listB (dWork ls sn l u)).length ≤ c1 ∧ IntsAt w' A1 (listB (dWork ls sn l u)) ∧ (listB (dFail ls sn l u)).length ≤ c2 ∧ IntsAt w' A2 (listB (dFail ls sn l u)) ∧ Below w.heap.size w w' :=
  (Diag_any nn uu A c ls sn lo hi A3 c3 l u w hr hc hr3 hc3 hl).mono fun e w' ⟨hb, hx⟩ => by
    rcases hx with ⟨h1, _⟩ | ⟨_, v1, v2, he, h1, h2⟩
    · exact absurd h h1
    · have l1 := trueFrom_len (dWork ls sn l u) 0
      have l2 := trueFrom_len (dFail ls sn l u) 0
      have e1 : (dWork ls sn l u).length = 20 := by unfold dWork; rw [setUs_len]; rfl
      have e2 : (dFail ls sn l u).length = 20 := failB_len _
      obtain ⟨A1, c1, rfl, k1, i1, -⟩ := own_ints_any h1 (by unfold listB; omega)
      obtain ⟨A2, c2, rfl, k2, i2, -⟩ := own_ints_any h2 (by unfold listB; omega)
      exact ⟨A1, c1, A2, c2, he, k1, i1, k2, i2, hb⟩
theorem Blame_none (n : Nat) (uu : Int) (A : Option Addr) (c : Nat) (ls : List Lk) (sn lo hi : Int) (A2 : Option Addr) (c2 : Nat) (st : List Int) (f : Nat) (d : Du) (w : World)
    (hr : LinksAt w A ls) (hc : ls.length ≤ c) (hr2 : IntsAt w A2 st) (hc2 : st.length ≤ c2) (h : askE n uu ls sn lo hi st f d = 0) (hb : blameL n ls sn hi st f d = none) :
    Calls Try.prog 39 #[.agg #[.int .i64 n, .int .i64 uu, .slice A ls.length c], .agg #[.int .i64 sn, .int .i64 lo, .int .i64 hi], .slice A2 st.length c2, .int .i64 f, .agg #[.int .i64 d.f0, .int .i64 d.f1]] w fun e w' => e = .returned (.tuple #[.slice none 0 0, .bool false, .int .i64 0]) ∧ Below w.heap.size w w' :=
  (Blame_ok n uu A c ls sn lo hi A2 c2 st f d w hr hc hr2 hc2 h).mono fun e w' ⟨hw, hx⟩ => by
    rcases hx with ⟨_, he⟩ | ⟨x, A, c, h1, _⟩
    · exact ⟨he, hw⟩
    · rw [hb] at h1; cases h1
theorem Blame_some (n : Nat) (uu : Int) (A : Option Addr) (c : Nat) (ls : List Lk) (sn lo hi : Int) (A2 : Option Addr) (c2 : Nat) (st : List Int) (f : Nat) (d : Du) (x : List Int) (w : World)
    (hr : LinksAt w A ls) (hc : ls.length ≤ c) (hr2 : IntsAt w A2 st) (hc2 : st.length ≤ c2) (h : askE n uu ls sn lo hi st f d = 0) (hb : blameL n ls sn hi st f d = some x) :
    Calls Try.prog 39 #[.agg #[.int .i64 n, .int .i64 uu, .slice A ls.length c], .agg #[.int .i64 sn, .int .i64 lo, .int .i64 hi], .slice A2 st.length c2, .int .i64 f, .agg #[.int .i64 d.f0, .int .i64 d.f1]] w fun e w' => ∃ A c, e = .returned (.tuple #[.slice A x.length c, .bool true, .int .i64 0]) ∧ x.length ≤ c ∧ IntsAt w' A x ∧ Below w.heap.size w w' :=
  (Blame_ok n uu A c ls sn lo hi A2 c2 st f d w hr hc hr2 hc2 h).mono fun e w' ⟨hw, hx⟩ => by
    rcases hx with ⟨h1, _⟩ | ⟨x', A, c, h1, he, hi, hc⟩
    · rw [hb] at h1; cases h1
    · rw [hb] at h1; cases h1
      exact ⟨A, c, he, hc, hi, hw⟩
/-- A new row of pairs. -/
theorem C_pairs {w : World} {b t : Nat} {cs : Array Value} (l : List PB.S41) (h : w.heap[b]? = some (.cells cs t (0, 0))) (hl : l.length ≤ 1000) (hc : ∀ (j : Nat) (p : PB.S41), l[j]? = some p → cs[j * 2]? = some (Value.int .i64 p.f0) ∧ cs[j * 2 + 1]? = some (Value.int .i64 p.f1)) : DuesAt w (some ⟨b, 0, none⟩) l := by
  refine ⟨rfl, by omega, fun _ => ⟨_, rfl, fun j p hj => ?_⟩⟩
  obtain ⟨h0, h1⟩ := hc j p hj
  have e0 := (blk_cell h (j * 2)).trans h0
  have e1 := (blk_cell h (j * 2 + 1)).trans h1
  refine ⟨[.int .i64 p.f0, .int .i64 p.f1], rfl, PB.k41_mk w p, fun i u hu => ?_⟩
  rw [Addr.add_mid, Nat.zero_add]
  have hi : i = 0 ∨ i = 1 := by
    have := (List.getElem?_eq_some_iff.1 hu).1
    simp at this
    omega
  rcases hi with rfl | rfl
  · cases hu
    exact e0
  · cases hu
    exact e1
theorem C_ints {w : World} {b t : Nat} {cs : Array Value} (l : List Int) (h : w.heap[b]? = some (.cells cs t (0, 0))) (hl : l.length ≤ 1000) (hc : ∀ (j : Nat) (p : Int), l[j]? = some p → cs[j]? = some (Value.int .i64 p)) : IntsAt w (some ⟨b, 0, none⟩) l := by
  refine ⟨rfl, by omega, fun _ => ⟨_, rfl, fun j p hj => ⟨[.int .i64 p], rfl, rfl, fun i u hu => ?_⟩⟩⟩
  have hi0 : i = 0 := by
    have := (List.getElem?_eq_some_iff.1 hu).1
    simpa using this
  subst hi0
  cases hu
  have e0 := (blk_cell h j).trans (hc j p hj)
  rw [Addr.add_mid, Nat.zero_add, Nat.add_zero, show j * (Kd.int .i64).sz = j from Nat.mul_one j]
  exact e0
end Go.Proofs.Ytgmglpnoppcnkaa
end
section
namespace Go.Proofs.Ytgmglpnoppcnkaa
open Go.RowKit
set_option linter.unusedVariables false
set_option linter.unusedSimpArgs false

theorem least_le {ls : List Lk} {ue : Lk → Option Int} {sn b : Int} {nn : Nat} (E : EOk ls ue sn b nn) (v : Nat) : (leastL ls ue sn b nn).getD v NV ≤ NV := by
  by_cases hv : v < nn
  · rcases (leastL_ok E).at_ v hv with ⟨h, _⟩ | ⟨h, _⟩ <;> omega
  · rw [List.getD_eq_getElem?_getD, List.getElem?_eq_none (by rw [leastL_len E]; omega)]
    exact Int.le_refl _
theorem least_mono {ls ls' : List Lk} {ue ue' : Lk → Option Int} {sn sn' b b' : Int} {nn : Nat} (E : EOk ls ue sn b nn) (E' : EOk ls' ue' sn' b' nn)
    (h : ∀ v t, Wk ls' ue' sn' b' v t → ∃ t', Wk ls ue sn b v t' ∧ t' ≤ t) (v : Nat) : (leastL ls ue sn b nn).getD v NV ≤ (leastL ls' ue' sn' b' nn).getD v NV := by
  by_cases hv : v < nn
  · rcases (leastL_ok E').at_ v hv with ⟨_, h1, _⟩ | ⟨h1, _⟩
    · obtain ⟨t', ht, hle⟩ := h _ _ h1
      rcases (leastL_ok E).at_ v hv with ⟨_, _, h2⟩ | ⟨_, h2⟩
      · have := h2 _ ht
        omega
      · exact absurd ht (h2 _)
    · rw [h1]
      exact least_le E v
  · rw [List.getD_eq_getElem?_getD, List.getD_eq_getElem?_getD, List.getElem?_eq_none (by rw [leastL_len E]; omega), List.getElem?_eq_none (by rw [leastL_len E']; omega)]
    exact Int.le_refl _
theorem Wk.mono {ls ls' : List Lk} {ue ue' : Lk → Option Int} {sn b b' : Int} (hb : b ≤ b')
    (h : ∀ l ∈ ls', ∀ d, ue' l = some d → ∃ l2 ∈ ls, l2.f0 = l.f0 ∧ l2.f1 = l.f1 ∧ ∃ d2, ue l2 = some d2 ∧ d2 ≤ d) {v t : Int} (hw : Wk ls' ue' sn b' v t) : ∃ t', Wk ls ue sn b v t' ∧ t' ≤ t := by
  induction hw with
  | start => exact ⟨b, .start, hb⟩
  | step hw hl e hd ih =>
    obtain ⟨t1, h1, h2⟩ := ih
    obtain ⟨l2, m, e0, e1, d2, k, hle⟩ := h _ hl _ hd
    refine ⟨t1 + d2, ?_, by omega⟩
    rw [← e1]
    exact .step h1 m (by rw [e0, e]) k

theorem maxL_getD {a b : List Int} (h : a.length = b.length) (v : Nat) : (maxL a b).getD v NV = max (a.getD v NV) (b.getD v NV) := by
  unfold maxL
  rw [List.getD_eq_getElem?_getD, List.getD_eq_getElem?_getD, List.getD_eq_getElem?_getD, List.getElem?_zipWith]
  by_cases hv : v < a.length
  · rw [List.getElem?_eq_getElem hv, List.getElem?_eq_getElem (by omega)]
    rfl
  · rw [List.getElem?_eq_none (by omega), List.getElem?_eq_none (by omega)]
    show NV = max NV NV
    omega
section
variable {nn : Nat} {uu : Int} {ls : List Lk} {sn lo hi : Int}
theorem hiL_len (hO : StOk nn uu ls sn lo hi) (st us : List Int) : (hiL nn ls sn hi st us).length = nn := leastL_len (hO.hi _)
theorem loL_len (hO : StOk nn uu ls sn lo hi) (s : List Bool) : (loL nn ls sn lo s).length = nn := leastL_len (hO.lo _)
theorem maxFold_len (hO : StOk nn uu ls sn lo hi) (st : List Int) : ∀ (xss : List (List Int)) (o : List Int), o.length = nn → (xss.foldl (fun o us => maxL o (hiL nn ls sn hi st us)) o).length = nn := by
  intro xss
  induction xss with
  | nil => intro o h; exact h
  | cons x r ih =>
    intro o h
    refine ih _ ?_
    unfold maxL
    rw [List.length_zipWith, h, hiL_len hO, Nat.min_self]
theorem worstOf_len (hO : StOk nn uu ls sn lo hi) (st : List Int) (xss : List (List Int)) : (worstOf nn ls sn hi st xss).length = nn := maxFold_len hO st xss _ (hiL_len hO st [])
theorem maxFold_le (hO : StOk nn uu ls sn lo hi) (st : List Int) (v : Nat) (B : Int) : ∀ (xss : List (List Int)) (o : List Int), o.length = nn →
    ((xss.foldl (fun o us => maxL o (hiL nn ls sn hi st us)) o).getD v NV ≤ B ↔ o.getD v NV ≤ B ∧ ∀ x ∈ xss, (hiL nn ls sn hi st x).getD v NV ≤ B) := by
  intro xss
  induction xss with
  | nil => intro o h; simp
  | cons x r ih =>
    intro o h
    have hl := hiL_len hO st x
    rw [List.foldl_cons, ih _ (by unfold maxL; rw [List.length_zipWith, h, hl, Nat.min_self]), maxL_getD (by rw [h, hl])]
    constructor
    · rintro ⟨h1, h2⟩
      refine ⟨by omega, fun y hy => ?_⟩
      rcases List.mem_cons.1 hy with rfl | hy
      · omega
      · exact h2 y hy
    · rintro ⟨h1, h2⟩
      have := h2 x List.mem_cons_self
      exact ⟨by omega, fun y hy => h2 y (List.mem_cons_of_mem _ hy)⟩
/-- The greatest of the upper bounds. -/
theorem worst_le (hO : StOk nn uu ls sn lo hi) (st : List Int) (xss : List (List Int)) (v : Nat) (B : Int) : (worstOf nn ls sn hi st xss).getD v NV ≤ B ↔ (hiL nn ls sn hi st []).getD v NV ≤ B ∧ ∀ x ∈ xss, (hiL nn ls sn hi st x).getD v NV ≤ B :=
  maxFold_le hO st v B xss _ (hiL_len hO st [])
theorem worst_mono {uu' sn' lo' hi' : Int} {ls' : List Lk} (hO : StOk nn uu ls sn lo hi) (hO' : StOk nn uu' ls' sn' lo' hi') (st st' : List Int) (xss xss' : List (List Int)) (v : Nat)
    (h : ∀ x', x' = [] ∨ x' ∈ xss' → ∃ x, (x = [] ∨ x ∈ xss) ∧ (hiL nn ls' sn' hi' st' x').getD v NV ≤ (hiL nn ls sn hi st x).getD v NV) : (worstOf nn ls' sn' hi' st' xss').getD v NV ≤ (worstOf nn ls sn hi st xss).getD v NV := by
  have hw := (worst_le hO st xss v _).1 (Int.le_refl _)
  have key : ∀ x', x' = [] ∨ x' ∈ xss' → (hiL nn ls' sn' hi' st' x').getD v NV ≤ (worstOf nn ls sn hi st xss).getD v NV := fun x' hx => by
    obtain ⟨x, hx, hle⟩ := h x' hx
    rcases hx with rfl | hx
    · have := hw.1; omega
    · have := hw.2 x hx; omega
  exact (worst_le hO' st' xss' v _).2 ⟨key [] (.inl rfl), fun x hx => key x (.inr hx)⟩
end
/-- The sets are the parts of k elements. -/
theorem chooseL_iff : ∀ (l : List Int) (k : Nat) (ch x : List Int), x ∈ chooseL k l ch ↔ ∃ y, List.Sublist y l ∧ y.length = k ∧ x = ch ++ y := by
  intro l
  induction l with
  | nil =>
    intro k ch x
    cases k with
    | zero =>
      rw [chooseL_zero, List.mem_singleton]
      constructor
      · rintro rfl; exact ⟨[], List.Sublist.refl _, rfl, by simp⟩
      · rintro ⟨y, h, _, rfl⟩
        rw [List.sublist_nil.1 h, List.append_nil]
    | succ k =>
      rw [chooseL_nil]
      constructor
      · intro h; cases h
      · rintro ⟨y, h, hl, _⟩
        rw [List.sublist_nil.1 h] at hl
        simp at hl
  | cons u r ih =>
    intro k ch x
    cases k with
    | zero =>
      rw [chooseL_zero, List.mem_singleton]
      constructor
      · rintro rfl; exact ⟨[], List.nil_sublist _, rfl, by simp⟩
      · rintro ⟨y, _, hl, rfl⟩
        rw [List.length_eq_zero_iff.1 hl, List.append_nil]
    | succ k =>
      rw [chooseL_cons, List.mem_append, ih, ih]
      constructor
      · rintro (⟨y, h, hl, rfl⟩ | ⟨y, h, hl, rfl⟩)
        · exact ⟨u :: y, h.cons_cons u, by simp [hl], by simp⟩
        · exact ⟨y, h.cons u, hl, rfl⟩
      · rintro ⟨y, h, hl, rfl⟩
        cases h with
        | cons _ h => exact .inr ⟨y, h, hl, rfl⟩
        | cons_cons _ h =>
          rename_i y
          exact .inl ⟨y, h, by simpa using hl, by simp⟩
theorem choFrom_iff (fine x : List Int) : ∀ (n k : Nat), x ∈ choFrom fine k n ↔ List.Sublist x fine ∧ k ≤ x.length ∧ x.length < k + n := by
  intro n
  induction n with
  | zero =>
    intro k
    rw [choFrom]
    constructor
    · intro h; cases h
    · rintro ⟨_, h, h2⟩; omega
  | succ n ih =>
    intro k
    rw [choFrom, List.mem_append, ih, chooseL_iff]
    constructor
    · rintro (⟨y, h, hl, rfl⟩ | ⟨h, h1, h2⟩)
      · exact ⟨h, by omega, by omega⟩
      · exact ⟨h, by omega, by omega⟩
    · rintro ⟨h, h1, h2⟩
      by_cases e : x.length = k
      · exact .inl ⟨x, h, e, by simp⟩
      · exact .inr ⟨h, by omega, by omega⟩
theorem choices_iff (f : Nat) (fine x : List Int) : x ∈ choicesL f fine ↔ List.Sublist x fine ∧ x.length ≤ f := by
  unfold choicesL
  rw [choFrom_iff]
  constructor
  · rintro ⟨h, _, h2⟩; exact ⟨h, by omega⟩
  · rintro ⟨h, h2⟩; exact ⟨h, by omega, by omega⟩
/-- What is in a set with some units besides. -/
theorem setUs_iff (us : List Int) : ∀ (s : List Bool) (j : Nat), (setUs s us).getD j false = true ↔ s.getD j false = true ∨ (j < s.length ∧ ∃ u ∈ us, u.toNat = j) := by
  induction us with
  | nil => intro s j; simp [setUs]
  | cons u r ih =>
    intro s j
    rw [setUs, List.foldl_cons]
    refine (ih _ j).trans ?_
    rw [List.length_set]
    have hs : (s.set u.toNat true).getD j false = true ↔ s.getD j false = true ∨ (j < s.length ∧ u.toNat = j) := by
      simp only [List.getD_eq_getElem?_getD, List.getElem?_set]
      by_cases h : u.toNat = j
      · rw [if_pos h]
        by_cases h2 : u.toNat < s.length
        · rw [if_pos h2]; simp [h, h2]; exact .inr (by omega)
        · rw [if_neg h2, List.getElem?_eq_none (by omega)]; simp; omega
      · rw [if_neg h]; simp [h]
    rw [hs]
    constructor
    · rintro ((h | ⟨h, e⟩) | ⟨h, v, hv, e⟩)
      · exact .inl h
      · exact .inr ⟨h, u, List.mem_cons_self, e⟩
      · exact .inr ⟨h, v, List.mem_cons_of_mem _ hv, e⟩
    · rintro (h | ⟨h, v, hv, e⟩)
      · exact .inl (.inl h)
      · rcases List.mem_cons.1 hv with rfl | hv
        · exact .inl (.inr ⟨h, e⟩)
        · exact .inr ⟨h, v, hv, e⟩
/-- More failed units make no time earlier. -/
theorem hi_sets {nn : Nat} {uu : Int} {ls : List Lk} {sn lo hi : Int} (hO : StOk nn uu ls sn lo hi) (s s' : List Bool) (h : ∀ j, s'.getD j false = true → s.getD j false = true) (v : Nat) :
    (leastL ls (ueHi s') sn hi nn).getD v NV ≤ (leastL ls (ueHi s) sn hi nn).getD v NV := by
  refine least_mono (hO.hi s') (hO.hi s) (fun v t hw => hw.mono (Int.le_refl _) fun l hl d hd => ⟨l, hl, rfl, rfl, d, ?_, Int.le_refl _⟩) v
  unfold ueHi ueOf at hd ⊢
  split at hd
  · rename_i hc
    rw [if_pos ?_]
    · exact hd
    · simp only [Bool.and_eq_true, Bool.not_eq_true'] at hc ⊢
      refine ⟨hc.1, ?_⟩
      have := hc.2
      unfold hasB at this ⊢
      cases h0 : decide (0 ≤ l.f3)
      · rfl
      · rw [h0] at this
        rw [Bool.true_and] at this ⊢
        cases h1 : s'.getD l.f3.toNat false
        · rfl
        · rw [h _ h1] at this; cases this
  · cases hd

/-! Other states. -/
theorem getD_range (p : Nat → Bool) (j : Nat) : ((List.range 20).map p).getD j false = true ↔ j < 20 ∧ p j = true := by
  rw [List.getD_eq_getElem?_getD, List.getElem?_map]
  by_cases h : j < 20
  · rw [List.getElem?_range h]; simp [h]
  · rw [List.getElem?_eq_none (by simp; omega)]; simp [h]
theorem loose_get (st : List Int) (j : Nat) : (looseB st).getD j false = true ↔ j < 20 ∧ (st[j]? = some 2 ∨ st[j]? = some 3) := by
  unfold looseB
  rw [getD_range]
  simp
theorem withFrom_ge (s : Int) : ∀ (st : List Int) (i : Nat) (v : Int), v ∈ withFrom s i st → (i : Int) ≤ v := fun st i v h => (withFrom_mem s st i v h).1
/-- One state that becomes Fine adds this one unit to those that are fine. -/
theorem withFrom_set (y : Int) : ∀ (st : List Int) (i u : Nat), u < st.length → List.Sublist ((withFrom 1 i (st.set u y)).filter (fun v => decide (v ≠ ((i + u : Nat) : Int)))) (withFrom 1 i st) := by
  intro st
  induction st with
  | nil => intro i u h; simp at h
  | cons x r ih =>
    intro i u h
    cases u with
    | zero =>
      rw [List.set_cons_zero]
      have hr : (withFrom 1 (i + 1) r).filter (fun v => decide (v ≠ ((i + 0 : Nat) : Int))) = withFrom 1 (i + 1) r := by
        rw [List.filter_eq_self]
        intro v hv
        have := withFrom_ge 1 r (i + 1) v hv
        simp; omega
      have h1 : List.Sublist ((withFrom 1 i (y :: r)).filter (fun v => decide (v ≠ ((i + 0 : Nat) : Int)))) (withFrom 1 (i + 1) r) := by
        rw [withFrom]
        split
        · rw [List.filter_cons, if_neg (by simp), hr]; exact List.Sublist.refl _
        · rw [hr]; exact List.Sublist.refl _
      refine h1.trans ?_
      rw [withFrom]
      split
      · exact List.sublist_cons_self _ _
      · exact List.Sublist.refl _
    | succ u =>
      rw [List.set_cons_succ]
      have h0 := ih (i + 1) u (by simpa using h)
      rw [show i + 1 + u = i + (u + 1) by omega] at h0
      rw [withFrom, withFrom]
      split
      · rw [List.filter_cons]
        split
        · exact h0.cons_cons _
        · exact h0.cons _
      · exact h0
/-- The state that is better by one. -/
def betterS (x : Int) : Int := max 1 (x - 1)
def betterL (st : List Int) (u : Nat) : List Int := st.set u (betterS (st.getD u 1))
theorem better_len (st : List Int) (u : Nat) : (betterL st u).length = st.length := List.length_set
theorem better_good {x : Int} (h : stGood x) : stGood (betterS x) := by
  unfold stGood betterS at *
  omega
theorem better_mono {nn : Nat} {uu : Int} {ls : List Lk} {sn lo hi : Int} (hO : StOk nn uu ls sn lo hi) (st : List Int) (hst : ∀ x ∈ st, stGood x) (h20 : st.length ≤ 20) (f u : Nat) (hu : u < st.length) (v : Nat) :
    (worstOf nn ls sn hi (betterL st u) (choicesL f (fineL (betterL st u)))).getD v NV ≤ (worstOf nn ls sn hi st (choicesL f (fineL st))).getD v NV := by
  have hg : st.getD u 1 = st[u] := by simp [hu]
  have hgu := hst st[u] (List.getElem_mem hu)
  by_cases h1 : st[u] = 1
  · have e : betterL st u = st := by
      unfold betterL
      rw [hg, h1]
      have : betterS 1 = st[u] := by rw [h1]; rfl
      rw [this, List.set_getElem_self]
    rw [e]
    exact Int.le_refl _
  · have hy : betterS st[u] = 1 ∨ betterS st[u] = 2 ∧ st[u] = 3 := by
      unfold stGood at hgu
      unfold betterS
      omega
    have hlu : (looseB st).getD u false = true := by
      rw [loose_get, List.getElem?_eq_getElem hu]
      unfold stGood at hgu
      refine ⟨by omega, ?_⟩
      rcases hgu with h | h | h
      · exact absurd h h1
      · exact .inl (by rw [h])
      · exact .inr (by rw [h])
    have hll : ∀ j, (looseB (betterL st u)).getD j false = true → (looseB st).getD j false = true := by
      intro j hj
      by_cases e : j = u
      · rw [e]; exact hlu
      · rw [loose_get] at hj ⊢
        unfold betterL at hj
        rw [List.getElem?_set_ne (fun h => e h.symm)] at hj
        exact hj
    refine worst_mono hO hO st (betterL st u) _ _ v fun x' hx => ⟨x'.filter (fun v => decide (v ≠ (u : Int))), ?_, ?_⟩
    · rcases hx with rfl | hx
      · exact .inl rfl
      · rw [choices_iff] at hx
        refine .inr ((choices_iff _ _ _).2 ⟨?_, Nat.le_trans (List.length_filter_le _ _) hx.2⟩)
        have h1 := withFrom_set (betterS (st.getD u 1)) st 0 u hu
        rw [Nat.zero_add] at h1
        exact (hx.1.filter _).trans h1
    · refine hi_sets hO _ _ (fun j hj => ?_) v
      rw [setUs_iff] at hj ⊢
      rcases hj with h | ⟨h, w, hw, e⟩
      · exact .inl (hll j h)
      · by_cases ew : w = (u : Int)
        · have : j = u := by omega
          rw [this]; exact .inl hlu
        · refine .inr ⟨?_, w, ?_, e⟩
          · rw [looseB_len] at h ⊢; exact h
          · rw [List.mem_filter]; exact ⟨hw, by simpa using ew⟩

/-! Other links. -/
theorem lo_links {nn : Nat} {uu uu' : Int} {ls ls' : List Lk} {sn lo hi lo' hi' : Int} (hO : StOk nn uu ls sn lo hi) (hO' : StOk nn uu' ls' sn lo' hi') (hlo : lo ≤ lo') (s : List Bool)
    (h : ∀ l ∈ ls', ∃ l2 ∈ ls, l2.f0 = l.f0 ∧ l2.f1 = l.f1 ∧ l2.f3 = l.f3 ∧ l2.f2.f0 ≤ l.f2.f0) (v : Nat) : (loL nn ls sn lo s).getD v NV ≤ (loL nn ls' sn lo' s).getD v NV := by
  refine least_mono (hO.lo s) (hO'.lo s) (fun v t hw => hw.mono hlo fun l hl d hd => ?_) v
  obtain ⟨l2, m, e0, e1, e3, hle⟩ := h l hl
  unfold ueLo ueOf at hd ⊢
  split at hd
  · rename_i hc
    cases hd
    exact ⟨l2, m, e0, e1, l2.f2.f0, if_pos (by show (!hasB s l2.f3) = true; rw [e3]; exact hc), hle⟩
  · cases hd
theorem hi_links {nn : Nat} {uu uu' : Int} {ls ls' : List Lk} {sn lo hi lo' hi' : Int} (hO : StOk nn uu ls sn lo hi) (hO' : StOk nn uu' ls' sn lo' hi') (hhi : hi ≤ hi') (st us : List Int)
    (h : ∀ l ∈ ls', ∃ l2 ∈ ls, l2.f0 = l.f0 ∧ l2.f1 = l.f1 ∧ l2.f3 = l.f3 ∧ l2.f4 = l.f4 ∧ l2.f2.f1 ≤ l.f2.f1) (v : Nat) : (hiL nn ls sn hi st us).getD v NV ≤ (hiL nn ls' sn hi' st us).getD v NV := by
  refine least_mono (hO.hi _) (hO'.hi _) (fun v t hw => hw.mono hhi fun l hl d hd => ?_) v
  obtain ⟨l2, m, e0, e1, e3, e4, hle⟩ := h l hl
  unfold ueHi ueOf at hd ⊢
  split at hd
  · rename_i hc
    cases hd
    exact ⟨l2, m, e0, e1, l2.f2.f1, if_pos (by show (l2.f4 && !hasB (setUs (looseB st) us) l2.f3) = true; rw [e3, e4]; exact hc), hle⟩
  · cases hd
theorem worst_links {nn : Nat} {uu uu' : Int} {ls ls' : List Lk} {sn lo hi lo' hi' : Int} (hO : StOk nn uu ls sn lo hi) (hO' : StOk nn uu' ls' sn lo' hi') (hhi : hi ≤ hi') (st : List Int) (xss : List (List Int))
    (h : ∀ l ∈ ls', ∃ l2 ∈ ls, l2.f0 = l.f0 ∧ l2.f1 = l.f1 ∧ l2.f3 = l.f3 ∧ l2.f4 = l.f4 ∧ l2.f2.f1 ≤ l.f2.f1) (v : Nat) : (worstOf nn ls sn hi st xss).getD v NV ≤ (worstOf nn ls' sn hi' st xss).getD v NV :=
  worst_mono hO' hO st st xss xss v fun x hx => ⟨x, hx, hi_links hO hO' hhi st x h v⟩

/-! What is without an error. -/
theorem linkErr_zero {nn uu : Int} {l : Lk} : linkErr nn uu l = 0 ↔ (0 ≤ l.f0 ∧ l.f0 < nn) ∧ (0 ≤ l.f1 ∧ l.f1 < nn) ∧ (-1 ≤ l.f3 ∧ l.f3 < uu) ∧ l.f0 ≠ l.f1 ∧ timedP l.f2.f0 l.f2.f1 := by
  unfold linkErr
  by_cases h1 : linkBad nn uu l
  · rw [if_pos h1]
    unfold linkBad at h1
    constructor <;> intro h <;> omega
  · rw [if_neg h1]
    unfold linkBad at h1
    by_cases h2 : l.f0 = l.f1
    · rw [if_pos h2]
      constructor <;> intro h <;> omega
    · rw [if_neg h2]
      by_cases h3 : timedP l.f2.f0 l.f2.f1
      · rw [if_pos h3]
        exact ⟨fun _ => ⟨by omega, by omega, by omega, h2, h3⟩, fun _ => rfl⟩
      · rw [if_neg h3]
        exact ⟨fun h => by omega, fun h => absurd h.2.2.2.2 h3⟩
theorem linksErr_zero {nn uu : Int} : ∀ {ls : List Lk}, (∀ l ∈ ls, linkErr nn uu l = 0) → linksErr nn uu ls = 0 := by
  intro ls
  induction ls with
  | nil => intro _; rfl
  | cons x r ih =>
    intro h
    rw [linksErr, if_pos (h x List.mem_cons_self)]
    exact ih fun l hl => h l (List.mem_cons_of_mem _ hl)
/-- A network, a start, states and f stay without an error with other good links, states and f. -/
theorem valid_other {nn uu : Int} {ls ls' : List Lk} {sn lo hi : Int} {st st' : List Int} {f f' : Int} (h : validE nn uu ls sn lo hi st f = 0) (hn : ls'.length ≤ 256)
    (hl : ∀ l' ∈ ls', ∃ l ∈ ls, l'.f0 = l.f0 ∧ l'.f1 = l.f1 ∧ l'.f3 = l.f3 ∧ timedP l'.f2.f0 l'.f2.f1) (hs : st'.length = st.length) (hst : ∀ x ∈ st', stGood x) (hf : 0 ≤ f' ∧ f' ≤ 3) : validE nn uu ls' sn lo hi st' f' = 0 := by
  obtain ⟨n, rfl, hO, h1, h2, h3⟩ := validE_ok h
  have hN := hO.net
  have ht := hO.t
  have h0 := hO.sn0
  have h00 := hO.sn1
  have hc : checkE n uu ls' = 0 := by
    unfold checkE
    rw [if_pos ⟨⟨by have := hN.n1; omega, by have := hN.n2; omega⟩, hN.u1, hN.u2⟩, if_neg (by omega)]
    refine linksErr_zero fun l' hl' => ?_
    obtain ⟨l, hm, e0, e1, e3, ht'⟩ := hl l' hl'
    have := hN.links l hm
    rw [linkErr_zero, e0, e1, e3]
    exact ⟨this.1, this.2.1, this.2.2.1, this.2.2.2.1, ht'⟩
  have hS : startE n uu ls' sn lo hi = 0 := by
    unfold startE
    rw [if_pos hc, if_pos ⟨h0, by omega⟩, if_pos ht]
  unfold validE
  rw [if_pos hS, if_pos (by rw [hs]; exact h1), if_pos hst, if_pos hf]
end Go.Proofs.Ytgmglpnoppcnkaa
end
section
namespace Go.Proofs.Ytgmglpnoppcnkaa
open Go.RowKit
set_option linter.unusedVariables false
set_option linter.unusedSimpArgs false

theorem bounded_loop (a b : List PB.S41) (x : Bool) (n : Nat) (ha : a.length = n) (hb : b.length = n) (hl : n ≤ 9223372036854775807)
    (h : ∀ (j : Nat) p q, a[j]? = some p → b[j]? = some q → p.f1 ≤ q.f1 ∧ (x = true → p.f0 = q.f0)) : ∀ d i, i + d = n → ∃ k, PB.tidewalllaw08_bounded.l0 k a b x (i : Int) = some true := by
  intro d
  induction d with
  | zero =>
    intro i hi
    refine ⟨1, ?_⟩
    rw [PB.tidewalllaw08_bounded.l0, if_neg (by omega)]
  | succ d ih =>
    intro i hi
    obtain ⟨k, hk⟩ := ih (i + 1) (by omega)
    refine ⟨k + 1, ?_⟩
    have h0 : i < a.length := by omega
    have h1 : i < b.length := by omega
    have hx := h i a[i] b[i] (List.getElem?_eq_getElem h0) (List.getElem?_eq_getElem h1)
    have r0 : PB.rd_T41 a (i : Int) = a[i] := by
      unfold PB.rd_T41
      simp [h0]
    have r1 : PB.rd_T41 b (i : Int) = b[i] := by
      unfold PB.rd_T41
      simp [h1]
    rw [PB.tidewalllaw08_bounded.l0, if_pos (by omega), if_pos (by omega), if_pos (by omega), r0, r1, if_neg (by omega), wrap_nat (n := n) (by omega) hl, hk]
    split
    · rename_i e
      rw [if_pos (hx.2 e)]
    · rfl
theorem bounded_true (A0 A1 : Option Addr) (c0 c1 : Nat) (a b : List PB.S41) (x : Bool) (w : World) (h0 : DuesAt w A0 a) (k0 : a.length ≤ c0) (h1 : DuesAt w A1 b) (k1 : b.length ≤ c1) (he : a.length = b.length)
    (h : ∀ (j : Nat) p q, a[j]? = some p → b[j]? = some q → p.f1 ≤ q.f1 ∧ (x = true → p.f0 = q.f0)) :
    Calls Try.prog 30 #[.slice A0 a.length c0, .slice A1 b.length c1, .bool x] w fun e w' => e = .returned (.bool true) ∧ Below w.heap.size w w' := by
  obtain ⟨k, hk⟩ := bounded_loop a b x b.length he rfl h1.2.1 h b.length 0 (by omega)
  refine (PB.tidewalllaw08_bounded.calls k A0 c0 a A1 c1 b x true w h0 k0 h1 k1 ?_).mono fun e w' ⟨he, hd⟩ => ⟨he, hd.below⟩
  unfold PB.tidewalllaw08_bounded.f
  rw [if_pos (by omega)]
  exact hk
theorem zipS_get {a b : List Int} {j : Nat} {p : PB.S41} (h : (zipS a b)[j]? = some p) : p.f0 = a.getD j NV ∧ p.f1 = b.getD j NV := by
  unfold zipS at h
  rw [List.getElem?_zipWith] at h
  rw [List.getD_eq_getElem?_getD, List.getD_eq_getElem?_getD]
  cases ha : a[j]? with
  | none => rw [ha] at h; cases h
  | some x =>
    cases hb : b[j]? with
    | none => rw [ha, hb] at h; cases h
    | some y =>
      rw [ha, hb] at h
      cases h
      exact ⟨rfl, rfl⟩
section
variable {n : Nat} {uu : Int} {ls : List Lk} {sn lo hi : Int} {st : List Int} {f : Nat}
theorem worstS_len (h : validE n uu ls sn lo hi st f = 0) : (worstS n ls sn lo hi st f).length = n := by
  obtain ⟨n', e, hO, -⟩ := validE_ok h
  have : n = n' := by omega
  subst this
  unfold worstS zipS
  rw [List.length_zipWith, loL_len hO, worstOf_len hO, Nat.min_self]
theorem valid_st (h : validE n uu ls sn lo hi st f = 0) : StOk n uu ls sn lo hi ∧ (∀ x ∈ st, stGood x) ∧ st.length ≤ 20 ∧ f ≤ 3 := by
  obtain ⟨n', e, hO, h1, h2, h3⟩ := validE_ok h
  have : n = n' := by omega
  subst this
  exact ⟨hO, h2, by have := hO.net.u2; omega, by omega⟩
theorem valid_links (h : validE n uu ls sn lo hi st f = 0) : ∀ l ∈ ls, timedP l.f2.f0 l.f2.f1 := fun l hl => ((valid_st h).1.net.links l hl).2.2.2.2
theorem valid_f (h : validE n uu ls sn lo hi st (f + 1 : Nat) = 0) : validE n uu ls sn lo hi st f = 0 :=
  valid_other h (valid_st h).1.net.len (fun l hl => ⟨l, hl, rfl, rfl, rfl, valid_links h l hl⟩) rfl (valid_st h).2.1 (by have := (valid_st h).2.2.2; omega)
theorem worst_f (h : validE n uu ls sn lo hi st (f + 1 : Nat) = 0) (j : Nat) (p q : PB.S41) (hp : (worstS n ls sn lo hi st f)[j]? = some p) (hq : (worstS n ls sn lo hi st (f + 1))[j]? = some q) : p.f1 ≤ q.f1 ∧ p.f0 = q.f0 := by
  have hO := (valid_st h).1
  obtain ⟨p0, p1⟩ := zipS_get hp
  obtain ⟨q0, q1⟩ := zipS_get hq
  rw [p0, p1, q0, q1]
  refine ⟨worst_mono hO hO st st _ _ j fun x hx => ⟨x, ?_, Int.le_refl _⟩, rfl⟩
  rcases hx with e | e
  · exact .inl e
  · rw [choices_iff] at e
    exact .inr ((choices_iff _ _ _).2 ⟨e.1, by omega⟩)
theorem better_valid (h : validE n uu ls sn lo hi st f = 0) {u : Nat} (hu : u < st.length) : validE n uu ls sn lo hi (betterL st u) f = 0 := by
  refine valid_other h (valid_st h).1.net.len (fun l hl => ⟨l, hl, rfl, rfl, rfl, valid_links h l hl⟩) (better_len st u) (fun x hx => ?_) (by have := (valid_st h).2.2.2; omega)
  rcases List.mem_or_eq_of_mem_set hx with e | e
  · exact (valid_st h).2.1 x e
  · rw [e]
    refine better_good ?_
    have : st.getD u 1 = st[u] := by simp [hu]
    rw [this]
    exact (valid_st h).2.1 _ (List.getElem_mem hu)
theorem worst_better (h : validE n uu ls sn lo hi st f = 0) {u : Nat} (hu : u < st.length) (j : Nat) (p q : PB.S41) (hp : (worstS n ls sn lo hi (betterL st u) f)[j]? = some p) (hq : (worstS n ls sn lo hi st f)[j]? = some q) : p.f1 ≤ q.f1 := by
  obtain ⟨hO, h1, h2, _⟩ := valid_st h
  obtain ⟨p0, p1⟩ := zipS_get hp
  obtain ⟨q0, q1⟩ := zipS_get hq
  rw [p1, q1]
  exact better_mono hO st h1 h2 f u hu j
theorem less_valid (h : validE n uu ls sn lo hi st f = 0) (m : Nat) : validE n uu (ls.take m) sn lo hi st f = 0 :=
  valid_other h (by rw [List.length_take]; have := (valid_st h).1.net.len; omega) (fun l hl => ⟨l, List.mem_of_mem_take hl, rfl, rfl, rfl, valid_links h l (List.mem_of_mem_take hl)⟩) rfl (valid_st h).2.1 (by have := (valid_st h).2.2.2; omega)
theorem worst_less (h : validE n uu ls sn lo hi st f = 0) (m j : Nat) (p q : PB.S41) (hp : (worstS n ls sn lo hi st f)[j]? = some p) (hq : (worstS n (ls.take m) sn lo hi st f)[j]? = some q) : p.f0 ≤ q.f0 ∧ p.f1 ≤ q.f1 := by
  have hO := (valid_st h).1
  have hO' := (valid_st (less_valid h m)).1
  obtain ⟨p0, p1⟩ := zipS_get hp
  obtain ⟨q0, q1⟩ := zipS_get hq
  rw [p0, p1, q0, q1]
  exact ⟨lo_links hO hO' (Int.le_refl _) _ (fun l hl => ⟨l, List.mem_of_mem_take hl, rfl, rfl, rfl, Int.le_refl _⟩) j, worst_links hO hO' (Int.le_refl _) st _ (fun l hl => ⟨l, List.mem_of_mem_take hl, rfl, rfl, rfl, rfl, Int.le_refl _⟩) j⟩
/-- A link whose delay is narrowed from both sides. -/
def tightK (l : Lk) (a b : Int) : Lk := { l with f2 := { l.f2 with f0 := min l.f2.f1 (l.f2.f0 + a), f1 := max (min l.f2.f1 (l.f2.f0 + a)) (l.f2.f1 - b) } }
def tightL (ls : List Lk) (i : Nat) (a b : Int) : List Lk := match ls[i]? with | some l => ls.set i (tightK l a b) | none => ls
theorem tight_mem {i : Nat} (hi : i < ls.length) {a b : Int} {l' : Lk} (h : l' ∈ tightL ls i a b) : l' ∈ ls ∨ l' = tightK ls[i] a b := by
  unfold tightL at h
  rw [List.getElem?_eq_getElem hi] at h
  exact List.mem_or_eq_of_mem_set h
theorem tight_len (i : Nat) (a b : Int) : (tightL ls i a b).length = ls.length := by
  unfold tightL
  split <;> simp
theorem tight_ok {l : Lk} (h : timedP l.f2.f0 l.f2.f1) {a b : Int} (ha : 0 ≤ a) (hb : 0 ≤ b) : timedP (tightK l a b).f2.f0 (tightK l a b).f2.f1 ∧ l.f2.f0 ≤ (tightK l a b).f2.f0 ∧ (tightK l a b).f2.f1 ≤ l.f2.f1 := by
  unfold timedP at *
  unfold tightK
  simp only
  omega
theorem tight_valid (h : validE n uu ls sn lo hi st f = 0) {i : Nat} (hil : i < ls.length) {a b : Int} (ha : 0 ≤ a) (hb : 0 ≤ b) : validE n uu (tightL ls i a b) sn lo hi st f = 0 := by
  refine valid_other h (by rw [tight_len]; exact (valid_st h).1.net.len) (fun l' hl' => ?_) rfl (valid_st h).2.1 (by have := (valid_st h).2.2.2; omega)
  rcases tight_mem hil hl' with e | e
  · exact ⟨l', e, rfl, rfl, rfl, valid_links h l' e⟩
  · exact ⟨ls[i], List.getElem_mem hil, by rw [e]; rfl, by rw [e]; rfl, by rw [e]; rfl, by rw [e]; exact (tight_ok (valid_links h _ (List.getElem_mem hil)) ha hb).1⟩
theorem worst_tight (h : validE n uu ls sn lo hi st f = 0) {i : Nat} (hil : i < ls.length) {a b : Int} (ha : 0 ≤ a) (hb : 0 ≤ b) (j : Nat) (p q : PB.S41) (hp : (worstS n ls sn lo hi st f)[j]? = some p) (hq : (worstS n (tightL ls i a b) sn lo hi st f)[j]? = some q) : p.f0 ≤ q.f0 ∧ q.f1 ≤ p.f1 := by
  have hO := (valid_st h).1
  have hO' := (valid_st (tight_valid h hil ha hb)).1
  obtain ⟨p0, p1⟩ := zipS_get hp
  obtain ⟨q0, q1⟩ := zipS_get hq
  have hk := tight_ok (valid_links h _ (List.getElem_mem hil)) ha hb
  rw [p0, p1, q0, q1]
  refine ⟨lo_links hO hO' (Int.le_refl _) _ (fun l hl => ?_) j, worst_links hO' hO (Int.le_refl _) st _ (fun l hl => ?_) j⟩
  · rcases tight_mem hil hl with e | e
    · exact ⟨l, e, rfl, rfl, rfl, Int.le_refl _⟩
    · exact ⟨ls[i], List.getElem_mem hil, by rw [e]; rfl, by rw [e]; rfl, by rw [e]; rfl, by rw [e]; exact hk.2.1⟩
  · obtain ⟨m, hm, e⟩ := List.mem_iff_getElem.1 hl
    by_cases hmi : m = i
    · subst hmi
      refine ⟨tightK ls[m] a b, ?_, by rw [← e]; rfl, by rw [← e]; rfl, by rw [← e]; rfl, by rw [← e]; rfl, by rw [← e]; exact hk.2.2⟩
      unfold tightL
      rw [List.getElem?_eq_getElem hm]
      exact List.mem_set hm _
    · refine ⟨l, ?_, rfl, rfl, rfl, rfl, Int.le_refl _⟩
      unfold tightL
      rw [List.getElem?_eq_getElem hil]
      refine List.mem_iff_getElem?.2 ⟨m, ?_⟩
      show (ls.set i _)[m]? = _
      rw [List.getElem?_set_ne (fun h => hmi h.symm), List.getElem?_eq_getElem hm, e]
end
end Go.Proofs.Ytgmglpnoppcnkaa
end
