/- Lemmas and contracts for the claim: part 7, brought together by program. -/
import Derived.Test.YtgmglpnoppcnkaaZR6
section
namespace Go.Proofs.Ytgmglpnoppcnkaa
open Go.RowKit Go.Proofs.YtgmglpnoppcnkaaW.PrintWords Go.Proofs.YtgmglpnoppcnkaaW.PrintLast Go.Proofs.YtgmglpnoppcnkaaW.PrintMore
set_option linter.unusedVariables false
set_option linter.unusedSimpArgs false
abbrev DR := List Int × List Int × Int
theorem onlyU_cons (a : Int) (r : List Int) : onlyU (a :: r) = if (∀ y ∈ r, y = a) ∧ 0 ≤ a then some a else none := rfl
theorem all_eq_iff (a : Int) (t : List Int) : t.all (fun y => y == a) = true ↔ ∀ y ∈ t, y = a := by simp
section
variable (l : List Du) (hl : l.length ≤ 1000000) (ls : List Lk) (hls : ls.length ≤ 1000000) (nn : Int) (uu : Nat) (huu : uu ≤ 20) (us : List Int) (husl : us.length ≤ 1000000) (hus : ∀ v ∈ us, 0 ≤ v) (sn lo hi : Int)
variable (hb : ∀ k t, tmOf l k = some t → 0 ≤ t ∧ t ≤ 1000000000) (hd : ∀ x ∈ ls, timedP x.f2.f0 x.f2.f1 ∧ -1 ≤ x.f3 ∧ x.f3 < 20)
/-- The loop that asks whether all are one. -/
theorem only_loop (wk : List Int) (hwk : wk.length ≤ 1000000) (i : Nat) (hin : i ≤ 1000000) (a : Int) (r : List Int) (hr : (a :: r).length ≤ 1000000) (R : DR)
    (hnext : Ev (fun k => PR.tidewallref08_Diagnose.l1 k (l.map cvR) (wk ++ (onlyU (a :: r)).toList) us ((i + 1 : Nat) : Int) nn uu (ls.map cvL) sn lo hi) R) : ∀ (d j : Nat), j + d = (a :: r).length →
    Ev (fun k => PR.tidewallref08_Diagnose.l2 k (l.map cvR) wk us (i : Int) (a :: r) (((a :: r).take j).all (fun y => y == a)) (j : Int) nn uu (ls.map cvL) sn lo hi) R := by
  have hrd0 : rd (a :: r) 0 = a := rfl
  have hpos : (0 : Int) < ((a :: r).length : Int) := by rw [List.length_cons]; omega
  rw [onlyU_cons] at hnext
  intro d
  induction d with
  | zero =>
    intro j hj
    rw [List.take_of_length_le (by omega)]
    by_cases h : ∀ y ∈ a :: r, y = a
    · rw [(all_eq_iff a (a :: r)).2 h]
      have h' : ∀ y ∈ r, y = a := fun y hy => h y (List.mem_cons_of_mem _ hy)
      by_cases ha : 0 ≤ a
      · rw [if_pos ⟨h', ha⟩] at hnext
        refine Ev.step (fun k => ?_) hnext
        rw [PR.tidewallref08_Diagnose.l2, if_neg (by omega), if_pos rfl, if_pos hpos, hrd0, if_pos ha, if_pos (by omega), wrapS i hin]
        rfl
      · rw [if_neg (fun h => ha h.2)] at hnext
        have hnext' : Ev (fun k => PR.tidewallref08_Diagnose.l1 k (l.map cvR) wk us ((i + 1 : Nat) : Int) nn uu (ls.map cvL) sn lo hi) R := by simpa using hnext
        refine Ev.step (fun k => ?_) hnext'
        rw [PR.tidewallref08_Diagnose.l2, if_neg (by omega), if_pos rfl, if_pos hpos, hrd0, if_neg (by omega), wrapS i hin]
    · have e : (a :: r).all (fun y => y == a) = false := by
        rw [Bool.eq_false_iff]
        exact fun h2 => h ((all_eq_iff a (a :: r)).1 h2)
      rw [e]
      rw [if_neg (fun h2 => h (fun y hy => by
        rcases List.mem_cons.1 hy with e | e
        · exact e
        · exact h2.1 y e))] at hnext
      have hnext' : Ev (fun k => PR.tidewallref08_Diagnose.l1 k (l.map cvR) wk us ((i + 1 : Nat) : Int) nn uu (ls.map cvL) sn lo hi) R := by simpa using hnext
      refine Ev.step (fun k => ?_) hnext'
      rw [PR.tidewallref08_Diagnose.l2, if_neg (by omega), if_neg (by decide), wrapS i hin]
  | succ d ih =>
    intro j hj
    have hjl : j < (a :: r).length := by omega
    have h := ih (j + 1) (by omega)
    have hrd : rd (a :: r) (j : Int) = (a :: r)[j] := by
      unfold rd
      rw [Int.toNat_natCast, List.getD_eq_getElem?_getD, List.getElem?_eq_getElem hjl]
      rfl
    have htk : (a :: r).take (j + 1) = (a :: r).take j ++ [(a :: r)[j]] := by
      rw [List.take_add_one, List.getElem?_eq_getElem hjl]; rfl
    rw [htk, List.all_append] at h
    cases hA : ((a :: r).take j).all (fun y => y == a)
    · rw [hA, Bool.false_and] at h
      refine Ev.step (fun k => ?_) h
      rw [PR.tidewallref08_Diagnose.l2, if_pos (by omega), if_neg (by decide), wrapS j (by omega)]
    · rw [hA, Bool.true_and] at h
      have e : [(a :: r)[j]].all (fun y => y == a) = ((a :: r)[j] == a) := by simp only [List.all_cons, List.all_nil, Bool.and_true]
      rw [e] at h
      refine Ev.step (fun k => ?_) h
      rw [PR.tidewallref08_Diagnose.l2, if_pos (by omega), if_pos rfl, if_pos (by omega), if_pos hpos, hrd, hrd0, wrapS j (by omega)]
include hl hls huu husl hus hb hd in
theorem l1_loop (hdist : ∀ (i : Nat) (h : i < l.length), tmOf l l[i].f0 = some l[i].f1) : ∀ (d i : Nat), i + d = l.length →
    Ev (fun k => PR.tidewallref08_Diagnose.l1 k (l.map cvR) ((l.take i).filterMap (fun x => goodU (tmOf l) (failB us) sn ls x.f0)) us (i : Int) nn uu (ls.map cvL) sn lo hi)
      (if ∀ x ∈ l.drop i, x.f0 ≠ sn → brU (tmOf l) (failB us) x.f0 ls ≠ [] then (ascL (l.filterMap (fun x => goodU (tmOf l) (failB us) sn ls x.f0)) uu, ascL us uu, 0) else ([], [], 14)) := by
  intro d
  have hwl : ∀ n, ((l.take n).filterMap (fun x => goodU (tmOf l) (failB us) sn ls x.f0)).length ≤ 1000000 := fun n => by
    refine Nat.le_trans (List.length_filterMap_le ..) ?_
    rw [List.length_take]
    omega
  induction d with
  | zero =>
    intro i hi
    rw [List.take_of_length_le (by omega), List.drop_of_length_le (by omega), if_pos (fun x hx => by simp at hx)]
    have hw := hwl l.length
    rw [List.take_length] at hw
    refine Ev.step (fun k => by rw [PR.tidewallref08_Diagnose.l1, if_neg (by rw [List.length_map]; omega)]) (Ev.bind (asc_ev _ hw nn uu huu _) (Ev.bind (asc_ev us husl nn uu huu _) ?_))
    exact Ev.now _
  | succ d ih =>
    intro i hi0
    have hil : i < l.length := by omega
    have h := ih (i + 1) (by omega)
    rw [List.drop_eq_getElem_cons hil]
    have htk : l.take (i + 1) = l.take i ++ [l[i]] := by rw [List.take_add_one, List.getElem?_eq_getElem hil]; rfl
    rw [htk, List.filterMap_append] at h
    by_cases hs : l[i].f0 = sn
    · have e1 : List.filterMap (fun x : Du => goodU (tmOf l) (failB us) sn ls x.f0) [l[i]] = [] := by
        simp [goodU, hs]
      rw [e1, List.append_nil] at h
      refine Ev.eq (Ev.step (fun k => ?_) h) ?_
      · rw [PR.tidewallref08_Diagnose.l1, if_pos (by rw [List.length_map]; omega), if_pos (by omega), rd70 l i hil, if_pos (show (cvR l[i]).f0 = sn from hs), wrapS i (by omega)]
      · by_cases hall : ∀ x ∈ l.drop (i + 1), x.f0 ≠ sn → brU (tmOf l) (failB us) x.f0 ls ≠ []
        · rw [if_pos hall, if_pos]
          intro x hx hne
          rcases List.mem_cons.1 hx with e | e
          · rw [e] at hne; exact absurd hs hne
          · exact hall x e hne
        · rw [if_neg hall, if_neg (fun h => hall fun x hx => h x (List.mem_cons_of_mem _ hx))]
    · refine Ev.step (fun k => by rw [PR.tidewallref08_Diagnose.l1, if_pos (by rw [List.length_map]; omega), if_pos (by omega), rd70 l i hil, if_neg (show ¬ (cvR l[i]).f0 = sn from hs)]; rfl) (Ev.bind (br_ev l hl ls hls nn uu us husl hus hb hd l[i].f0 l[i].f1 (hdist i hil)) ?_)
      cases hbr : brU (tmOf l) (failB us) l[i].f0 ls with
      | nil =>
        rw [if_neg (fun h => h l[i] List.mem_cons_self hs hbr)]
        exact Ev.congr (f := fun _ => some ([], [], 14)) (fun k => rfl) (Ev.now _)
      | cons a r =>
        have hbl : (a :: r).length ≤ 1000000 := by
          have := brU_len (tmOf l) (failB us) l[i].f0 ls
          rw [hbr] at this
          omega
        have e1 : List.filterMap (fun x : Du => goodU (tmOf l) (failB us) sn ls x.f0) [l[i]] = (onlyU (a :: r)).toList := by
          simp only [List.filterMap_cons, goodU, if_neg hs, hbr, List.filterMap_nil]
          cases onlyU (a :: r) <;> rfl
        rw [e1] at h
        have h2 := only_loop l ls nn uu us sn lo hi _ (hwl i) i (by omega) a r hbl _ h (a :: r).length 0 (by omega)
        refine Ev.eq (Ev.congr (fun k => ?_) h2) ?_
        · rw [if_neg (by simp; omega)]
          rfl
        · by_cases hall : ∀ x ∈ l.drop (i + 1), x.f0 ≠ sn → brU (tmOf l) (failB us) x.f0 ls ≠ []
          · rw [if_pos hall, if_pos]
            intro x hx hne
            rcases List.mem_cons.1 hx with e | e
            · rw [e, hbr]; simp
            · exact hall x e hne
          · rw [if_neg hall, if_neg (fun h => hall fun x hx => h x (List.mem_cons_of_mem _ hx))]
end
theorem l0_loop (l : List Du) (hl : l.length ≤ 1000000) (ls : List Lk) (hls : ls.length ≤ 1000000) (nn : Int) (uu : Nat) (sn lo hi u : Int) (hb : ∀ k t, tmOf l k = some t → 0 ≤ t ∧ t ≤ 1000000000) (hd : ∀ x ∈ ls, timedP x.f2.f0 x.f2.f1 ∧ -1 ≤ x.f3 ∧ x.f3 < 20) (R : DR)
    (hnext : (∀ v ∈ silU (tmOf l) sn u ls, 0 ≤ v) → Ev (fun k => PR.tidewallref08_Diagnose.l1 k (l.map cvR) [] (silU (tmOf l) sn u ls) 0 nn uu (ls.map cvL) sn lo hi) R) : ∀ (d i : Nat), i + d = ls.length → (∀ v ∈ silU (tmOf l) sn u (ls.take i), 0 ≤ v) →
    Ev (fun k => PR.tidewallref08_Diagnose.l0 k (l.map cvR) u (silU (tmOf l) sn u (ls.take i)) (i : Int) nn uu (ls.map cvL) sn lo hi) (if ∀ v ∈ silU (tmOf l) sn u ls, 0 ≤ v then R else ([], [], 14)) := by
  intro d
  induction d with
  | zero =>
    intro i hi0 hpos
    rw [List.take_of_length_le (by omega)] at hpos ⊢
    rw [if_pos hpos]
    refine Ev.step (fun k => ?_) (hnext hpos)
    rw [PR.tidewallref08_Diagnose.l0, if_neg (by rw [List.length_map]; omega)]
  | succ d ih =>
    intro i hi0 hpos
    have hil : i < ls.length := by omega
    have hx := hd ls[i] (List.getElem_mem hil)
    have hsn := silU_snoc (tmOf l) sn u (ls.take i) ls[i]
    rw [← take_snoc ls i hil] at hsn
    have hlen : (silU (tmOf l) sn u (ls.take i)).length ≤ 1000000 := by
      unfold silU
      rw [List.length_map]
      refine Nat.le_trans (List.length_filter_le ..) ?_
      rw [List.length_take]
      omega
    have ht := hx.1
    unfold timedP at ht
    refine Ev.step (fun k => by rw [PR.tidewallref08_Diagnose.l0, if_pos (by rw [List.length_map]; omega), if_pos (by omega), rd175 ls i hil]; rfl) (Ev.bind (rsilent_ev l hl ls[i] u hb (by omega)) ?_)
    obtain ⟨x, hxe⟩ : ∃ x, x = ls[i] := ⟨_, rfl⟩
    rw [← hxe] at hsn ⊢
    -- no report
    have hno : ¬ (x.f1 ≠ sn ∧ silentB (tmOf l) x u = true) → Ev (fun k => PR.tidewallref08_Diagnose.j4 k (l.map cvR) u (silU (tmOf l) sn u (ls.take i)) (i : Int) true nn uu (ls.map cvL) sn lo hi (cvL x).f0 (cvL x).f1 (cvL x).f2.f0 (cvL x).f2.f1 (cvL x).f3 (cvL x).f4) (if ∀ v ∈ silU (tmOf l) sn u ls, 0 ≤ v then R else ([], [], 14)) := fun hn => by
      rw [if_neg hn] at hsn
      have h := ih (i + 1) (by omega) (by rw [hsn]; exact hpos)
      rw [hsn] at h
      refine Ev.step (fun k => ?_) h
      rw [PR.tidewallref08_Diagnose.j4, if_pos rfl, wrapS i (by omega)]
    by_cases hS : silentB (tmOf l) x u = true
    · by_cases hT : x.f1 = sn
      · refine Ev.congr (fun k => ?_) (hno (fun h => h.1 hT))
        have e : (((cvL x).f1 == sn) : Bool) = true := beq_iff_eq.2 hT
        rw [if_pos hS, e]
      · have e : (((cvL x).f1 == sn) : Bool) = false := beq_eq_false_iff_ne.2 hT
        by_cases hneg : x.f3 < 0
        · have : ¬ ∀ v ∈ silU (tmOf l) sn u ls, 0 ≤ v := fun hall => by
            have hm : x.f3 ∈ silU (tmOf l) sn u ls := by
              unfold silU
              exact List.mem_map.2 ⟨x, List.mem_filter.2 ⟨by rw [hxe]; exact List.getElem_mem hil, by simp [hT, hS]⟩, rfl⟩
            have := hall _ hm
            omega
          rw [if_neg this]
          refine Ev.congr (f := fun k => PR.tidewallref08_Diagnose.j4 k (l.map cvR) u (silU (tmOf l) sn u (ls.take i)) (i : Int) false nn uu (ls.map cvL) sn lo hi (cvL x).f0 (cvL x).f1 (cvL x).f2.f0 (cvL x).f2.f1 (cvL x).f3 (cvL x).f4) (fun k => by rw [if_pos hS, e]) (Ev.step (f := fun _ => some ([], [], 14)) (fun k => ?_) (Ev.now _))
          rw [PR.tidewallref08_Diagnose.j4, if_neg (by decide), if_pos (show (cvL x).f3 < 0 from hneg)]
        · rw [if_pos ⟨hT, hS⟩] at hsn
          have h := ih (i + 1) (by omega) (by
            rw [hsn]
            intro v hv
            rcases List.mem_append.1 hv with h1 | h1
            · exact hpos v h1
            · rw [List.mem_singleton] at h1; omega)
          rw [hsn] at h
          refine Ev.congr (f := fun k => PR.tidewallref08_Diagnose.j4 k (l.map cvR) u (silU (tmOf l) sn u (ls.take i)) (i : Int) false nn uu (ls.map cvL) sn lo hi (cvL x).f0 (cvL x).f1 (cvL x).f2.f0 (cvL x).f2.f1 (cvL x).f3 (cvL x).f4) (fun k => by rw [if_pos hS, e]) (Ev.step (fun k => ?_) h)
          rw [PR.tidewallref08_Diagnose.j4, if_neg (by decide), if_neg (show ¬ (cvL x).f3 < 0 from hneg), if_pos (by omega), wrapS i (by omega)]
          rfl
    · refine Ev.congr (fun k => ?_) (hno (fun h => hS h.2))
      rw [if_neg hS]
/-- The receipts of distinct nodes. -/
theorem rc_dist {nn u : Int} : ∀ (l done : List Du), rcErr nn u done l = 0 → (∀ (i : Nat) (h : i < done.length), tmOf done done[i].f0 = some done[i].f1) → ∀ (i : Nat) (h : i < (done ++ l).length), tmOf (done ++ l) (done ++ l)[i].f0 = some (done ++ l)[i].f1 := by
  intro l
  induction l with
  | nil =>
    intro done _ hd i h
    simpa using hd i (by simpa using h)
  | cons x r ih =>
    intro done h0 hd
    rw [rcErr] at h0
    split at h0
    · split at h0
      · cases h0
      · rename_i h2
        split at h0
        · have h2' : tmOf done x.f0 = none := by simpa using h2
          have := ih (done ++ [x]) h0 (fun i hi => by
            rw [tmOf_snoc done x h2']
            by_cases hil : i < done.length
            · rw [List.getElem_append_left hil]
              have hne : ¬ done[i].f0 = x.f0 := fun e => by
                have := hd i hil
                rw [e, h2'] at this
                cases this
              rw [if_neg hne]
              exact hd i hil
            · have : i = done.length := by simp at hi; omega
              subst this
              simp)
          simpa using this
        · cases h0
    · cases h0
theorem rcErr_bounds {nn u : Int} : ∀ (l done : List Du), rcErr nn u done l = 0 → ∀ x ∈ l, (0 ≤ x.f0 ∧ x.f0 ≤ nn - 1) ∧ 0 ≤ x.f1 ∧ x.f1 ≤ u := by
  intro l
  induction l with
  | nil => intro _ _ x hx; simp at hx
  | cons y r ih =>
    intro done h0
    rw [rcErr] at h0
    split at h0
    · rename_i h1
      split at h0
      · cases h0
      · split at h0
        · rename_i h3
          intro x hx
          rcases List.mem_cons.1 hx with rfl | hx
          · exact ⟨h1, h3⟩
          · exact ih _ h0 x hx
        · cases h0
    · cases h0
/-- The reference's Diagnose answers diagE. -/
theorem rdiag_ev (nn uu : Int) (ls : List Lk) (sn lo hi : Int) (l : List Du) (u : Int) (hl : l.length ≤ 1000000) : Ev (fun k => PR.tidewallref08_Diagnose.f k nn uu (ls.map cvL) sn lo hi (l.map cvR) u)
    (if diagE nn uu ls sn lo hi l u = 0 then (listB (dWork ls sn l u), listB (dFail ls sn l u), 0) else ([], [], diagE nn uu ls sn lo hi l u)) := by
  unfold PR.tidewallref08_Diagnose.f
  refine Ev.bind (rstart_ev nn uu ls sn lo hi) ?_
  -- behind the receipts
  have hj2 : ∀ E : Int, E ≠ 0 → Ev (fun k => PR.tidewallref08_Diagnose.j2 k (l.map cvR) u E nn uu (ls.map cvL) sn lo hi) ([], [], E) := fun E hE =>
    Ev.step (f := fun _ => some ([], [], E)) (fun k => by rw [PR.tidewallref08_Diagnose.j2, if_neg hE]) (Ev.now _)
  have hj1 : ∀ E : Int, E ≠ 0 → Ev (fun k => PR.tidewallref08_Diagnose.j1 k (l.map cvR) u E nn uu (ls.map cvL) sn lo hi) ([], [], E) := fun E hE =>
    Ev.step (fun k => by rw [PR.tidewallref08_Diagnose.j1, if_neg hE]) (hj2 E hE)
  by_cases h0 : startE nn uu ls sn lo hi = 0
  · obtain ⟨n, rfl, hO⟩ := startE_ok h0
    have hn1 := hO.net.n1
    have hn2 := hO.net.n2
    by_cases hu : 0 ≤ u ∧ u ≤ 1000000000
    · have hj : Ev (fun k => PR.tidewallref08_Diagnose.j1 k (l.map cvR) u 0 (n : Int) uu (ls.map cvL) sn lo hi) (if diagE n uu ls sn lo hi l u = 0 then (listB (dWork ls sn l u), listB (dFail ls sn l u), 0) else ([], [], diagE n uu ls sn lo hi l u)) := by
        refine Ev.step (fun k => by rw [PR.tidewallref08_Diagnose.j1, if_pos rfl]) (Ev.bind (rc_ev l hl n uu u hn1 hn2 _) ?_)
        by_cases hrc : rcErr n u [] l = 0
        · have hE : diagE n uu ls sn lo hi l u = runErr ls sn lo hi l u := by unfold diagE; rw [if_pos h0, if_pos hu, if_pos hrc]
          have hbd := rcErr_bounds l [] hrc
          have hb : ∀ k t, tmOf l k = some t → 0 ≤ t ∧ t ≤ 1000000000 := fun k t ht => by
            obtain ⟨x, hx, -, e⟩ := tmOf_mem ht
            have := (hbd x hx).2
            omega
          have hdist : ∀ (i : Nat) (h : i < l.length), tmOf l l[i].f0 = some l[i].f1 := by
            have := rc_dist l [] hrc (fun i h => by simp at h)
            simpa using this
          have hls : ls.length ≤ 1000000 := by have := hO.net.len; omega
          obtain ⟨un, hun⟩ := Int.eq_ofNat_of_zero_le hO.net.u1
          have hun20 : un ≤ 20 := by have := hO.net.u2; omega
          have hd : ∀ x ∈ ls, timedP x.f2.f0 x.f2.f1 ∧ -1 ≤ x.f3 ∧ x.f3 < 20 := fun x hx => by
            have h1 := hO.net.links x hx
            exact ⟨h1.2.2.2.2, h1.2.2.1.1, by omega⟩
          have hdu : ∀ x ∈ ls, x.f3 < un := fun x hx => by
            have h1 := hO.net.links x hx
            omega
          rw [hrc, hE]
          refine Ev.step (fun k => by rw [PR.tidewallref08_Diagnose.j2, if_pos rfl]) (Ev.bind (time_ev l hl sn) ?_)
          cases hT : tmOf l sn with
          | none =>
            have hR : runErr ls sn lo hi l u = 2 := by unfold runErr; rw [hT]
            rw [hR, if_neg (by decide)]
            exact Ev.congr (f := fun _ => some ([], [], 2)) (fun k => rfl) (Ev.now _)
          | some t =>
            have htb := hb _ _ hT
            show Ev (fun k => if t < 0 then _ else _) _
            by_cases hin : lo ≤ t ∧ t ≤ hi
            · have hR : runErr ls sn lo hi l u = if ∀ v ∈ silU (tmOf l) sn u ls, 0 ≤ v then (if ∀ x ∈ l, x.f0 ≠ sn → brU (tmOf l) (dFail ls sn l u) x.f0 ls ≠ [] then 0 else 14) else 14 := by unfold runErr; rw [hT]; exact if_pos hin
              rw [hR]
              have hus20 : (silU (tmOf l) sn u ls).length ≤ 1000000 := by
                unfold silU
                rw [List.length_map]
                exact Nat.le_trans (List.length_filter_le ..) hls
              have hl0 := l0_loop l hl ls hls n un sn lo hi u hb hd _ (fun hpos => l1_loop l hl ls hls n un hun20 (silU (tmOf l) sn u ls) hus20 hpos sn lo hi hb hd hdist l.length 0 (by omega)) ls.length 0 (by omega) (fun v hv => by simp [silU] at hv)
              rw [List.drop_zero] at hl0
              rw [hun]
              refine Ev.eq (Ev.congr (fun k => ?_) hl0) ?_
              · rw [if_neg (by omega), Option.getD_some, rwithin, Option.bind_some, if_pos (decide_eq_true hin)]
                rfl
              · by_cases hpos : ∀ v ∈ silU (tmOf l) sn u ls, 0 ≤ v
                · rw [if_pos hpos, if_pos hpos]
                  show (if ∀ x ∈ l, x.f0 ≠ sn → brU (tmOf l) (dFail ls sn l u) x.f0 ls ≠ [] then _ else _) = _
                  by_cases hall : ∀ x ∈ l, x.f0 ≠ sn → brU (tmOf l) (dFail ls sn l u) x.f0 ls ≠ []
                  · rw [if_pos hall, if_pos hall, if_pos rfl]
                    have e1 : listB (dFail ls sn l u) = ascL (silU (tmOf l) sn u ls) un := listB_asc _ un hun20 (fun v hv => by
                      obtain ⟨y, hy, e⟩ := silU_mem hv
                      exact ⟨hpos v hv, by have := hdu y hy; omega⟩)
                    have e2 : listB (dWork ls sn l u) = ascL (l.filterMap (fun x => goodU (tmOf l) (dFail ls sn l u) sn ls x.f0)) un := listB_asc _ un hun20 (fun v hv => by
                      obtain ⟨x, hx, h1⟩ := List.mem_filterMap.1 hv
                      unfold goodU at h1
                      split at h1
                      · cases h1
                      · cases hbr : brU (tmOf l) (dFail ls sn l u) x.f0 ls with
                        | nil => rw [hbr] at h1; cases h1
                        | cons a r =>
                          rw [hbr] at h1
                          unfold onlyU at h1
                          simp only at h1
                          split at h1
                          · rename_i h2
                            cases h1
                            obtain ⟨y, hy, e⟩ := brU_mem (tm := tmOf l) (failed := dFail ls sn l u) (k := x.f0) (ls := ls) (v := v) (by rw [hbr]; exact List.mem_cons_self)
                            exact ⟨h2.2, by have := hdu y hy; omega⟩
                          · cases h1)
                    rw [e1, e2]
                    rfl
                  · rw [if_neg hall, if_neg hall, if_neg (by decide)]
                · rw [if_neg hpos, if_neg hpos, if_neg (by decide)]
            · have hR : runErr ls sn lo hi l u = 14 := by unfold runErr; rw [hT]; exact if_neg hin
              rw [hR, if_neg (by decide)]
              refine Ev.congr (f := fun _ => some ([], [], 14)) (fun k => ?_) (Ev.now _)
              rw [if_neg (by omega), rwithin, Option.bind_some, if_neg (by rw [decide_eq_true_eq]; exact hin)]
        · have hE : diagE n uu ls sn lo hi l u = rcErr n u [] l := by unfold diagE; rw [if_pos h0, if_pos hu, if_neg hrc]
          rw [hE, if_neg hrc]
          exact hj2 _ hrc
      rw [h0]
      refine Ev.congr (f := fun k => PR.tidewallref08_Diagnose.j0 k (l.map cvR) u 0 false (n : Int) uu (ls.map cvL) sn lo hi) (fun k => ?_) (Ev.step (fun k => ?_) hj)
      · rw [if_pos rfl, rwithin, Option.bind_some, decide_eq_true hu]
        rfl
      · rw [PR.tidewallref08_Diagnose.j0, if_neg (by decide)]
    · have hE : diagE n uu ls sn lo hi l u = 3 := by unfold diagE; rw [if_pos h0, if_neg hu]
      rw [hE, if_neg (by decide), h0]
      refine Ev.congr (f := fun k => PR.tidewallref08_Diagnose.j0 k (l.map cvR) u 0 true (n : Int) uu (ls.map cvL) sn lo hi) (fun k => ?_) (Ev.step (fun k => ?_) (hj1 3 (by decide)))
      · rw [if_pos rfl, rwithin, Option.bind_some, decide_eq_false hu]
        rfl
      · rw [PR.tidewallref08_Diagnose.j0, if_pos rfl]
  · have hE : diagE nn uu ls sn lo hi l u = startE nn uu ls sn lo hi := by unfold diagE; rw [if_neg h0]
    rw [hE, if_neg h0]
    refine Ev.congr (f := fun k => PR.tidewallref08_Diagnose.j0 k (l.map cvR) u (startE nn uu ls sn lo hi) false nn uu (ls.map cvL) sn lo hi) (fun k => if_neg h0) (Ev.step (fun k => ?_) (hj1 _ h0))
    rw [PR.tidewallref08_Diagnose.j0, if_neg (by decide)]
end Go.Proofs.Ytgmglpnoppcnkaa
end
section
namespace Go.Proofs.Ytgmglpnoppcnkaa
open Go.RowKit Go.Proofs.YtgmglpnoppcnkaaW.PrintWords Go.Proofs.YtgmglpnoppcnkaaW.PrintLast Go.Proofs.YtgmglpnoppcnkaaW.PrintMore
set_option linter.unusedVariables false
set_option linter.unusedSimpArgs false
set_option maxRecDepth 100000
attribute [local go_sem] Oper.semAt_some
theorem info175 : (Try.prog.info? 175).map (fun i => (i.zero, i.size, i.bytes)) = some (some (.agg #[.int .i64 0, .int .i64 0, .int .i64 0, .int .i64 0, .int .i64 0, .bool false]), 6, 48) := by kernel_rfl
theorem C_own {w : World} {B e g cap : Nat} {ls : List Lk} (h : w.ownsRow B e 6 (.slice (some ⟨g, 0, none⟩) ls.length cap) ls.length (linksCs ls)) (hl : ls.length ≤ 9223372036854775807) : LinksAt w (some ⟨g, 0, none⟩) ls := by
  refine ⟨rfl, hl, fun _ => ⟨_, rfl, fun j p hj => ?_⟩⟩
  obtain ⟨hj1, hj2⟩ := List.getElem?_eq_some_iff.1 hj
  refine ⟨(linkCs p).toList, rfl, PB.k88_mk w p, fun i u hu => ?_⟩
  have hi6 : i < 6 := (List.getElem?_eq_some_iff.1 hu).1
  have hg := linksCs_get ls j i hj1 hi6
  rw [hj2, hu] at hg
  have hlt : j * 6 + i < ls.length * 6 := by omega
  rw [show (Kd.sz PB.k88) = 6 from rfl, Addr.add_mid, Nat.zero_add, h.cellAt (j * 6 + i) hlt]
  exact hg
theorem own_links_any {w : World} {B e : Nat} {v : Value} {ls : List Lk} (h : w.ownsRow B e 6 v ls.length (linksCs ls)) (hl : ls.length ≤ 9223372036854775807) : ∃ A c, v = .slice A ls.length c ∧ ls.length ≤ c ∧ LinksAt w A ls := by
  rcases h.2 with ⟨e1, e0⟩ | ⟨g, cap, cur, e1, hB, hg, hc, _⟩
  · have : ls = [] := List.length_eq_zero_iff.1 e0
    subst this
    exact ⟨none, 0, e1, Nat.le_refl _, rfl, by simp, fun h => by simp at h⟩
  · refine ⟨some ⟨g, 0, none⟩, cap, e1, hc, ?_⟩
    rw [e1] at h
    exact C_own h hl
/-- At the head of ref's loop. -/
structure RfInv (w : World) (b3 b1 b2 : Nat) (nn uu : Int) (A : Option Addr) (c : Nat) (ls : List Lk) (i : Nat) (sv : Value) (wr : World) : Prop where
  kp : Below w.heap.size w wr
  o : wr.heap[b3]? = some (.cells #[.int .i64 nn, .int .i64 uu, sv] 77 (0, 0))
  net : wr.heap[b1]? = some (.cells #[.int .i64 nn, .int .i64 uu, .slice A ls.length c] 32 (0, 0))
  res : ∃ cs : Array Value, cs.size = 3 ∧ wr.heap[b2]? = some (.cells cs 77 (0, 0))
  own : wr.ownsRow w.heap.size 175 6 sv (ls.take i).length (linksCs (ls.take i))
  ge : w.heap.size ≤ b3
  ge2 : w.heap.size ≤ b2
  ne : b3 ≠ b2
theorem RfInv.keep {w wr W : World} {b3 b1 b2 : Nat} {nn uu : Int} {A : Option Addr} {c : Nat} {ls : List Lk} {i : Nat} {sv : Value} (h : RfInv w b3 b1 b2 nn uu A c ls i sv wr) (hb : Below wr.heap.size wr W) : RfInv w b3 b1 b2 nn uu A c ls i sv W := by
  obtain ⟨h1, h2, h3, ⟨cs, h4, h4'⟩, h5, h6, h7, h8⟩ := h
  exact ⟨below_step h1 hb, blk_below h2 hb, blk_below h3 hb, ⟨cs, h4, blk_below h4' hb⟩, own_move h5 (fun k hk => hb.block k (own_lt h5 k hk)), h6, h7, h8⟩
/-- Behind the append and the store. -/
theorem RfInv.app {w W w5 : World} {b3 b1 b2 g cap : Nat} {nn uu : Int} {A : Option Addr} {c : Nat} {ls : List Lk} {i : Nat} {sv : Value} {l : Lk} (h : RfInv w b3 b1 b2 nn uu A c ls i sv W) (hi : i < ls.length) (hl : l = ls[i]) (hne1 : b3 ≠ b1)
    (ho : w5.ownsRow w.heap.size 175 6 (.slice (some ⟨g, 0, none⟩) ((ls.take i).length + 1) cap) ((ls.take i).length + 1) (linksCs (ls.take i) ++ [.int .i64 l.f0, .int .i64 l.f1, .int .i64 l.f2.f0, .int .i64 l.f2.f1, .int .i64 l.f3, .bool l.f4])) (hg : W.grownBy w5 sv.ownBlock) (hor : sv.ownBlock = some g ∨ g = W.heap.size) :
    w5.cell? ⟨b3, 2, none⟩ = some sv ∧ w5.frozen? ⟨b3, 2, none⟩ = false ∧ RfInv w b3 b1 b2 nn uu A c ls (i + 1) (.slice (some ⟨g, 0, none⟩) ((ls.take i).length + 1) cap) (w5.setCell ⟨b3, 2, none⟩ (.slice (some ⟨g, 0, none⟩) ((ls.take i).length + 1) cap)) := by
  obtain ⟨h1, h2, h3, ⟨cs, h4, h4'⟩, h5, h6, h7, h8⟩ := h
  have n3 := own_ne h2 h5 (by decide)
  have n1 := own_ne h3 h5 (by decide)
  have n2 := own_ne h4' h5 (by decide)
  have q3 := blk_grown h2 hg (fun e => n3 e.symm)
  have q1 := blk_grown h3 hg (fun e => n1 e.symm)
  have q2 := blk_grown h4' hg (fun e => n2 e.symm)
  refine ⟨blk_cell q3 2, blk_frozen q3 2, ?_⟩
  have hk := Kp.setCell w5 b3 2 (.slice (some ⟨g, 0, none⟩) ((ls.take i).length + 1) cap)
  have hb5 : Below w.heap.size w w5 := h1.trans ((Kp.grown hg).below h1.size (fun k hk => own_base h5 k hk.symm))
  have hgb : g ≠ b3 := fun e => by
    rcases hor with e1 | e1
    · exact n3 (by rw [e1, e])
    · have := blk_lt h2; omega
  refine ⟨hb5.trans (hk.below hb5.size (fun k e => by rw [e]; exact h6)), ?_, hk.blk q1 (fun e => hne1 e.symm), ⟨cs, h4, hk.blk q2 (fun e => h8 e.symm)⟩, ?_, h6, h7, h8⟩
  · rw [blk_set q3 2 _]
    rfl
  · have e : ls.take (i + 1) = ls.take i ++ [l] := by rw [take_snoc ls i hi, hl]
    rw [e, linksCs_append, List.length_append]
    refine own_move (w := w5) ?_ (fun k hk2 => ?_)
    · simpa [linksCs, linkCs] using ho
    · have : g = k := by simpa [Value.ownBlock] using hk2
      subst this
      exact hk.block g (own_lt ho g (by simp [Value.ownBlock])) hgb
set_option maxHeartbeats 4000000 in
theorem ref_calls (nn uu : Int) (A : Option Addr) (c : Nat) (ls : List Lk) (w : World) (hr : LinksAt w A ls) (hc : ls.length ≤ c) (hl : ls.length ≤ 1000) :
    Calls Try.prog 26 #[.agg #[.int .i64 nn, .int .i64 uu, .slice A ls.length c]] w fun e w' => ∃ A' c', e = .returned (.agg #[.int .i64 nn, .int .i64 uu, .slice A' ls.length c']) ∧ ls.length ≤ c' ∧ LinksAt w' A' ls ∧ Below w.heap.size w w' := by
  obtain ⟨i0, hi0, hz0, hz1, hz2⟩ := info_parts info175
  have HR := Aside0.mk (And.intro hr hc)
  clear hr hc
  go_enter Try.func26, Try.ntmps26
  go_wp2_with ((with_reducible refine gate_dst (N := 1) rfl ?_); refine hold ?_)
  refine box_event rfl (N := 1) rfl (cs := #[.int .i64 nn, .int .i64 uu, .slice A ls.length c]) (t := 32) (by go_simp) ?_
  intro b1 hb1e w1 hb1 hB1
  have HB1 := Aside0.mk (And.intro hB1 hb1)
  clear hb1 hB1 hb1e
  go_wp2_with ((with_reducible refine gate_dst (N := 2) rfl ?_); refine hold ?_)
  refine box_event rfl (N := 2) rfl (cs := #[.int .i64 0, .int .i64 0, .slice none 0 0]) (t := 77) (by go_simp) ?_
  intro b2 hb2e w2 hb2 hB2
  have c0 : w2.cell? ⟨b1, 0, none⟩ = some (.int .i64 nn) := blk_cell (blk_below HB1.out.2 hB2) 0
  have c1 : w2.cell? ⟨b1, 1, none⟩ = some (.int .i64 uu) := blk_cell (blk_below HB1.out.2 hB2) 1
  have HB2 := Aside0.mk (And.intro (below_step HB1.out.1 hB2) (And.intro (blk_below HB1.out.2 hB2) (And.intro hb2 (show w.heap.size ≤ b2 by have := HB1.out.1.size; omega))))
  clear hb2 hB2 hb2e HB1
  go_wp2
  obtain ⟨b3, hb3⟩ : ∃ b3, b3 = w2.heap.size := ⟨_, rfl⟩
  obtain ⟨w3, hw3⟩ : ∃ w3, w3 = w2.alloc (.cells #[.int .i64 nn, .int .i64 uu, .slice none 0 0] 77) := ⟨_, rfl⟩
  rw [← hb3, ← hw3]
  have HNE : Aside0 (b3 ≠ b1) := ⟨by have := blk_lt HB2.out.2.1; omega⟩
  have HI0 : Aside0 (RfInv w b3 b1 b2 nn uu A c ls 0 (.slice none 0 0) w3) := ⟨by
    have hB : Below w2.heap.size w2 w3 := by rw [hw3]; exact below_alloc (Below.refl _ _) _
    refine ⟨below_step HB2.out.1 hB, by rw [hw3, hb3]; exact blk_new w2 _, blk_below HB2.out.2.1 hB, ⟨_, rfl, blk_below HB2.out.2.2.1 hB⟩, by rw [List.take_zero]; exact ⟨rfl, .inl ⟨rfl, rfl⟩⟩, by rw [hb3]; exact HB2.out.1.size, HB2.out.2.2.2, by have := blk_lt HB2.out.2.2.1; omega⟩⟩
  clear hb3 hw3 c0 c1 HB2
  go_loopw [4] (fun v wr => ∃ (i : Nat) (sv : Value), v = .int .i64 i ∧ i ≤ ls.length ∧ Aside0 (RfInv w b3 b1 b2 nn uu A c ls i sv wr)) (fun v _ => ls.length - (intOf v).toNat)
  case atStart => exact ⟨0, _, rfl, Nat.zero_le _, HI0⟩
  case round =>
    obtain ⟨i, sv, rfl, hile, HI⟩ := hrel
    clear HI0
    obtain ⟨wo, rfl⟩ : ∃ wo, wo = wr := ⟨_, rfl⟩
    by_cases hgo : i < ls.length
    · obtain ⟨l, hll⟩ : ∃ l, l = ls[i] := ⟨_, rfl⟩
      have hrd : PB.rd_T88 ls (i : Int) = l := by rw [hll]; simp [PB.rd_T88, List.getElem?_eq_getElem hgo]
      have ea := PB.at_T88 (Kd.C_below HR.out.1 HI.out.kp) (i : Int) (by omega) (by omega)
      rw [hrd, Int.toNat_natCast] at ea
      obtain ⟨ad, rfl, e0, e1, e2, e3, e4, e5⟩ := ea
      have HLL := Aside0.mk hll
      clear hrd hll
      have hwi : IntKind.i64.wrap ((i : Int) + 1) = (i : Int) + 1 := by rw [i64_w]; unfold wrap64; omega
      have c1 : wo.cell? ⟨b1, 2, none⟩ = some (.slice (some ad) ls.length c) := blk_cell HI.out.net 2
      go_wp2
      have hA : Below wo.heap.size wo ((wo.alloc (.cells #[.int .i64 l.f0, .int .i64 l.f1, .int .i64 l.f2.f0, .int .i64 l.f2.f1, .int .i64 l.f3, .bool l.f4] 175)).drew) := below_drew1 (below_alloc (Below.refl _ _) _)
      have HA := Aside0.mk (HI.out.keep hA)
      have d0 : wo.drew.cell? ⟨b3, 2, none⟩ = some sv := blk_cell HI.out.o 2
      have d1 : wo.drew.cell? ⟨b1, 2, none⟩ = some (.slice (some ad) ls.length c) := c1
      have d2 : (wo.alloc (.cells #[.int .i64 l.f0, .int .i64 l.f1, .int .i64 l.f2.f0, .int .i64 l.f2.f1, .int .i64 l.f3, .bool l.f4] 175)).cell? ⟨b3, 2, none⟩ = some sv := blk_cell HA.out.o 2
      have hnewsA : Aside0 (∀ j v, [.int .i64 l.f0, .int .i64 l.f1, .int .i64 l.f2.f0, .int .i64 l.f2.f1, .int .i64 l.f3, .bool l.f4][j]? = some v → ((wo.alloc (.cells #[.int .i64 l.f0, .int .i64 l.f1, .int .i64 l.f2.f0, .int .i64 l.f2.f1, .int .i64 l.f3, .bool l.f4] 175)).drew).cell? ((⟨wo.heap.size, 0, none⟩ : Addr).add j) = some v) := ⟨World.news_of_block (w := ((wo.alloc (.cells #[.int .i64 l.f0, .int .i64 l.f1, .int .i64 l.f2.f0, .int .i64 l.f2.f1, .int .i64 l.f3, .bool l.f4] 175)).drew)) (cs := #[.int .i64 l.f0, .int .i64 l.f1, .int .i64 l.f2.f0, .int .i64 l.f2.f1, .int .i64 l.f3, .bool l.f4]) (blk_drew (blk_new wo _))⟩
      have hbase : Aside0 (w.heap.size ≤ ((wo.alloc (.cells #[.int .i64 l.f0, .int .i64 l.f1, .int .i64 l.f2.f0, .int .i64 l.f2.f1, .int .i64 l.f3, .bool l.f4] 175)).drew).heap.size) := ⟨Nat.le_trans HI.out.kp.size hA.size⟩
      have hll2 : (ls.take i).length ≤ 1000 := by rw [List.length_take]; omega
      obtain ⟨M, hM⟩ : ∃ M, M = (ls.take i).length := ⟨_, rfl⟩
      have HM := Aside0.mk hM
      have hownA : Aside0 (((wo.alloc (.cells #[.int .i64 l.f0, .int .i64 l.f1, .int .i64 l.f2.f0, .int .i64 l.f2.f1, .int .i64 l.f3, .bool l.f4] 175)).drew).ownsRow w.heap.size 175 6 sv M (linksCs (ls.take i))) := ⟨by rw [hM]; exact HA.out.own⟩
      rw [← hM] at hll2
      have HAPP := Aside0.mk (fun (g cap : Nat) (w5 : World) => @RfInv.app w ((wo.alloc (.cells #[.int .i64 l.f0, .int .i64 l.f1, .int .i64 l.f2.f0, .int .i64 l.f2.f1, .int .i64 l.f3, .bool l.f4] 175)).drew) w5 b3 b1 b2 g cap nn uu (some ad) c ls i sv l HA.out hgo HLL.out HNE.out)
      rw [← hM] at HAPP
      clear hM hA
      go_region_law (refine step_append_lies _ rfl (.tmp 18) (.tmp 24) 75 rfl w.heap.size 175 i0 _ 6 48 Try.underlying75 hi0 hz0 hz1 hz2 rfl (by decide) sv M (linksCs (ls.take i)) (by go_simp) hownA.out ⟨wo.heap.size, 0, none⟩ 1 1 [.int .i64 l.f0, .int .i64 l.f1, .int .i64 l.f2.f0, .int .i64 l.f2.f1, .int .i64 l.f3, .bool l.f4] (by go_simp) rfl hnewsA.out (by simp [Value.oneCell']) (by decide) (by unfold maxLen; omega) (by omega) hbase.out _ rfl ?_; intro g cap w5 hown5 hg5 hor5 hlt5; have hE := HAPP.out g cap w5 hown5 hg5 hor5; clear hown5 hg5 hor5 hlt5; have c20 := hE.1; have f20 := hE.2.1; have HE := Aside0.mk hE.2.2; clear hE)
      all_goals
        clear d0 d1 d2 c1 e0 e1 e2 e3 e4 e5 c20 f20 hnewsA hbase hownA HAPP HA
        generalize (w5.setCell ⟨b3, 2, none⟩ (.slice (some ⟨g, 0, none⟩) (M + 1) cap)) = w6 at HE ⊢
        go_wp2
        go_roundw
        case rel => exact ⟨i + 1, _, by go_num, by omega, HE⟩
        case measure => simp [intOf]; omega
    · obtain rfl : i = ls.length := by omega
      clear hile hgo
      have hI := HI.out
      have ho := hI.own
      rw [List.take_length] at ho
      obtain ⟨Ao, co, rfl, hco, hCo⟩ := own_links_any ho (by omega)
      obtain ⟨cs, hcs, hres⟩ := hI.res
      obtain ⟨cs⟩ := cs
      match cs, hcs with
      | [q0, q1, q2], _ =>
        have c1 : wo.cell? ⟨b1, 2, none⟩ = some (.slice A ls.length c) := blk_cell hI.net 2
        have r0 : wo.cell? ⟨b3, 0, none⟩ = some (.int .i64 nn) := blk_cell hI.o 0
        have r1 : wo.cell? ⟨b3, 1, none⟩ = some (.int .i64 uu) := blk_cell hI.o 1
        have r2 : wo.cell? ⟨b3, 2, none⟩ = some (.slice Ao ls.length co) := blk_cell hI.o 2
        have s0 : wo.cell? ⟨b2, 0, none⟩ = some q0 := blk_cell hres 0
        have s1 : wo.cell? ⟨b2, 1, none⟩ = some q1 := blk_cell hres 1
        have s2 : wo.cell? ⟨b2, 2, none⟩ = some q2 := blk_cell hres 2
        have t0 : wo.frozen? ⟨b2, 0, none⟩ = false := blk_frozen hres 0
        have t1 : wo.frozen? ⟨b2, 1, none⟩ = false := blk_frozen hres 1
        have t2 : wo.frozen? ⟨b2, 2, none⟩ = false := blk_frozen hres 2
        have HRS := Aside0.mk (And.intro hres (And.intro hCo hco))
        clear hI ho hres hCo hco
        go_wp2
        have h0 := blk_set HRS.out.1 0 (.int .i64 nn)
        have h1 := blk_set h0 1 (.int .i64 uu)
        have h2 := blk_set h1 2 (.slice Ao ls.length co)
        have h3 : (((wo.setCell ⟨b2, 0, none⟩ (.int .i64 nn)).setCell ⟨b2, 1, none⟩ (.int .i64 uu)).setCell ⟨b2, 2, none⟩ (.slice Ao ls.length co)).heap[b2]? = some (.cells #[.int .i64 nn, .int .i64 uu, .slice Ao ls.length co] 77 (0, 0)) := by
          rw [h2]
          rfl
        have hk1 := Kp.setCell wo b2 0 (.int .i64 nn)
        have hk2 := Kp.setCell (wo.setCell ⟨b2, 0, none⟩ (.int .i64 nn)) b2 1 (.int .i64 uu)
        have hk3 := Kp.setCell ((wo.setCell ⟨b2, 0, none⟩ (.int .i64 nn)).setCell ⟨b2, 1, none⟩ (.int .i64 uu)) b2 2 (.slice Ao ls.length co)
        have hk : Kp wo (((wo.setCell ⟨b2, 0, none⟩ (.int .i64 nn)).setCell ⟨b2, 1, none⟩ (.int .i64 uu)).setCell ⟨b2, 2, none⟩ (.slice Ao ls.length co)) (fun k => k = b2) := (hk1.trans hk2 (fun _ h => h) (fun _ _ h => h)).trans hk3 (fun _ h => h) (fun _ _ h => h)
        refine bodyPost_ret (results_cell_row rfl _ _ b2 77 #[.int .i64 nn, .int .i64 uu, .slice Ao ls.length co] (0, 0) _ rfl h3 Try.underlying77 rfl (by kernel_rfl)) rfl ?_
        refine ⟨Ao, co, rfl, HRS.out.2.2, ?_, HI.out.kp.trans (hk.below HI.out.kp.size (fun k e => by rw [e]; exact HI.out.ge2))⟩
        have hC := HRS.out.2.1
        obtain ⟨q1', q2', q3'⟩ := hC
        refine ⟨q1', q2', fun h0' => ?_⟩
        obtain ⟨ad, ead, hcells⟩ := q3' h0'
        refine ⟨ad, ead, fun j p hj => ?_⟩
        obtain ⟨cs', k1', k2', k3'⟩ := hcells j p hj
        refine ⟨cs', k1', k2', fun i' v' hv' => ?_⟩
        have hcell := k3' i' v' hv'
        have hblk : (ad.add (j * PB.k88.sz + i')).block ≠ b2 := by
          have hn2 := own_ne HRS.out.1 HI.out.own (by decide)
          intro e
          apply hn2
          subst ead
          have hg0 := HI.out.own
          rcases hg0.2 with ⟨e3, _⟩ | ⟨g', cap', cur, hv, _⟩
          · cases e3
          · simp only [Value.slice.injEq, Option.some.injEq] at hv
            rw [hv.1] at e ⊢
            rw [Addr.add_mid] at e
            exact congrArg some e
        exact (World.cell?_of_block (hk.block _ (World.block_lt_of_cell? wo _ hcell) hblk)).trans hcell
end Go.Proofs.Ytgmglpnoppcnkaa
end
section
namespace Go.Proofs.Ytgmglpnoppcnkaa
open Go.RowKit Go.Proofs.YtgmglpnoppcnkaaW.PrintWords Go.Proofs.YtgmglpnoppcnkaaW.PrintLast Go.Proofs.YtgmglpnoppcnkaaW.PrintMore
set_option linter.unusedVariables false
set_option linter.unusedSimpArgs false
set_option maxRecDepth 100000
theorem ask_N (f : Int) (h0 : 0 ≤ f) (h3 : f ≤ 3) (d : Du) (hd : duesE 4 [d] = 0) : askE 4 3 NL 0 100 100 [1, 1, 1] f d = 0 := by
  unfold askE
  rw [if_pos (N_valid f h0 h3)]
  exact hd
/-- Worst, at the examples' network. -/
theorem Worst_N (f : Nat) (hf : f ≤ 3) (A : Option Addr) (c : Nat) (A2 : Option Addr) (c2 : Nat) (S : List PB.S41) (hS : worstS 4 NL 0 100 100 [1, 1, 1] f = S) (w : World) (hr : LinksAt w A NL) (hc : NL.length ≤ c) (hr2 : IntsAt w A2 [1, 1, 1]) (hc2 : [(1 : Int), 1, 1].length ≤ c2) :
    Calls Try.prog 16 #[.agg #[.int .i64 4, .int .i64 3, .slice A NL.length c], .agg #[.int .i64 0, .int .i64 100, .int .i64 100], .slice A2 [(1 : Int), 1, 1].length c2, .int .i64 f] w fun e w' => ∃ A c, e = .returned (.tuple #[.slice A S.length c, .int .i64 0]) ∧ S.length ≤ c ∧ DuesAt w' A S ∧ Below w.heap.size w w' := by
  have := Worst_any 4 3 A c NL 0 100 100 A2 c2 [1, 1, 1] f w hr hc hr2 hc2 (N_valid f (by omega) (by omega))
  rw [hS] at this
  exact this
theorem Blame_N (f : Nat) (hf : f ≤ 3) (A : Option Addr) (c : Nat) (A2 : Option Addr) (c2 : Nat) (d : Du) (x : List Int) (hd : duesE 4 [d] = 0) (hx : blameL 4 NL 0 100 [1, 1, 1] f d = some x) (w : World) (hr : LinksAt w A NL) (hc : NL.length ≤ c) (hr2 : IntsAt w A2 [1, 1, 1]) (hc2 : [(1 : Int), 1, 1].length ≤ c2) :
    Calls Try.prog 39 #[.agg #[.int .i64 4, .int .i64 3, .slice A NL.length c], .agg #[.int .i64 0, .int .i64 100, .int .i64 100], .slice A2 [(1 : Int), 1, 1].length c2, .int .i64 f, .agg #[.int .i64 d.f0, .int .i64 d.f1]] w fun e w' => ∃ A c, e = .returned (.tuple #[.slice A x.length c, .bool true, .int .i64 0]) ∧ x.length ≤ c ∧ IntsAt w' A x ∧ Below w.heap.size w w' :=
  Blame_some 4 3 A c NL 0 100 100 A2 c2 [1, 1, 1] f d x w hr hc hr2 hc2 (ask_N f (by omega) (by omega) d hd) hx
theorem Diag_N (A : Option Addr) (c : Nat) (A3 : Option Addr) (c3 : Nat) (l : List Du) (u : Int) (X Y : List Int) (hl : l.length ≤ 100000) (h : diagE 4 3 NL 0 100 100 l u = 0) (hX : listB (dWork NL 0 l u) = X) (hY : listB (dFail NL 0 l u) = Y) (w : World) (hr : LinksAt w A NL) (hc : NL.length ≤ c) (hr3 : DuesAt w A3 l) (hc3 : l.length ≤ c3) :
    Calls Try.prog 24 #[.agg #[.int .i64 4, .int .i64 3, .slice A NL.length c], .agg #[.int .i64 0, .int .i64 100, .int .i64 100], .slice A3 l.length c3, .int .i64 u] w fun e w' => ∃ A1 c1 A2 c2, e = .returned (.tuple #[.slice A1 X.length c1, .slice A2 Y.length c2, .int .i64 0]) ∧ X.length ≤ c1 ∧ IntsAt w' A1 X ∧ Y.length ≤ c2 ∧ IntsAt w' A2 Y ∧ Below w.heap.size w w' := by
  have := Diag_zero 4 3 A c NL 0 100 100 A3 c3 l u w hr hc hr3 hc3 hl h
  rw [hX, hY] at this
  exact this
/-- A row against one that is written out. -/
theorem same_lit (A : Option Addr) (c n : Nat) (l : List PB.S41) (cs : Array Value) (t : TypeId) (w : World) (hn : n = l.length) (h0 : DuesAt w A l) (k0 : l.length ≤ c) (hl : l.length ≤ 1000) (hc : ∀ (j : Nat) (p : PB.S41), l[j]? = some p → cs[j * 2]? = some (Value.int .i64 p.f0) ∧ cs[j * 2 + 1]? = some (Value.int .i64 p.f1)) :
    Calls Try.prog 34 #[.slice A n c, .slice (some ⟨w.heap.size, 0, none⟩) n n] (w.alloc (.cells cs t (0, 0))) fun e w' => e = .returned (.bool true) ∧ Below w.heap.size w w' := by
  subst hn
  have hB : Below w.heap.size w (w.alloc (.cells cs t (0, 0))) := below_alloc (Below.refl _ _) _
  exact (same_true A _ c l.length l _ (Kd.C_below h0 hB) k0 (C_pairs l (blk_new w _) hl hc) (Nat.le_refl _)).mono fun e w' ⟨he, hb⟩ => ⟨he, below_step hB hb⟩
theorem equal_lit (A : Option Addr) (c n : Nat) (l : List Int) (cs : Array Value) (t : TypeId) (w : World) (hn : n = l.length) (h0 : IntsAt w A l) (k0 : l.length ≤ c) (hl : l.length ≤ 1000) (hc : ∀ (j : Nat) (p : Int), l[j]? = some p → cs[j]? = some (Value.int .i64 p)) :
    Calls Try.prog 27 #[.slice A n c, .slice (some ⟨w.heap.size, 0, none⟩) n n] (w.alloc (.cells cs t (0, 0))) fun e w' => e = .returned (.bool true) ∧ Below w.heap.size w w' := by
  subst hn
  have hB : Below w.heap.size w (w.alloc (.cells cs t (0, 0))) := below_alloc (Below.refl _ _) _
  exact (equal_true A _ c l.length l _ (Kd.C_below h0 hB) k0 (C_ints l (blk_new w _) hl hc) (Nat.le_refl _)).mono fun e w' ⟨he, hb⟩ => ⟨he, below_step hB hb⟩
set_option maxHeartbeats 4000000 in
theorem works_calls (w : World) : Calls Try.prog 23 #[] w fun e w' => e = .returned (.bool true) ∧ Below w.heap.size w w' := by
  go_enter Try.func23, Try.ntmps23
  go_wp2_with fail
  refine (N_any _).mono ?_
  rintro e w1 ⟨A1, c1, rfl, hc1, hl1, hb1⟩
  have H1 := Aside0.mk (And.intro hc1 (And.intro hl1 hb1))
  clear hc1 hl1 hb1
  go_wp2_with fail
  refine (S_any _).mono ?_
  rintro e w2 ⟨rfl, hb2⟩
  have H2 := Aside0.mk (And.intro hb2 (below_step H1.out.2.2 hb2))
  clear hb2
  go_wp2_with fail
  refine (fine_any _).mono ?_
  rintro e w3 ⟨A3, c3, rfl, hc3, hl3, hb3⟩
  have H3 := Aside0.mk (And.intro hc3 (And.intro hl3 (And.intro (below_step H2.out.2 hb3) (below_step H2.out.1 hb3))))
  clear hc3 hl3 hb3
  go_wp2_with fail
  refine (Worst_N 1 (by omega) A1 c1 A3 c3 _ worst_N1 w3 (Kd.C_below H1.out.2.1 H3.out.2.2.2) H1.out.1 H3.out.2.1 H3.out.1).mono ?_
  rintro e w4 ⟨A4, c4, rfl, hc4, hl4, hb4⟩
  have H4 := Aside0.mk (And.intro hc4 (And.intro hl4 (below_step H3.out.2.2.1 hb4)))
  clear hc4 hl4 hb4 H1 H2 H3
  -- blame
  go_wp2_with fail
  refine (N_any _).mono ?_
  rintro e w5 ⟨A5, c5, rfl, hc5, hl5, hb5⟩
  have H5 := Aside0.mk (And.intro hc5 (And.intro hl5 hb5))
  clear hc5 hl5 hb5
  go_wp2_with fail
  refine (S_any _).mono ?_
  rintro e w6 ⟨rfl, hb6⟩
  have H6 := Aside0.mk (And.intro hb6 (below_step H5.out.2.2 hb6))
  clear hb6
  go_wp2_with fail
  refine (fine_any _).mono ?_
  rintro e w7 ⟨A7, c7, rfl, hc7, hl7, hb7⟩
  have H7 := Aside0.mk (And.intro hc7 (And.intro hl7 (And.intro (below_step H6.out.2 hb7) (below_step H6.out.1 hb7))))
  clear hc7 hl7 hb7
  go_wp2_with fail
  refine (due_any _ _).mono ?_
  rintro e w8 ⟨rfl, hb8⟩
  have H8 := Aside0.mk (And.intro hb8 (And.intro (below_step H7.out.2.2.1 hb8) (below_step H7.out.2.2.2 hb8)))
  clear hb8
  go_wp2_with fail
  refine (Blame_N 2 (by omega) A5 c5 A7 c7 ⟨3, 180⟩ [0, 1] (by decide) blame_N2 w8 (Kd.C_below H5.out.2.1 H8.out.2.2) H5.out.1 (Kd.C_below H7.out.2.1 H8.out.1) H7.out.1).mono ?_
  rintro e w9 ⟨A9, c9, rfl, hc9, hl9, hb9⟩
  have H9 := Aside0.mk (And.intro hc9 (And.intro hl9 (below_step H8.out.2.1 hb9)))
  clear hc9 hl9 hb9 H5 H6 H7 H8
  -- diagnose
  go_wp2_with fail
  refine (N_any _).mono ?_
  rintro e w10 ⟨A10, c10, rfl, hc10, hl10, hb10⟩
  have H10 := Aside0.mk (And.intro hc10 (And.intro hl10 hb10))
  clear hc10 hl10 hb10
  go_wp2_with fail
  refine (S_any _).mono ?_
  rintro e w11 ⟨rfl, hb11⟩
  have H11 := Aside0.mk (And.intro hb11 (below_step H10.out.2.2 hb11))
  clear hb11
  go_wp2_with fail
  have hx := blk_new w11 (.cells #[.int .i64 0, .int .i64 100, .int .i64 2, .int .i64 130, .int .i64 3, .int .i64 140] 71)
  have hB : Below w11.heap.size w11 (w11.alloc (.cells #[.int .i64 0, .int .i64 100, .int .i64 2, .int .i64 130, .int .i64 3, .int .i64 140] 71)) := below_alloc (Below.refl _ _) _
  have HRL : Aside0 (DuesAt (w11.alloc (.cells #[.int .i64 0, .int .i64 100, .int .i64 2, .int .i64 130, .int .i64 3, .int .i64 140] 71)) (some ⟨w11.heap.size, 0, none⟩) RL) := ⟨C_pairs RL hx (by decide) (fun j p hj => by
    rcases j with _ | _ | _ | j
    · cases hj; exact ⟨rfl, rfl⟩
    · cases hj; exact ⟨rfl, rfl⟩
    · cases hj; exact ⟨rfl, rfl⟩
    · simp [RL] at hj)⟩
  have H12 := Aside0.mk (And.intro (below_step H11.out.1 hB) (below_step H11.out.2 hB))
  clear hx hB
  refine (Diag_N A10 c10 (some ⟨w11.heap.size, 0, none⟩) 3 RL 200 [1, 2] [0] (by decide) diag_N diag_N1 diag_N2 _ (Kd.C_below H10.out.2.1 H12.out.1) H10.out.1 HRL.out (by decide)).mono ?_
  rintro e w13 ⟨Aw, cw, Af, cf, rfl, hcw, hlw, hcf, hlf, hb13⟩
  have H13 := Aside0.mk (And.intro hcw (And.intro hlw (And.intro hcf (And.intro hlf (below_step H12.out.2 hb13)))))
  clear hcw hlw hcf hlf hb13 H10 H11 H12 HRL
  go_wp2_with fail
  refine (span_any _ _ _).mono ?_
  rintro e w14 ⟨rfl, hb14⟩
  have H14 := Aside0.mk hb14
  clear hb14
  go_wp2_with fail
  refine (span_any _ _ _).mono ?_
  rintro e w15 ⟨rfl, hb15⟩
  have H15 := Aside0.mk (below_step H14.out hb15)
  clear hb15
  go_wp2_with fail
  refine (span_any _ _ _).mono ?_
  rintro e w16 ⟨rfl, hb16⟩
  have H16 := Aside0.mk (below_step H15.out hb16)
  clear hb16
  go_wp2_with fail
  refine (span_any _ _ _).mono ?_
  rintro e w17 ⟨rfl, hb17⟩
  have H17 := Aside0.mk (below_step H16.out hb17)
  clear hb17 H14 H15 H16
  go_wp2_with fail
  refine (same_lit A4 c4 4 [⟨100, 100⟩, ⟨110, NV⟩, ⟨105, NV⟩, ⟨105, 180⟩] _ _ w17 rfl (Kd.C_below H4.out.2.1 (below_step H9.out.2.2 (below_step H13.out.2.2.2.2 H17.out))) H4.out.1 (by decide) (fun j p hj => by
    rcases j with _ | _ | _ | _ | j
    · cases hj; exact ⟨rfl, rfl⟩
    · cases hj; exact ⟨rfl, rfl⟩
    · cases hj; exact ⟨rfl, rfl⟩
    · cases hj; exact ⟨rfl, rfl⟩
    · simp at hj)).mono ?_
  rintro e w18 ⟨rfl, hb18⟩
  have H18 := Aside0.mk (below_step H17.out hb18)
  clear hb18 H17
  go_wp2_with fail
  refine (equal_lit A9 c9 2 [0, 1] _ _ w18 rfl (Kd.C_below H9.out.2.1 (below_step H13.out.2.2.2.2 H18.out)) H9.out.1 (by decide) (fun j p hj => by
    rcases j with _ | _ | j
    · cases hj; rfl
    · cases hj; rfl
    · simp at hj)).mono ?_
  rintro e w19 ⟨rfl, hb19⟩
  have H19 := Aside0.mk (below_step H18.out hb19)
  clear hb19 H18
  go_wp2_with fail
  refine (equal_lit Aw cw 2 [1, 2] _ _ w19 rfl (Kd.C_below H13.out.2.1 H19.out) H13.out.1 (by decide) (fun j p hj => by
    rcases j with _ | _ | j
    · cases hj; rfl
    · cases hj; rfl
    · simp at hj)).mono ?_
  rintro e w20 ⟨rfl, hb20⟩
  have H20 := Aside0.mk (below_step H19.out hb20)
  clear hb20 H19
  go_wp2_with fail
  refine (equal_lit Af cf 1 [0] _ _ w20 rfl (Kd.C_below H13.out.2.2.2.1 H20.out) H13.out.2.2.1 (by decide) (fun j p hj => by
    rcases j with _ | j
    · cases hj; rfl
    · simp at hj)).mono ?_
  rintro e w21 ⟨rfl, hb21⟩
  have H21 := Aside0.mk (below_step H20.out hb21)
  clear hb21 H20
  go_wp2
  go_ret
  exact ⟨rfl, below_step H4.out.2.2 (below_step H9.out.2.2 (below_step H13.out.2.2.2.2 H21.out))⟩
end Go.Proofs.Ytgmglpnoppcnkaa
end
section
namespace Go.Proofs.Ytgmglpnoppcnkaa
open Go.RowKit Go.Proofs.YtgmglpnoppcnkaaW.PrintWords Go.Proofs.YtgmglpnoppcnkaaW.PrintLast Go.Proofs.YtgmglpnoppcnkaaW.PrintMore
set_option linter.unusedVariables false
set_option linter.unusedSimpArgs false
set_option maxRecDepth 100000
/-- A row read by other words. -/
theorem C_map {α β : Type} (d : Kd α) (d' : Kd β) (f : α → β) (hsz : d.sz = d'.sz) (hK : ∀ (w : World) (x : α) (cs : List Value), d.K w x cs → d'.K w (f x) cs) {w : World} {A : Option Addr} {xs : List α} (h : Kd.C d w A xs.length xs) : Kd.C d' w A (xs.map f).length (xs.map f) := by
  obtain ⟨h1, h2, h3⟩ := h
  refine ⟨rfl, by rw [List.length_map]; exact h2, fun h0 => ?_⟩
  rw [List.length_map] at h0
  obtain ⟨ad, e, hc⟩ := h3 h0
  refine ⟨ad, e, fun j y hj => ?_⟩
  rw [List.getElem?_map] at hj
  obtain ⟨x, hx, e2⟩ := Option.map_eq_some_iff.1 hj
  obtain ⟨cs, k1, k2, k3⟩ := hc j x hx
  rw [← hsz, ← e2]
  exact ⟨cs, k1, hK w x cs k2, k3⟩
theorem links_ref {w : World} {A : Option Addr} {ls : List Lk} (h : LinksAt w A ls) : Kd.C PR.k175 w A (ls.map cvL).length (ls.map cvL) :=
  C_map PB.k88 PR.k175 cvL rfl (fun w x cs hk => by rw [PB.k88_open hk]; exact PR.k175_mk w (cvL x)) h
theorem rcs_ref {w : World} {A : Option Addr} {l : List Du} (h : DuesAt w A l) : Kd.C PR.k70 w A (l.map cvR).length (l.map cvR) :=
  C_map PB.k41 PR.k70 cvR rfl (fun w x cs hk => by rw [PB.k41_open hk]; exact PR.k70_mk w (cvR x)) h
/-- What Diagnose answers. -/
def diagT (nn uu : Int) (ls : List Lk) (sn lo hi : Int) (l : List Du) (u : Int) : DR := if diagE nn uu ls sn lo hi l u = 0 then (listB (dWork ls sn l u), listB (dFail ls sn l u), 0) else ([], [], diagE nn uu ls sn lo hi l u)
theorem Diag_tri (nn uu : Int) (A : Option Addr) (c : Nat) (ls : List Lk) (sn lo hi : Int) (A3 : Option Addr) (c3 : Nat) (l : List Du) (u : Int) (X Y : List Int) (E : Int) (hT : diagT nn uu ls sn lo hi l u = (X, Y, E)) (w : World)
    (hr : LinksAt w A ls) (hc : ls.length ≤ c) (hr3 : DuesAt w A3 l) (hc3 : l.length ≤ c3) (hl : l.length ≤ 100000) :
    Calls Try.prog 24 #[.agg #[.int .i64 nn, .int .i64 uu, .slice A ls.length c], .agg #[.int .i64 sn, .int .i64 lo, .int .i64 hi], .slice A3 l.length c3, .int .i64 u] w fun e w' => ∃ A1 c1 A2 c2, e = .returned (.tuple #[.slice A1 X.length c1, .slice A2 Y.length c2, .int .i64 E]) ∧ X.length ≤ c1 ∧ IntsAt w' A1 X ∧ Y.length ≤ c2 ∧ IntsAt w' A2 Y ∧ Below w.heap.size w w' := by
  by_cases h : diagE nn uu ls sn lo hi l u = 0
  · unfold diagT at hT
    rw [if_pos h] at hT
    cases hT
    exact Diag_zero nn uu A c ls sn lo hi A3 c3 l u w hr hc hr3 hc3 hl h
  · unfold diagT at hT
    rw [if_neg h] at hT
    cases hT
    refine (Diag_any nn uu A c ls sn lo hi A3 c3 l u w hr hc hr3 hc3 hl).mono fun e w' ⟨hb, hx⟩ => ?_
    rcases hx with ⟨_, he⟩ | ⟨h1, _⟩
    · have nilAt : IntsAt w' none [] := ⟨rfl, by simp, fun h => by simp at h⟩
      exact ⟨none, 0, none, 0, he, Nat.le_refl _, nilAt, Nat.le_refl _, nilAt, hb⟩
    · exact absurd h1 h
theorem RDiag_tri (nn uu : Int) (A : Option Addr) (c : Nat) (ls : List Lk) (sn lo hi : Int) (A3 : Option Addr) (c3 : Nat) (l : List Du) (u : Int) (X Y : List Int) (E : Int) (hT : diagT nn uu ls sn lo hi l u = (X, Y, E)) (w : World)
    (hr : LinksAt w A ls) (hc : ls.length ≤ c) (hr3 : DuesAt w A3 l) (hc3 : l.length ≤ c3) (hl : l.length ≤ 100000) :
    Calls Try.prog 25 #[.agg #[.int .i64 nn, .int .i64 uu, .slice A ls.length c], .agg #[.int .i64 sn, .int .i64 lo, .int .i64 hi], .slice A3 l.length c3, .int .i64 u] w fun e w' => ∃ A1 c1 A2 c2, e = .returned (.tuple #[.slice A1 X.length c1, .slice A2 Y.length c2, .int .i64 E]) ∧ X.length ≤ c1 ∧ IntsAt w' A1 X ∧ Y.length ≤ c2 ∧ IntsAt w' A2 Y ∧ Below w.heap.size w w' := by
  obtain ⟨k, hk⟩ := (rdiag_ev nn uu ls sn lo hi l u (by omega)).rounds
  have hk' : PR.tidewallref08_Diagnose.f k nn uu (ls.map cvL) sn lo hi (l.map cvR) u = some (X, Y, E) := by rw [hk]; exact congrArg some hT
  have := PR.tidewallref08_Diagnose.calls k nn uu A c (ls.map cvL) sn lo hi A3 c3 (l.map cvR) u X Y E w (links_ref hr) (by rw [List.length_map]; exact hc) (rcs_ref hr3) (by rw [List.length_map]; exact hc3) hk'
  rw [List.length_map, List.length_map] at this
  refine this.mono fun e w' ⟨v1, v2, he, h1, h2, hb⟩ => ?_
  obtain ⟨A1, c1, rfl, k1, i1⟩ := Kd.R_reads h1
  obtain ⟨A2, c2, rfl, k2, i2⟩ := Kd.R_reads h2
  exact ⟨A1, c1, A2, c2, he, k1, i1, k2, i2, hb⟩
/-- Cells of pairs. -/
def pairCs (l : List Du) : List Value := l.flatMap (fun d => [.int .i64 d.f0, .int .i64 d.f1])
theorem pairCs_snoc (l : List Du) (d : Du) : pairCs (l ++ [d]) = pairCs l ++ [.int .i64 d.f0, .int .i64 d.f1] := by simp [pairCs]
theorem pairCs_get (l : List Du) : ∀ j d, l[j]? = some d → (pairCs l)[j * 2]? = some (.int .i64 d.f0) ∧ (pairCs l)[j * 2 + 1]? = some (.int .i64 d.f1) := by
  induction l with
  | nil => intro j d h; simp at h
  | cons x r ih =>
    intro j d h
    cases j with
    | zero => cases h; exact ⟨rfl, rfl⟩
    | succ j =>
      rw [List.getElem?_cons_succ] at h
      have := ih j d h
      rw [show (j + 1) * 2 = j * 2 + 1 + 1 by omega]
      exact this
theorem own_pairs_any {w : World} {B e : Nat} {v : Value} {l : List Du} (h : w.ownsRow B e 2 v l.length (pairCs l)) (hl : l.length ≤ 9223372036854775807) : ∃ A c, v = .slice A l.length c ∧ l.length ≤ c ∧ DuesAt w A l := by
  rcases h.2 with ⟨e1, e0⟩ | ⟨g, cap, cur, e1, hB, hg, hc, _⟩
  · have : l = [] := List.length_eq_zero_iff.1 e0
    subst this
    exact ⟨none, 0, e1, Nat.le_refl _, rfl, by simp, fun h => by simp at h⟩
  · refine ⟨some ⟨g, 0, none⟩, cap, e1, hc, rfl, hl, fun _ => ⟨_, rfl, fun j p hj => ?_⟩⟩
    rw [e1] at h
    obtain ⟨h0, h1⟩ := pairCs_get l j p hj
    have hjl := (List.getElem?_eq_some_iff.1 hj).1
    have e0 := h.cellAt (j * 2) (by omega)
    have e1 := h.cellAt (j * 2 + 1) (by omega)
    refine ⟨[.int .i64 p.f0, .int .i64 p.f1], rfl, PB.k41_mk w p, fun i u hu => ?_⟩
    rw [Addr.add_mid, Nat.zero_add]
    have hi : i = 0 ∨ i = 1 := by
      have := (List.getElem?_eq_some_iff.1 hu).1
      simp at this
      omega
    rcases hi with rfl | rfl
    · cases hu
      exact e0.trans h0
    · cases hu
      exact e1.trans h1
theorem few_any (nn uu : Int) (A : Option Addr) (c : Nat) (ls : List Lk) (A2 : Option Addr) (c2 : Nat) (st : List Int) (w : World) (hr : LinksAt w A ls) (hc : ls.length ≤ c) (hr2 : IntsAt w A2 st) (hc2 : st.length ≤ c2) :
    Calls Try.prog 22 #[.agg #[.int .i64 nn, .int .i64 uu, .slice A ls.length c], .slice A2 st.length c2] w fun e w' => e = .returned (.bool (decide (ls.length ≤ 300 ∧ st.length ≤ 30))) ∧ Below w.heap.size w w' := by
  refine PB.tidewalllaw08_few.calls nn uu A c ls A2 c2 st _ w hr hc hr2 hc2 ?_
  unfold PB.tidewalllaw08_few.f
  by_cases h : ls.length ≤ 300
  · rw [if_pos (by omega)]
    congr 1
    by_cases h2 : st.length ≤ 30
    · rw [decide_eq_true (show (st.length : Int) ≤ 30 by omega), decide_eq_true ⟨h, h2⟩]
    · rw [decide_eq_false (show ¬ (st.length : Int) ≤ 30 by omega), decide_eq_false (fun h => h2 h.2)]
  · rw [if_neg (by omega), decide_eq_false (fun h2 => h h2.1)]
theorem info70 : (Try.prog.info? 70).map (fun i => (i.zero, i.size, i.bytes)) = some (some (.agg #[.int .i64 0, .int .i64 0]), 2, 16) := by kernel_rfl
set_option maxHeartbeats 8000000 in
theorem SpreadRuns_calls (nn uu : Int) (A : Option Addr) (c : Nat) (ls : List Lk) (sn lo hi : Int) (A3 : Option Addr) (c3 : Nat) (l : List Du) (u : Int) (w : World)
    (hr : LinksAt w A ls) (hc : ls.length ≤ c) (hr3 : DuesAt w A3 l) (hc3 : l.length ≤ c3) :
    Calls Try.prog 4 #[.agg #[.int .i64 nn, .int .i64 uu, .slice A ls.length c], .agg #[.int .i64 sn, .int .i64 lo, .int .i64 hi], .slice A3 l.length c3, .int .i64 u] w fun e w' => e = .returned (.bool true) ∧ Below w.heap.size w w' := by
  have HR := Aside0.mk (And.intro hr (And.intro hc (And.intro hr3 hc3)))
  have hcap : l.length ≤ 9223372036854775807 := hr3.2.1
  clear hr hc hr3 hc3
  go_enter Try.func4, Try.ntmps4
  go_wp2_with ((with_reducible refine gate_dst (N := 4) rfl ?_); refine hold ?_)
  refine box_event rfl (N := 4) rfl (cs := #[.int .i64 nn, .int .i64 uu, .slice A ls.length c]) (t := 32) (by go_simp) ?_
  intro bn hbn w1 hb1 hB1
  have HB1 := Aside0.mk (And.intro hB1 hb1)
  clear hbn hB1 hb1
  go_wp2_with ((with_reducible refine gate_dst (N := 5) rfl ?_); refine hold ?_)
  refine box_event rfl (N := 5) rfl (cs := #[.int .i64 sn, .int .i64 lo, .int .i64 hi]) (t := 43) (by go_simp) ?_
  intro bs hbs w2 hb2 hB2
  have HB2 := Aside0.mk (And.intro (below_step HB1.out.1 hB2) (And.intro (blk_below HB1.out.2 hB2) hb2))
  have C0 : w2.cell? ⟨bn, 0, none⟩ = some (.int .i64 nn) := blk_cell HB2.out.2.1 0
  have C1 : w2.cell? ⟨bn, 1, none⟩ = some (.int .i64 uu) := blk_cell HB2.out.2.1 1
  have C2 : w2.cell? ⟨bn, 2, none⟩ = some (.slice A ls.length c) := blk_cell HB2.out.2.1 2
  clear hb2 hB2 hbs HB1
  have nilAt : ∀ W : World, IntsAt W none [] := fun W => ⟨rfl, by simp, fun h => by simp at h⟩
  have HNIL := Aside0.mk nilAt
  clear nilAt
  by_cases hfew : ls.length ≤ 300
  · have HF : Aside0 (decide (ls.length ≤ 300 ∧ ([] : List Int).length ≤ 30) = true) := ⟨decide_eq_true ⟨hfew, by simp⟩⟩
    have HFW : Aside0 (∀ W, Below w.heap.size w W → Calls Try.prog 22 #[.agg #[.int .i64 nn, .int .i64 uu, .slice A ls.length c], .slice none 0 0] W fun e w' => e = .returned (.bool true) ∧ Below W.heap.size W w') := ⟨fun W hW => by
      have := few_any nn uu A c ls none 0 [] W (Kd.C_below HR.out.1 hW) HR.out.2.1 (HNIL.out W) (Nat.le_refl _)
      rw [HF.out] at this
      exact this⟩
    have HFEW := Aside0.mk hfew
    clear hfew
    by_cases h70 : 70 < l.length
    · have hd : decide (70 < (l.length : Int)) = true := by simp; omega
      clear h70
      go_wp2_with fail
      refine (HFW.out _ HB2.out.1).mono ?_
      rintro e w3 ⟨rfl, hb3⟩
      have HB3 := Aside0.mk (below_step HB2.out.1 hb3)
      clear C0 C1 C2 hb3
      go_wp2_with fail
      refine (works_calls _).mono ?_
      rintro e w4 ⟨rfl, hb4⟩
      have HB4 := Aside0.mk (below_step HB3.out hb4)
      clear hb4
      go_wp2
      go_ret
      exact ⟨rfl, HB4.out⟩
    · have hd : decide (70 < (l.length : Int)) = false := by simp; omega
      have hl70 : l.length ≤ 70 := by omega
      clear h70
      go_wp2_with fail
      refine (HFW.out _ HB2.out.1).mono ?_
      rintro e w3 ⟨rfl, hb3⟩
      have HB3 := Aside0.mk (And.intro (below_step HB2.out.1 hb3) hb3)
      clear C0 C1 C2 hb3
      go_wp2
      have HI0 : Aside0 (Below w3.heap.size w3 w3 ∧ w3.ownsRow w3.heap.size 70 2 (.slice none 0 0) (l.take 0).length (pairCs (l.take 0))) := ⟨Below.refl _ _, rfl, .inl ⟨rfl, rfl⟩⟩
      obtain ⟨i0, hi0, hz0, hz1, hz2⟩ := info_parts info70
      go_loopw [9, 10] (fun sv v wr => ∃ i : Nat, v = .int .i64 i ∧ i ≤ l.length ∧ Aside0 (Below w3.heap.size w3 wr ∧ wr.ownsRow w3.heap.size 70 2 sv (l.take i).length (pairCs (l.take i)))) (fun _ v _ => l.length - (intOf v).toNat)
      case atStart => exact ⟨0, rfl, Nat.zero_le _, HI0⟩
      case round =>
        obtain ⟨i, rfl, hile, HI⟩ := hrel
        clear HI0
        obtain ⟨wo, rfl⟩ : ∃ wo, wo = wr := ⟨_, rfl⟩
        by_cases hgo : i < l.length
        · have hwi : IntKind.i64.wrap ((i : Int) + 1) = (i : Int) + 1 := by rw [i64_w]; unfold wrap64; omega
          obtain ⟨d, hdd⟩ : ∃ d, d = l[i] := ⟨_, rfl⟩
          have hrd : PB.rd_T41 l (i : Int) = d := by rw [hdd]; simp [PB.rd_T41, List.getElem?_eq_getElem hgo]
          have ea := PB.at_T41 (Kd.C_below (Kd.C_below HR.out.2.2.1 HB3.out.1) HI.out.1) (i : Int) (by omega) (by omega)
          rw [hrd, Int.toNat_natCast] at ea
          obtain ⟨ad, rfl, e0, e1⟩ := ea
          have htk : l.take (i + 1) = l.take i ++ [d] := by rw [List.take_add_one, List.getElem?_eq_getElem hgo, hdd]; rfl
          have HTK := Aside0.mk htk
          have hA : Below wo.heap.size wo (wo.alloc (.cells #[.int .i64 d.f0, .int .i64 d.f1] 70)) := below_alloc (Below.refl _ _) _
          have hll : (l.take i).length ≤ 70 := by rw [List.length_take]; omega
          obtain ⟨M, hM⟩ : ∃ M, M = (l.take i).length := ⟨_, rfl⟩
          have HM := Aside0.mk hM
          have HN : Aside0 ((wo.alloc (.cells #[.int .i64 d.f0, .int .i64 d.f1] 70)).ownsRow w3.heap.size 70 2 u9 M (pairCs (l.take i)) ∧ Below w3.heap.size w3 (wo.alloc (.cells #[.int .i64 d.f0, .int .i64 d.f1] 70)) ∧ ∀ j v, [Value.int .i64 d.f0, Value.int .i64 d.f1][j]? = some v → (wo.alloc (.cells #[.int .i64 d.f0, .int .i64 d.f1] 70)).cell? ((⟨wo.heap.size, 0, none⟩ : Addr).add j) = some v) := ⟨by rw [hM]; exact HI.out.2.alloc _, below_step HI.out.1 hA, World.news_of_block (w := wo.alloc (.cells #[.int .i64 d.f0, .int .i64 d.f1] 70)) (cs := #[.int .i64 d.f0, .int .i64 d.f1]) (blk_new wo _)⟩
          rw [← hM] at hll
          clear hdd hrd htk hA hM
          go_wp2_with ((with_reducible refine gate_dst (N := 38) rfl ?_); refine hold ?_)
          refine wpList_append_lies _ rfl (.tmp 32) (.tmp 37) 68 rfl w3.heap.size 70 i0 _ 2 16 Try.underlying68 hi0 hz0 hz1 hz2 rfl (by decide) u9 M (pairCs (l.take i)) (by go_simp) HN.out.1 ⟨wo.heap.size, 0, none⟩ 1 1 [.int .i64 d.f0, .int .i64 d.f1] (by go_simp) rfl HN.out.2.2 (by simp [Value.oneCell']) (by decide) (by unfold maxLen; omega) (by omega) HN.out.2.1.size _ rfl ?_
          intro g cap w5 hown5 hg5 hor hlt5
          have HI5 : Aside0 (Below w3.heap.size w3 w5 ∧ w5.ownsRow w3.heap.size 70 2 (.slice (some ⟨g, 0, none⟩) (M + 1) cap) (l.take (i + 1)).length (pairCs (l.take (i + 1)))) := by
            refine ⟨HN.out.2.1.trans ((Kp.grown hg5).below HN.out.2.1.size (fun k hk => own_base HN.out.1 k hk.symm)), ?_⟩
            rw [HTK.out, pairCs_snoc, List.length_append, ← HM.out]
            exact hown5
          clear hown5 hg5 hor hlt5
          obtain ⟨N, hN⟩ : ∃ N, N = M + 1 := ⟨_, rfl⟩
          rw [← hN] at HI5 ⊢
          clear hN hll HN e0 e1
          go_wp2
          go_roundw
          case rel => exact ⟨i + 1, by go_num, by omega, HI5⟩
          case measure => simp [intOf]; omega
        · obtain rfl : i = l.length := by omega
          clear hile hgo hi0 hz0 hz1 hz2
          have ho := HI.out.2
          rw [List.take_length] at ho
          obtain ⟨Ak, ck, rfl, hck, hCk⟩ := own_pairs_any ho hcap
          have HK := Aside0.mk (And.intro hck hCk)
          have HW := Aside0.mk (below_step HB3.out.1 HI.out.1)
          have hnet := blk_below HB2.out.2.1 (below_step HB3.out.2 HI.out.1)
          have hst := blk_below HB2.out.2.2 (below_step HB3.out.2 HI.out.1)
          have HNS := Aside0.mk (And.intro hnet hst)
          have C0 : wo.cell? ⟨bn, 0, none⟩ = some (.int .i64 nn) := blk_cell hnet 0
          have C1 : wo.cell? ⟨bn, 1, none⟩ = some (.int .i64 uu) := blk_cell hnet 1
          have C2 : wo.cell? ⟨bn, 2, none⟩ = some (.slice A ls.length c) := blk_cell hnet 2
          have C3 : wo.cell? ⟨bs, 0, none⟩ = some (.int .i64 sn) := blk_cell hst 0
          have C4 : wo.cell? ⟨bs, 1, none⟩ = some (.int .i64 lo) := blk_cell hst 1
          have C5 : wo.cell? ⟨bs, 2, none⟩ = some (.int .i64 hi) := blk_cell hst 2
          obtain ⟨⟨X, Y, E⟩, hT⟩ : ∃ T, diagT nn uu ls sn lo hi l u = T := ⟨_, rfl⟩
          have HT := Aside0.mk hT
          clear ho hck hCk HI hnet hst hT
          go_wp2_with fail
          refine (Diag_tri nn uu A c ls sn lo hi A3 c3 l u X Y E HT.out _ (Kd.C_below HR.out.1 HW.out) HR.out.2.1 (Kd.C_below HR.out.2.2.1 HW.out) HR.out.2.2.2 (by omega)).mono ?_
          rintro e w6 ⟨A1, c1, A2, c2, rfl, hk1, hi1, hk2, hi2, hb6⟩
          have H6 := Aside0.mk (And.intro hk1 (And.intro hi1 (And.intro hk2 (And.intro hi2 (And.intro hb6 (below_step HW.out hb6))))))
          have D0 : ∀ W, Below w6.heap.size w6 W → W.cell? ⟨bn, 0, none⟩ = some (.int .i64 nn) := fun W h => blk_cell (blk_below HNS.out.1 (below_step hb6 h)) 0
          have D1 : ∀ W, Below w6.heap.size w6 W → W.cell? ⟨bn, 1, none⟩ = some (.int .i64 uu) := fun W h => blk_cell (blk_below HNS.out.1 (below_step hb6 h)) 1
          have D2 : ∀ W, Below w6.heap.size w6 W → W.cell? ⟨bn, 2, none⟩ = some (.slice A ls.length c) := fun W h => blk_cell (blk_below HNS.out.1 (below_step hb6 h)) 2
          have D3 : ∀ W, Below w6.heap.size w6 W → W.cell? ⟨bs, 0, none⟩ = some (.int .i64 sn) := fun W h => blk_cell (blk_below HNS.out.2 (below_step hb6 h)) 0
          have D4 : ∀ W, Below w6.heap.size w6 W → W.cell? ⟨bs, 1, none⟩ = some (.int .i64 lo) := fun W h => blk_cell (blk_below HNS.out.2 (below_step hb6 h)) 1
          have D5 : ∀ W, Below w6.heap.size w6 W → W.cell? ⟨bs, 2, none⟩ = some (.int .i64 hi) := fun W h => blk_cell (blk_below HNS.out.2 (below_step hb6 h)) 2
          clear hk1 hi1 hk2 hi2 hb6 C0 C1 C2 C3 C4 C5
          go_wp2
          have HREF : Aside0 (∀ W, Below w6.heap.size w6 W → Calls Try.prog 26 #[.agg #[.int .i64 nn, .int .i64 uu, .slice A ls.length c]] W fun e w' => ∃ A' c', e = .returned (.agg #[.int .i64 nn, .int .i64 uu, .slice A' ls.length c']) ∧ ls.length ≤ c' ∧ LinksAt w' A' ls ∧ Below W.heap.size W w') := ⟨fun W h => ref_calls nn uu A c ls W (Kd.C_below HR.out.1 (below_step H6.out.2.2.2.2.2 h)) HR.out.2.1 (by have := HFEW.out; omega)⟩
          have HKC : Aside0 (∀ W, Below w6.heap.size w6 W → DuesAt W (Ak) l) := ⟨fun W h => Kd.C_below HK.out.2 (below_step H6.out.2.2.2.2.1 h)⟩
          go_region_held3 (fun W => Below w6.heap.size w6 W) (first | exact below_drew1 (Below.refl _ _) | exact below_step (by assumption) (by assumption)) (first | (go_at_call 26; refine (HREF.out _ (by assumption)).mono ?_; rintro e wr ⟨Ar, cr, rfl, hcr, hlr, hbr⟩; have HAR := Aside0.mk (And.intro hcr hlr); clear hcr hlr) | (go_at_call 25; refine (RDiag_tri nn uu Ar cr ls sn lo hi Ak ck l u X Y E HT.out _ HAR.out.2 HAR.out.1 (HKC.out _ (by assumption)) HK.out.1 (by omega)).mono ?_; rintro e wd ⟨B1, d1, B2, d2, rfl, hm1, hj1, hm2, hj2, hbd⟩; have HBD := Aside0.mk (And.intro hm1 (And.intro hj1 (And.intro hm2 hj2))); clear hm1 hj1 hm2 hj2))
          rename_i hH
          have HH := Aside0.mk hH
          clear hH hbr hbd D0 D1 D2 D3 D4 D5
          go_wp2_with fail
          refine (equal_true A1 B1 c1 d1 X _ (Kd.C_below H6.out.2.1 HH.out) H6.out.1 HBD.out.2.1 HBD.out.1).mono ?_
          rintro e w8 ⟨rfl, hb8⟩
          have H8 := Aside0.mk hb8
          clear hb8
          go_wp2_with fail
          refine (equal_true A2 B2 c2 d2 Y _ (Kd.C_below H6.out.2.2.2.1 (below_step HH.out H8.out)) H6.out.2.2.1 (Kd.C_below HBD.out.2.2.2 H8.out) HBD.out.2.2.1).mono ?_
          rintro e w9 ⟨rfl, hb9⟩
          have H9 := Aside0.mk (below_step HH.out (below_step H8.out hb9))
          clear hb9
          go_wp2_with fail
          refine (works_calls _).mono ?_
          rintro e w10 ⟨rfl, hb10⟩
          have H10 := Aside0.mk (below_step H6.out.2.2.2.2.2 (below_step H9.out hb10))
          clear hb10
          go_wp2
          go_ret
          exact ⟨rfl, H10.out⟩
  · have HF : Aside0 (decide (ls.length ≤ 300 ∧ ([] : List Int).length ≤ 30) = false) := ⟨decide_eq_false (fun h => hfew h.1)⟩
    have HFW : Aside0 (∀ W, Below w.heap.size w W → Calls Try.prog 22 #[.agg #[.int .i64 nn, .int .i64 uu, .slice A ls.length c], .slice none 0 0] W fun e w' => e = .returned (.bool false) ∧ Below W.heap.size W w') := ⟨fun W hW => by
      have := few_any nn uu A c ls none 0 [] W (Kd.C_below HR.out.1 hW) HR.out.2.1 (HNIL.out W) (Nat.le_refl _)
      rw [HF.out] at this
      exact this⟩
    clear hfew
    go_wp2_with fail
    refine (HFW.out _ HB2.out.1).mono ?_
    rintro e w3 ⟨rfl, hb3⟩
    have HB3 := Aside0.mk (below_step HB2.out.1 hb3)
    clear C0 C1 C2 hb3
    go_wp2_with fail
    refine (works_calls _).mono ?_
    rintro e w4 ⟨rfl, hb4⟩
    have HB4 := Aside0.mk (below_step HB3.out hb4)
    clear hb4
    go_wp2
    go_ret
    exact ⟨rfl, HB4.out⟩
end Go.Proofs.Ytgmglpnoppcnkaa
end
