/- choices, worst. -/
import Derived.Test.YtgmglpnoppcnkaaC4
import Derived.Test.YtgmglpnoppcnkaaR2

namespace Go.Proofs.Ytgmglpnoppcnkaa
open Go.RowKit Go.Proofs.YtgmglpnoppcnkaaW.PrintWords Go.Proofs.YtgmglpnoppcnkaaW.PrintLast Go.Proofs.YtgmglpnoppcnkaaW.PrintMore
set_option linter.unusedVariables false
set_option linter.unusedSimpArgs false
set_option maxRecDepth 100000
attribute [local go_sem] Oper.semAt_some

set_option maxHeartbeats 1000000 in
theorem choices_calls (cr : Nat) (f : Int) (w : World) :
    Calls Try.prog 107 #[.pointer (some ⟨cr, 0, none⟩), .int .i64 f] w fun e w' => ∃ fb cb, e = .returned (.func (.func 122) #[] #[.pointer (some ⟨fb, 0, none⟩), .pointer (some ⟨cb, 0, none⟩)]) ∧ Below w.heap.size w w' ∧
      w'.heap[fb]? = some (.cells #[.int .i64 f] 3 (0, 0)) ∧ w'.heap[cb]? = some (.cells #[.pointer (some ⟨cr, 0, none⟩)] 137 (0, 0)) ∧ (w.heap.size ≤ fb ∧ w.heap.size ≤ cb) := by
  go_enter Try.func107, Try.ntmps107
  go_wp2_with ((with_reducible refine gate_dst (N := 2) rfl ?_); refine hold ?_)
  refine box_event rfl (N := 2) rfl (cs := #[.pointer (some ⟨cr, 0, none⟩)]) (t := 137) (by go_simp) ?_
  intro cb hcb w1 hb1 hB1
  have Hb1 := Aside0.mk (And.intro hb1 (And.intro hB1 (show w.heap.size ≤ cb by omega)))
  clear hcb hb1 hB1
  go_wp2_with ((with_reducible refine gate_dst (N := 3) rfl ?_); refine hold ?_)
  refine box_event rfl (N := 3) rfl (cs := #[.int .i64 f]) (t := 3) (by go_simp) ?_
  intro fb hfb w2 hb2 hB2
  have Hb2 := Aside0.mk (And.intro hb2 (And.intro hB2 (show w.heap.size ≤ fb by have := Hb1.out.2.1.size; omega)))
  clear hfb hb2 hB2
  go_wp2
  go_ret
  exact ⟨fb, cb, rfl, below_step Hb1.out.2.1 Hb2.out.2.1, Hb2.out.1, blk_below Hb1.out.1 Hb2.out.2.1, Hb2.out.2.2, Hb1.out.2.2⟩

open Classical in
/-- The list of the least times. -/
noncomputable def leastL (ls : List Lk) (ue : Lk → Option Int) (sn b : Int) (nn : Nat) : List Int := if h : ∃ o, LeastAt ls ue sn b nn o then Classical.choose h else []
theorem leastL_eq {ls : List Lk} {ue : Lk → Option Int} {sn b : Int} {nn : Nat} {o : List Int} (h : LeastAt ls ue sn b nn o) : leastL ls ue sn b nn = o := by
  unfold leastL
  rw [dif_pos ⟨o, h⟩]
  exact (Classical.choose_spec (⟨o, h⟩ : ∃ o, LeastAt ls ue sn b nn o)).unique h
def maxL (a b : List Int) : List Int := List.zipWith max a b
/-- The upper bounds with some units failed. -/
noncomputable def hiL (nn : Nat) (ls : List Lk) (sn hi : Int) (st : List Int) (us : List Int) : List Int := leastL ls (ueHi (setUs (looseB st) us)) sn hi nn
/-- The greatest ones over some sets. -/
noncomputable def worstOf (nn : Nat) (ls : List Lk) (sn hi : Int) (st : List Int) (xss : List (List Int)) : List Int := xss.foldl (fun o us => maxL o (hiL nn ls sn hi st us)) (hiL nn ls sn hi st [])
theorem worstOf_snoc (nn : Nat) (ls : List Lk) (sn hi : Int) (st : List Int) (xss : List (List Int)) (x : List Int) : worstOf nn ls sn hi st (xss ++ [x]) = maxL (worstOf nn ls sn hi st xss) (hiL nn ls sn hi st x) := by simp [worstOf]

/-- What a function returns that hands back a row of integers of its own. -/
def ListPost (w : World) (nn : Nat) (o : List Int) (e : Ending) (w' : World) : Prop :=
  ∃ g, e = .returned (.slice (some ⟨g, 0, none⟩) nn nn) ∧ w.heap.size ≤ g ∧ w'.heap[g]? = some (.cells (intsCs o) 3 (0, 0)) ∧ o.length = nn ∧ Below w.heap.size w w'
theorem without_list (cb B nn : Nat) (uu : Int) (sv0 : Value) (sn lo hi : Int) (ls : List Lk) (st : List Int) (A : Option Addr) (c : Nat) (us : List Int) (w : World)
    (hw : CareAt w B cb nn uu sv0 sn lo hi ls st) (hO : StOk nn uu ls sn lo hi) (hr : IntsAt w A us) (hc : us.length ≤ c) (hu : ∀ u ∈ us, 0 ≤ u ∧ u < 20) :
    Calls Try.prog 100 #[.pointer (some ⟨cb, 0, none⟩), .slice A us.length c] w (ListPost w nn (hiL nn ls sn hi st us)) :=
  (without_calls cb B nn uu sv0 sn lo hi ls st A c us w hw hO hr hc hu).mono fun e w' ⟨g, o, he, hg, hb, hl, hB⟩ => by
    have := leastL_eq hl
    exact ⟨g, he, hg, by rw [hiL, this]; exact hb, by rw [hiL, this]; exact hl.len, hB⟩

theorem withFrom_mem (s : Int) (l : List Int) : ∀ (i : Nat) (u : Int), u ∈ withFrom s i l → (i : Int) ≤ u ∧ u < i + l.length := by
  induction l with
  | nil => intro i u h; simp [withFrom] at h
  | cons x r ih =>
    intro i u h
    simp only [withFrom] at h
    have : u = i ∨ u ∈ withFrom s (i + 1) r := by
      split at h
      · exact (List.mem_cons.1 h)
      · exact .inr h
    rcases this with rfl | h
    · simp; omega
    · have := ih (i + 1) u h
      simp only [List.length_cons]
      omega
theorem chooseL_mem : ∀ (k : Nat) (l ch x : List Int), x ∈ chooseL k l ch → ∀ u ∈ x, u ∈ ch ∨ u ∈ l := by
  intro k l
  induction l generalizing k with
  | nil =>
    intro ch x hx u hu
    cases k with
    | zero => rw [chooseL_zero, List.mem_singleton] at hx; subst hx; exact .inl hu
    | succ k => rw [chooseL_nil] at hx; cases hx
  | cons y r ih =>
    intro ch x hx u hu
    cases k with
    | zero => rw [chooseL_zero, List.mem_singleton] at hx; subst hx; exact .inl hu
    | succ k =>
      rw [chooseL_cons, List.mem_append] at hx
      rcases hx with hx | hx
      · rcases ih k (ch ++ [y]) x hx u hu with h | h
        · rcases List.mem_append.1 h with h | h
          · exact .inl h
          · exact .inr (by rw [List.mem_singleton.1 h]; exact List.mem_cons_self)
        · exact .inr (List.mem_cons_of_mem _ h)
      · rcases ih (k + 1) ch x hx u hu with h | h
        · exact .inl h
        · exact .inr (List.mem_cons_of_mem _ h)
theorem choFrom_mem (fine : List Int) : ∀ (n k : Nat) (x : List Int), x ∈ choFrom fine k n → ∀ u ∈ x, u ∈ fine := by
  intro n
  induction n with
  | zero => intro k x h; cases h
  | succ n ih =>
    intro k x h u hu
    rcases List.mem_append.1 h with h | h
    · rcases chooseL_mem k fine [] x h u hu with h | h
      · cases h
      · exact h
    · exact ih (k + 1) x h u hu
theorem choices_mem (f : Nat) (st x : List Int) (hst : st.length ≤ 20) (h : x ∈ choicesL f (fineL st)) : ∀ u ∈ x, 0 ≤ u ∧ u < 20 := by
  intro u hu
  have := withFrom_mem 1 st 0 u (choFrom_mem _ _ _ x h u hu)
  omega
theorem own_ints_any {w : World} {B : Nat} {fv : Value} {x : List Int} (h : w.ownsRow B 3 1 fv x.length (ints x)) (hn : x.length ≤ 9223372036854775807) : ∃ A c, fv = .slice A x.length c ∧ x.length ≤ c ∧ IntsAt w A x ∧ ∀ ad, A = some ad → B ≤ ad.block := by
  rcases h.2 with ⟨e, e0⟩ | ⟨g, cap, cur, e, hB, hg, hc, _⟩
  · have : x = [] := List.length_eq_zero_iff.1 e0
    subst this
    exact ⟨none, 0, e, Nat.le_refl _, ⟨rfl, by simp, fun h => by simp at h⟩, fun ad h => by cases h⟩
  · subst e
    exact ⟨_, cap, rfl, hc, own_ints h hn, fun ad h => by cases h; exact hB⟩
/-- The first j ones are the greater ones. -/
def mixL (o t : List Int) (j : Nat) : List Int := (maxL o t).take j ++ o.drop j
theorem mixL_len {o t : List Int} {n j : Nat} (ho : o.length = n) (ht : t.length = n) (hj : j ≤ n) : (mixL o t j).length = n := by
  unfold mixL maxL
  rw [List.length_append, List.length_take, List.length_zipWith, List.length_drop]
  omega
theorem mixL_end {o t : List Int} {n : Nat} (ho : o.length = n) (ht : t.length = n) : mixL o t n = maxL o t := by
  unfold mixL maxL
  rw [List.drop_of_length_le (by omega), List.append_nil, List.take_of_length_le (by rw [List.length_zipWith]; omega)]
theorem mixL_get {o t : List Int} {n j : Nat} (ho : o.length = n) (ht : t.length = n) (hj : j < n) : (mixL o t j)[j]? = some (o[j]'(by omega)) := by
  unfold mixL maxL
  rw [List.getElem?_append_right (by rw [List.length_take, List.length_zipWith]; omega), List.length_take, List.length_zipWith, List.getElem?_drop]
  rw [show j + (j - min j (min o.length t.length)) = j by omega, List.getElem?_eq_getElem (by omega)]
theorem mixL_set {o t : List Int} {n j : Nat} (ho : o.length = n) (ht : t.length = n) (hj : j < n) : (mixL o t j).set j (max (o[j]'(by omega)) (t[j]'(by omega))) = mixL o t (j + 1) := by
  unfold mixL
  have hl : ((maxL o t).take j).length = j := by unfold maxL; rw [List.length_take, List.length_zipWith]; omega
  have hz : j < (maxL o t).length := by unfold maxL; rw [List.length_zipWith]; omega
  rw [List.set_append_right _ _ (by omega), hl, Nat.sub_self, List.drop_eq_getElem_cons (show j < o.length by omega), List.set_cons_zero, List.take_add_one, List.getElem?_eq_getElem hz]
  simp [maxL]
theorem fine_le (st : List Int) : (fineL st).length ≤ st.length := withFrom_len 1 st 0

set_option maxHeartbeats 8000000 in
theorem worst_calls (cr B nn : Nat) (uu : Int) (sv0 : Value) (sn lo hi : Int) (ls : List Lk) (st : List Int) (f : Nat) (w : World)
    (hw : CareAt w B cr nn uu sv0 sn lo hi ls st) (hO : StOk nn uu ls sn lo hi) (hst : st.length ≤ 20) (hf : f ≤ 100) :
    Calls Try.prog 57 #[.pointer (some ⟨cr, 0, none⟩), .int .i64 f] w (ListPost w nn (worstOf nn ls sn hi st (choicesL f (fineL st)))) := by
  have HW := Aside0.mk hw
  have HO := Aside0.mk hO
  clear hw hO
  refine (callsIn_wide (n := 0)).1 (callsIn_of_wp_marks Try.func57 rfl trivial ?_ rfl)
  simp only [Try.ntmps57, List.size_toArray, List.length_cons, List.length_nil, Nat.reduceAdd, Nat.reduceSub, Array.replicate_succ, Array.replicate_zero, List.push_toArray, List.append_toArray, List.nil_append, List.cons_append]
  refine wpIn_wide.2 ?_
  go_wp2_with ((with_reducible refine gate_dst (N := 2) rfl ?_); refine hold ?_)
  refine box_event rfl (N := 2) rfl (cs := #[.pointer (some ⟨cr, 0, none⟩)]) (t := 137) (by go_simp) ?_
  intro bb hbb w1 hb1 hB1
  have HB1 := Aside0.mk (And.intro hB1 (And.intro hb1 (show w.heap.size ≤ bb by omega)))
  have c0 : w1.cell? ⟨bb, 0, none⟩ = some (.pointer (some ⟨cr, 0, none⟩)) := blk_cell hb1 0
  clear hbb hb1 hB1
  go_wp2_with (first | (go_at_call 100; refine (without_list cr B nn uu sv0 sn lo hi ls st none 0 [] _ (HW.out.below HB1.out.1) HO.out ⟨rfl, by simp, fun h => by simp at h⟩ (Nat.le_refl _) (by simp)).mono ?_; rintro e w2 ⟨go, rfl, hgo, hgb, hlen, hb2⟩; have H2 := Aside0.mk (And.intro hgo (And.intro hgb (And.intro hlen hb2))); have c1 : (w2.alloc (.cells #[.slice (some ⟨go, 0, none⟩) nn nn] 33)).cell? ⟨bb, 0, none⟩ = some (.pointer (some ⟨cr, 0, none⟩)) := (blk_cell (blk_below HB1.out.2.1 (below_step hb2 (below_alloc (Below.refl _ _) _))) 0); clear hgo hgb hlen hb2 c0) | (go_at_call 107; refine (choices_calls cr f _).mono ?_; rintro e W6 ⟨fb, cb, rfl, hb3, q1, q2, q3⟩; have H3 := Aside0.mk (And.intro hb3 (And.intro q1 (And.intro q2 q3))); clear hb3 q1 q2 q3 c1))
  obtain ⟨hgo, hgb, hlen, hb2⟩ := H2.out
  obtain ⟨hb3, q1, q2, q3, q4⟩ := H3.out
  obtain ⟨ob, hob⟩ : ∃ ob, ob = w2.heap.size := ⟨_, rfl⟩
  rw [← hob]
  have hbA : Below w2.heap.size w2 (w2.alloc (.cells #[.slice (some ⟨go, 0, none⟩) nn nn] 33)) := below_alloc (Below.refl _ _) _
  have hb23 : Below w2.heap.size w2 W6 := below_step hbA hb3
  have hb6 : Below w.heap.size w W6 := below_step HB1.out.1 (below_step hb2 hb23)
  have hob6 : W6.heap[ob]? = some (.cells #[.slice (some ⟨go, 0, none⟩) nn nn] 33 (0, 0)) := by
    refine blk_below ?_ hb3
    rw [hob]; exact blk_new w2 _
  have hgo6 : W6.heap[go]? = some (.cells (intsCs (worstOf nn ls sn hi st [])) 3 (0, 0)) := blk_below hgb hb23
  have hbb6 : W6.heap[bb]? = some (.cells #[.pointer (some ⟨cr, 0, none⟩)] 137 (0, 0)) := blk_below HB1.out.2.1 (below_step hb2 hb23)
  have hcare6 := HW.out.below hb6
  obtain ⟨wp, fv, h0, hcr, how, hweb⟩ := HW.out
  have hfl := fine_le st
  obtain ⟨A, c, hfv, hfc, hfi, -⟩ := own_ints_any how (by omega)
  have hfb : ∀ ad, A = some ad → ad.block < w.heap.size := fun ad e => own_lt how _ (by rw [hfv, e]; rfl)
  rw [hfv] at hcr
  have hctx : CoCtx W6 fb cb cr wp f (fineL st) A c (goneB st) (looseB st) := ⟨q1, q2, blk_below hcr hb6, Kd.C_below hfi hb6, hfc, by omega, hf⟩
  have hcrl := blk_lt hcr
  have hs1 := HB1.out.1.size
  have hs2 := hb2.size
  have hs3 := hb23.size
  have hlt6 := blk_lt hgo6
  have hlt2 := blk_lt hgb
  rw [World.size_alloc] at q3 q4
  have hM6 : ∀ j, j = go → j < W6.heap.size ∧ ¬ CoRd fb cb cr A j := by
    rintro j rfl
    refine ⟨hlt6, ?_⟩
    rintro (e | e | e | ⟨a, ea, e⟩)
    · omega
    · omega
    · omega
    · have := hfb a ea; omega
  have HH := Aside0.mk (And.intro hctx (And.intro hM6 (And.intro hob6 (And.intro hgo6 (And.intro hbb6 (And.intro hcare6 hb6))))))
  have HN := Aside0.mk (And.intro hlen (And.intro (show w.heap.size ≤ go by omega) (show go ≠ ob by omega)))
  have hne2 : Aside0 (go ≠ bb ∧ (∀ i, i < w.heap.size → i ≠ go)) := ⟨by
    constructor
    · have := HB1.out.2.1; have := blk_lt this; omega
    · intro i hi; omega⟩
  clear hgo hgb hlen hb2 hb3 q1 q2 q3 q4 hob hbA hb23 hb6 hob6 hgo6 hbb6 hcare6 h0 hcr how hweb hfl hfv hfc hfi hfb hctx hcrl hs1 hs2 hs3 hlt6 hlt2 hM6 H2 H3
  go_wp2
  refine range_law (gf := 122) (lb := #[.pointer (some ⟨fb, 0, none⟩), .pointer (some ⟨cb, 0, none⟩)]) rfl (callFunc_enter Try.func122 (by kernel_rfl) rfl) (choices1_iter fb cb cr wp f (fineL st) A c (goneB st) (looseB st) W6 HH.out.1) (fun j => j = go) HH.out.2.1
      (fun k' W' => W'.heap[go]? = some (.cells (intsCs (worstOf nn ls sn hi st ((choicesL f (fineL st)).take k'))) 3 (0, 0)) ∧ Kp W6 W' (fun j => j = go) ∧ (worstOf nn ls sn hi st ((choicesL f (fineL st)).take k')).length = nn) (fun cc k' W' => False) ?hI ?hIx ?h0
      (fun vv => { tmps := #[.pointer (some ⟨cr, 0, none⟩), .int .i64 (f : Int), .pointer (some ⟨bb, 0, none⟩), undef, .slice none 0 0, .pointer (some ⟨ob, 0, none⟩), vv, undef, undef, .pointer (some ⟨cr, 0, none⟩), .slice (some ⟨go, 0, none⟩) nn nn, .pointer (some ⟨cr, 0, none⟩), .int .i64 (f : Int), .func (.func 122) #[] #[.pointer (some ⟨fb, 0, none⟩), .pointer (some ⟨cb, 0, none⟩)], vv, undef, undef, undef, undef, undef, undef, undef, undef, undef, undef, undef, undef, undef, undef, undef, undef, undef, undef, undef, undef], defers := [] }) ?assign ?body ?done ?stop
  case hI => exact fun k' Wa Wb h hb => ⟨(hb.block go (HH.out.2.1 go rfl).1).trans h.1, kp_below h.2.1 hb, h.2.2⟩
  case hIx => exact fun cc k' Wa Wb h hb hck => h
  case h0 => exact ⟨HH.out.2.2.2.1, Kp.refl _ _, HN.out.1⟩
  case assign =>
    intro lr vv Wa K hK
    gi_wp2
    exact hK
  case stop => rintro cc k' Wa hszW hk' h hd; exact h.elim
  case done =>
    rintro Wa hszW ⟨hg, hk, hl⟩ hd
    rw [List.take_length] at hg hl
    have hbw : Below w.heap.size w Wa := HH.out.2.2.2.2.2.2.trans (hk.below HH.out.2.2.2.2.2.2.size (fun i e => by rw [e]; exact HN.out.2.1))
    have e0 : Wa.cell? ⟨ob, 0, none⟩ = some (.slice (some ⟨go, 0, none⟩) nn nn) := blk_cell (hk.blk HH.out.2.2.1 (fun e => HN.out.2.2 e.symm)) 0
    have HD := Aside0.mk (And.intro hg (And.intro hl (And.intro hd hbw)))
    clear hszW hg hk hl hd hbw
    go_wp2
    obtain ⟨hg, hl, hd, hbw⟩ := HD.out
    have hs6 := HH.out.2.2.2.2.2.2.size
    have hgl := (HH.out.2.1 go rfl).1
    refine leaves_marks (B := W6.heap.size) [W6.heap.size] Wa (by simp) ?_ (fun W' hb hck hs' => ⟨_, results_tmp rfl _ _ _, ⟨go, rfl, HN.out.2.1, (hb.block go hgl).trans hg, hl, hbw.trans (hb.mono hs6)⟩⟩)
    intro D hD
    rw [List.mem_singleton.1 hD]
    exact ⟨hd, Nat.le_refl _⟩
  case body =>
    rintro lr k' x Ax cx Wa ⟨hg, hk, hl⟩ hx hA hcx hszW
    have hbw : Below w.heap.size w Wa := HH.out.2.2.2.2.2.2.trans (hk.below HH.out.2.2.2.2.2.2.size (fun i e => by rw [e]; exact HN.out.2.1))
    have e0 : Wa.cell? ⟨bb, 0, none⟩ = some (.pointer (some ⟨cr, 0, none⟩)) := blk_cell (hk.blk HH.out.2.2.2.2.1 (fun e => hne2.out.1 e.symm)) 0
    have hob : Wa.heap[ob]? = some (.cells #[.slice (some ⟨go, 0, none⟩) nn nn] 33 (0, 0)) := hk.blk HH.out.2.2.1 (fun e => HN.out.2.2 e.symm)
    have hxm : x ∈ choicesL f (fineL st) := by
      obtain ⟨h1, h2⟩ := List.getElem?_eq_some_iff.1 hx
      rw [← h2]; exact List.getElem_mem h1
    have hcal := without_list cr B nn uu sv0 sn lo hi ls st Ax cx x Wa (HW.out.below hbw) HO.out hA hcx (choices_mem f st x hst hxm)
    have HD := Aside0.mk (And.intro hg (And.intro hk (And.intro hl (And.intro hx (And.intro hob hszW)))))
    have HCAL := Aside0.mk hcal
    clear hg hk hl hx hA hcx hszW hob hxm hcal hbw
    gi_wp2
    refine ⟨trivial, rfl, CallsIn.inRound lr (callsIn_wide.2 (HCAL.out.mono ?_))⟩
    rintro e Wb ⟨gt, rfl, hgt, hgb, hlen, hbb⟩
    have HT := Aside0.mk (And.intro hgt (And.intro hgb (And.intro hlen hbb)))
    obtain ⟨O, hO⟩ : ∃ O, O = worstOf nn ls sn hi st ((choicesL f (fineL st)).take k') := ⟨_, rfl⟩
    obtain ⟨T, hT⟩ : ∃ T, T = hiL nn ls sn hi st x := ⟨_, rfl⟩
    have HOT := Aside0.mk (And.intro hO hT)
    rw [← hT] at hgb hlen
    have hOl : O.length = nn := by rw [hO]; exact HD.out.2.2.1
    have hgo0 : Wb.heap[go]? = some (.cells (intsCs (mixL O T 0)) 3 (0, 0)) := by
      refine blk_below ?_ hbb
      rw [hO]; exact HD.out.1
    have hne3 : gt ≠ go := by
      have := blk_lt HD.out.1
      omega
    have hob3 := blk_below HD.out.2.2.2.2.1 hbb
    have HL := Aside0.mk (And.intro hOl (And.intro hlen (And.intro hgb (And.intro hob3 (And.intro hbb hne3)))))
    have HI0 : Aside0 (Wb.heap[go]? = some (.cells (intsCs (mixL O T 0)) 3 (0, 0)) ∧ Kp Wb Wb (fun i => i = go)) := ⟨hgo0, Kp.refl _ _⟩
    have hn64 : nn ≤ 64 := by have := HO.out.net.n2; omega
    have hmx : Try.prog.follows .mixedOrders = true := by kernel_rfl
    clear hgt hgb hlen hbb e0 hO hT hOl hgo0 hne3 hob3
    gi_wp2
    gi_loopw [19] (fun v wr => ∃ j : Nat, v = .int .i64 j ∧ j ≤ nn ∧ Aside0 (wr.heap[go]? = some (.cells (intsCs (mixL O T j)) 3 (0, 0)) ∧ Kp Wb wr (fun i => i = go))) (fun v _ => nn - (intOf v).toNat)
    case atStart => exact ⟨0, rfl, Nat.zero_le _, HI0⟩
    case round =>
      obtain ⟨j, rfl, hj, HI⟩ := hrel
      clear HI0
      by_cases hgo : j < nn
      · have hwj : IntKind.i64.wrap ((j : Int) + 1) = (j : Int) + 1 := by rw [i64_w]; unfold wrap64; omega
        have hjO : j < O.length := by rw [HL.out.1]; exact hgo
        have hjT : j < T.length := by rw [HL.out.2.1]; exact hgo
        obtain ⟨ov, hov⟩ : ∃ ov, ov = O[j] := ⟨_, rfl⟩
        obtain ⟨tv, htv⟩ : ∃ tv, tv = T[j] := ⟨_, rfl⟩
        have d0 : wr.cell? ⟨gt, j, none⟩ = some (.int .i64 tv) := by
          rw [blk_cell (HI.out.2.blk HL.out.2.2.1 HL.out.2.2.2.2.2) j, htv]
          simp [intsCs, hjT]
        have d1 : wr.cell? ⟨ob, 0, none⟩ = some (.slice (some ⟨go, 0, none⟩) nn nn) := blk_cell (HI.out.2.blk HL.out.2.2.2.1 (fun e => HN.out.2.2 e.symm)) 0
        have d2 : wr.cell? ⟨go, j, none⟩ = some (.int .i64 ov) := by
          rw [blk_cell HI.out.1 j, hov]
          have := mixL_get HL.out.1 HL.out.2.1 hgo
          simp [intsCs, this]
        have f2 : wr.frozen? ⟨go, j, none⟩ = false := blk_frozen HI.out.1 j
        have HOV := Aside0.mk (And.intro hov htv)
        have hdg : decide ((j : Int) < (nn : Int)) = true := by simp; exact hgo
        clear hov htv
        gi_wp2
        have e2 : wr.drew.cell? ⟨go, j, none⟩ = some (.int .i64 ov) := d2
        have ef : wr.drew.frozen? ⟨go, j, none⟩ = false := f2
        refine region_round lr (S := fun W => W.cell? ⟨ob, 0, none⟩ = some (.slice (some ⟨go, 0, none⟩) nn nn)) hmx (by kernel_rfl) (fun ⟨_, _, h⟩ => h) d1 (fun hS => ?_)
        refine wpAnyH_take (i := 0) (v := .slice (some ⟨go, 0, none⟩) nn nn) rfl (by kernel_rfl) (by kernel_rfl) (by kernel_rfl) (fun _ _ _ h => h) (Or.inl ⟨by rfl, ?_⟩) hS ?_
        · intro Wx hSx
          clear d0 d1 d2 f2 hS e2
          go_simp
        try simp only [Act.put, List.setIfInBounds_toArray, List.set_cons_zero, List.set_cons_succ]
        refine wpAnyH_take (i := 1) (v := .int .i64 (j : Int)) rfl (by kernel_rfl) (by kernel_rfl) (by kernel_rfl) (fun _ _ _ h => h) (Or.inl ⟨by rfl, ?_⟩) hS ?_
        · intro Wx hSx
          clear d0 d1 d2 f2 hS e2
          go_simp
        try simp only [Act.put, List.setIfInBounds_toArray, List.set_cons_zero, List.set_cons_succ]
        refine wpAnyH_take (i := 2) (v := .slice (some ⟨go, 0, none⟩) nn nn) rfl (by kernel_rfl) (by kernel_rfl) (by kernel_rfl) (fun _ _ _ h => h) (Or.inl ⟨by rfl, ?_⟩) hS ?_
        · intro Wx hSx
          clear d0 d1 d2 f2 hS e2
          go_simp
        try simp only [Act.put, List.setIfInBounds_toArray, List.set_cons_zero, List.set_cons_succ]
        refine wpAnyH_take (i := 3) (v := .int .i64 (j : Int)) rfl (by kernel_rfl) (by kernel_rfl) (by kernel_rfl) (fun _ _ _ h => h) (Or.inl ⟨by rfl, ?_⟩) hS ?_
        · intro Wx hSx
          clear d0 d1 d2 f2 hS e2
          go_simp
        try simp only [Act.put, List.setIfInBounds_toArray, List.set_cons_zero, List.set_cons_succ]
        refine wpAnyH_take (i := 4) (v := .pointer (some ⟨go, j, none⟩)) rfl (by kernel_rfl) (by kernel_rfl) (by kernel_rfl) (fun _ _ _ h => h) (Or.inl ⟨by rfl, ?_⟩) hS ?_
        · intro Wx hSx
          clear d0 d1 d2 f2 hS e2
          go_simp
        try simp only [Act.put, List.setIfInBounds_toArray, List.set_cons_zero, List.set_cons_succ]
        refine wpAnyH_take (i := 6) (v := .int .i64 tv) rfl (by kernel_rfl) (by kernel_rfl) (by kernel_rfl) (fun _ _ _ h => h) (Or.inl ⟨by rfl, ?_⟩) hS ?_
        · intro Wx hSx
          clear d0 d1 d2 f2 hS e2
          go_simp
        try simp only [Act.put, List.setIfInBounds_toArray, List.set_cons_zero, List.set_cons_succ]
        refine wpAnyH_ready (rs := [5]) (by kernel_rfl) (by simp) ?_
        refine AllReadyH.cons rfl (fun K hK => ?_) AllReadyH.nil
        go_simp
        refine hK.out _ _ hS (fun hHeld => ?_)
        clear hK K
        try simp only [Act.put, List.setIfInBounds_toArray, List.set_cons_zero, List.set_cons_succ]
        refine wpAnyH_take (i := 7) (v := .int .i64 (max ov tv)) rfl (by kernel_rfl) (by kernel_rfl) (by kernel_rfl) (fun _ _ _ h => h) (Or.inl ⟨by rfl, ?_⟩) hS ?_
        · intro Wx hSx
          clear d0 d1 d2 f2 hS e2
          go_simp
          omega
        try simp only [Act.put, List.setIfInBounds_toArray, List.set_cons_zero, List.set_cons_succ]
        refine wpAnyH_take (i := 8) (v := .pointer (some ⟨go, j, none⟩)) rfl (by kernel_rfl) (by kernel_rfl) (by kernel_rfl) (fun _ _ _ h => h) (Or.inl ⟨by rfl, ?_⟩) hS ?_
        · intro Wx hSx
          clear d0 d1 d2 f2 hS e2
          go_simp
        try simp only [Act.put, List.setIfInBounds_toArray, List.set_cons_zero, List.set_cons_succ]
        refine wpAnyH_ready (rs := [9]) (by kernel_rfl) (by simp) ?_
        refine AllReadyH.cons rfl (fun K hK => ?_) AllReadyH.nil
        go_simp
        refine hK.out _ _ ?_ (fun hHeld => ?_)
        clear hK K
        try simp only [Act.put, List.setIfInBounds_toArray, List.set_cons_zero, List.set_cons_succ]
        · exact blk_cell (blk_drew (blk_far (HI.out.2.blk HL.out.2.2.2.1 (fun e => HN.out.2.2 e.symm)) (fun e => HN.out.2.2 e.symm) _)) 0
        have HI5 : Aside0 ((wr.setCell ⟨go, j, none⟩ (.int .i64 (max ov tv))).drew.heap[go]? = some (.cells (intsCs (mixL O T (j + 1))) 3 (0, 0)) ∧ Kp Wb (wr.setCell ⟨go, j, none⟩ (.int .i64 (max ov tv))).drew (fun i => i = go)) := by
          refine ⟨blk_drew ?_, (HI.out.2.trans (Kp.setCell _ _ _ _) (fun _ h => h) (fun _ _ h => h)).trans (Kp.drew _ (fun _ => False)) (fun _ h => h) (fun _ _ h => h.elim)⟩
          have := blk_set HI.out.1 j (.int .i64 (max ov tv))
          rw [this, HOV.out.1, HOV.out.2, ← mixL_set HL.out.1 HL.out.2.1 hgo]
          simp [intsCs, List.map_set]
        refine wpAnyH_done (by kernel_rfl) ?_ _
        clear d0 d1 d2 f2 hS e2 ef hHeld
        gi_wp2
        go_roundw
        case rel => exact ⟨j + 1, by go_num, by omega, HI5⟩
        case measure => simp [intOf]; omega
      · obtain rfl : j = nn := by omega
        clear hj hgo
        gi_wp2
        have hmx2 := HI.out.1
        rw [mixL_end HL.out.1 HL.out.2.1] at hmx2
        have hsn : (choicesL f (fineL st)).take (k' + 1) = (choicesL f (fineL st)).take k' ++ [x] := by
          rw [List.take_add_one, HD.out.2.2.2.1]; rfl
        have hkk : Kp Wa wr (fun i => i = go) := (Kp.of_below HL.out.2.2.2.2.1 (fun _ => False)).trans HI.out.2 (fun _ h => h.elim) (fun _ _ h => h)
        refine ⟨⟨?_, HD.out.2.1.trans hkk (fun _ h => h) (fun _ _ h => h), ?_⟩, hkk⟩
        · rw [hsn, worstOf_snoc, ← HOT.out.1, ← HOT.out.2]; exact hmx2
        · rw [hsn, worstOf_snoc, ← HOT.out.1, ← HOT.out.2]
          unfold maxL
          rw [List.length_zipWith, HL.out.1, HL.out.2.1]
          exact Nat.min_self _
end Go.Proofs.Ytgmglpnoppcnkaa
