/- Worst. -/
import Derived.Test.YtgmglpnoppcnkaaC5

namespace Go.Proofs.Ytgmglpnoppcnkaa
open Go.RowKit Go.Proofs.YtgmglpnoppcnkaaW.PrintWords Go.Proofs.YtgmglpnoppcnkaaW.PrintLast Go.Proofs.YtgmglpnoppcnkaaW.PrintMore
set_option linter.unusedVariables false
set_option linter.unusedSimpArgs false
set_option maxRecDepth 100000

/-- Bounds put together. -/
def zipS (a b : List Int) : List PB.S41 := List.zipWith (fun x y => (⟨x, y⟩ : PB.S41)) a b
theorem spans_loop (a b : List Int) (n : Nat) (ha : a.length = n) (hb : b.length = n) (hn : n ≤ 1000) : ∀ (d i : Nat), i + d = n → ∃ k, PB.spread_spans.l0 k a b ((zipS a b).take i) (n : Int) (i : Int) = some (zipS a b) := by
  have hz : (zipS a b).length = n := by simp [zipS, ha, hb]
  intro d
  induction d with
  | zero =>
    intro i hi
    refine ⟨1, ?_⟩
    rw [PB.spread_spans.l0, if_neg (by omega), List.take_of_length_le (by omega)]
  | succ d ih =>
    intro i hi
    obtain ⟨k, hk⟩ := ih (i + 1) (by omega)
    refine ⟨k + 1, ?_⟩
    have hia : i < a.length := by omega
    have hib : i < b.length := by omega
    have hiz : i < (zipS a b).length := by omega
    have e : wrap64 ((i : Int) + 1) = ((i + 1 : Nat) : Int) := by rw [wrap_succ (by omega) (by omega)]; omega
    have et : (zipS a b).take i ++ [(⟨rd a (i : Int), rd b (i : Int)⟩ : PB.S41)] = (zipS a b).take (i + 1) := by
      rw [List.take_add_one, List.getElem?_eq_getElem hiz]
      simp [zipS, rd, List.getElem?_eq_getElem hia, List.getElem?_eq_getElem hib]
    rw [PB.spread_spans.l0, if_pos (by omega), if_pos (by omega), if_pos (by omega), if_pos (by omega), if_pos (by rw [List.length_take]; omega), et, e]
    exact hk
theorem spans_eq (a b : List Int) (n : Nat) (ha : a.length = n) (hb : b.length = n) (hn : n ≤ 1000) : ∃ k, PB.spread_spans.f k a b = some (zipS a b) := by
  obtain ⟨k, hk⟩ := spans_loop a b n ha hb hn n 0 (by omega)
  refine ⟨k, ?_⟩
  unfold PB.spread_spans.f
  rw [ha]
  simpa using hk
theorem row_ints {w : World} {g : Nat} {o : List Int} (h : w.heap[g]? = some (.cells (intsCs o) 3 (0, 0))) (hn : o.length ≤ 1000) : IntsAt w (some ⟨g, 0, none⟩) o := by
  refine ⟨rfl, by omega, fun _ => ⟨_, rfl, fun j p hj => ⟨[.int .i64 p], rfl, rfl, fun i u hu => ?_⟩⟩⟩
  have hi0 : i = 0 := by
    have := (List.getElem?_eq_some_iff.1 hu).1
    simp at this; omega
  subst hi0
  have e2 : (Kd.int .i64).sz = 1 := rfl
  have hu' : Value.int .i64 p = u := by simpa using hu
  rw [e2, Nat.mul_one, Nat.add_zero, Addr.add_mid, Nat.zero_add, blk_cell h j]
  simp [intsCs, hj, ← hu']
/-- The lower bounds. -/
noncomputable def loL (nn : Nat) (ls : List Lk) (sn lo : Int) (s : List Bool) : List Int := leastL ls (ueLo s) sn lo nn
theorem first_list (wp B nn : Nat) (uu : Int) (sv0 : Value) (sn lo hi : Int) (ls : List Lk) (s : List Bool) (w : World) (hw : WebAt w B wp nn uu sv0 sn lo hi ls) (hs : s.length = 20) (hO : StOk nn uu ls sn lo hi) :
    Calls Try.prog 56 #[.pointer (some ⟨wp, 0, none⟩), .agg (setCs s).toArray] w (ListPost w nn (loL nn ls sn lo s)) :=
  (first_calls wp B nn uu sv0 sn lo hi ls s w hw hs hO).mono fun e w' ⟨g, o, he, hg, hb, hl, hB⟩ => by
    have := leastL_eq hl
    exact ⟨g, he, hg, by rw [loL, this]; exact hb, by rw [loL, this]; exact hl.len, hB⟩
/-- What Worst returns of a network and states without an error. -/
noncomputable def worstS (nn : Nat) (ls : List Lk) (sn lo hi : Int) (st : List Int) (f : Nat) : List PB.S41 := zipS (loL nn ls sn lo (goneB st)) (worstOf nn ls sn hi st (choicesL f (fineL st)))

set_option maxHeartbeats 4000000 in
theorem Worst_err (nn uu : Int) (A : Option Addr) (c : Nat) (ls : List Lk) (sn lo hi : Int) (A2 : Option Addr) (c2 : Nat) (st : List Int) (f : Int) (w : World)
    (hr : Kd.C PB.k88 w A ls.length ls) (hc : ls.length ≤ c) (hr2 : Kd.C (Kd.int .i64) w A2 st.length st) (hc2 : st.length ≤ c2) (h : validE nn uu ls sn lo hi st f ≠ 0) :
    Calls Try.prog 16 #[.agg #[.int .i64 nn, .int .i64 uu, .slice A ls.length c], .agg #[.int .i64 sn, .int .i64 lo, .int .i64 hi], .slice A2 st.length c2, .int .i64 f] w fun e w' => e = .returned (.tuple #[.slice none 0 0, .int .i64 (validE nn uu ls sn lo hi st f)]) ∧ Below w.heap.size w w' := by
  have HR := Aside0.mk (And.intro hr (And.intro hc (And.intro hr2 hc2)))
  have HV := Aside0.mk h
  have hd : (validE nn uu ls sn lo hi st f != 0) = true := by simpa using h
  clear hr hc hr2 hc2 h
  go_enter Try.func16, Try.ntmps16
  go_wp2_with ((with_reducible refine gate_dst (N := 4) rfl ?_); refine hold ?_)
  refine box_event rfl (N := 4) rfl (cs := #[.int .i64 nn, .int .i64 uu, .slice A ls.length c]) (t := 32) (by go_simp) ?_
  intro bn hbn w1 hb1 hB1
  have HB1 := Aside0.mk (And.intro hB1 hb1)
  clear hbn hB1 hb1
  go_wp2_with ((with_reducible refine gate_dst (N := 5) rfl ?_); refine hold ?_)
  refine box_event rfl (N := 5) rfl (cs := #[.int .i64 sn, .int .i64 lo, .int .i64 hi]) (t := 43) (by go_simp) ?_
  intro bs hbs w2 hb2 hB2
  have HB2 := Aside0.mk (below_step HB1.out.1 hB2)
  have hx1 := blk_below HB1.out.2 hB2
  have C0 : w2.cell? ⟨bn, 0, none⟩ = some (.int .i64 nn) := blk_cell hx1 0
  have C1 : w2.cell? ⟨bn, 1, none⟩ = some (.int .i64 uu) := blk_cell hx1 1
  have C2 : w2.cell? ⟨bn, 2, none⟩ = some (.slice A ls.length c) := blk_cell hx1 2
  have C3 : w2.cell? ⟨bs, 0, none⟩ = some (.int .i64 sn) := blk_cell hb2 0
  have C4 : w2.cell? ⟨bs, 1, none⟩ = some (.int .i64 lo) := blk_cell hb2 1
  have C5 : w2.cell? ⟨bs, 2, none⟩ = some (.int .i64 hi) := blk_cell hb2 2
  clear hx1 hb2 hB2 hbs
  go_wp2_with (first | (go_at_call 54; refine ((cared_err nn uu A c ls sn lo hi A2 c2 st f _ (Kd.C_below HR.out.1 HB2.out) HR.out.2.1 (Kd.C_below HR.out.2.2.1 HB2.out) HR.out.2.2.2 HV.out).mono ?_); rintro e w4 ⟨rfl, hb⟩; have HB4 := Aside0.mk (below_step HB2.out hb); clear hb C0 C1 C2 C3 C4 C5))
  go_ret2
  exact ⟨rfl, HB4.out⟩
theorem spans_list (a b : List Int) (n : Nat) (A0 A1 : Option Addr) (c0 c1 : Nat) (w : World) (ha : a.length = n) (hb : b.length = n) (hn : n ≤ 1000) (h0 : IntsAt w A0 a) (h1 : IntsAt w A1 b) (hc0 : n ≤ c0) (hc1 : n ≤ c1) :
    Calls Try.prog 55 #[.slice A0 n c0, .slice A1 n c1] w fun e w' => ∃ v, e = .returned v ∧ Kd.R PB.k41 41 w' w.heap.size (fun _ => True) v (zipS a b) ∧ Below w.heap.size w w' := by
  obtain ⟨k, hk⟩ := spans_eq a b n ha hb hn
  have := PB.spread_spans.calls k A0 c0 a A1 c1 b (zipS a b) w h0 (by omega) h1 (by omega) hk
  rw [ha, hb] at this
  exact this

set_option maxHeartbeats 4000000 in
theorem Worst_ok (n : Nat) (uu : Int) (A : Option Addr) (c : Nat) (ls : List Lk) (sn lo hi : Int) (A2 : Option Addr) (c2 : Nat) (st : List Int) (f : Nat) (w : World)
    (hr : Kd.C PB.k88 w A ls.length ls) (hc : ls.length ≤ c) (hr2 : Kd.C (Kd.int .i64) w A2 st.length st) (hc2 : st.length ≤ c2) (h : validE n uu ls sn lo hi st f = 0) :
    Calls Try.prog 16 #[.agg #[.int .i64 n, .int .i64 uu, .slice A ls.length c], .agg #[.int .i64 sn, .int .i64 lo, .int .i64 hi], .slice A2 st.length c2, .int .i64 f] w fun e w' => ∃ v, e = .returned (.tuple #[v, .int .i64 0]) ∧ Kd.R PB.k41 41 w' w.heap.size (fun _ => True) v (worstS n ls sn lo hi st f) ∧ Below w.heap.size w w' := by
  have HR := Aside0.mk (And.intro hr (And.intro hc (And.intro hr2 hc2)))
  have HV := Aside0.mk h
  obtain ⟨n', e, hO, hst, -, -, hf3⟩ := validE_ok h
  have : n = n' := by omega
  subst this
  have hst20 : st.length ≤ 20 := by have := hO.net.u2; omega
  have hn64 : n ≤ 64 := by have := hO.net.n2; omega
  have hf : f ≤ 100 := by omega
  have HO := Aside0.mk hO
  clear hr hc hr2 hc2 h e hO hst hf3
  go_enter Try.func16, Try.ntmps16
  go_wp2_with ((with_reducible refine gate_dst (N := 4) rfl ?_); refine hold ?_)
  refine box_event rfl (N := 4) rfl (cs := #[.int .i64 n, .int .i64 uu, .slice A ls.length c]) (t := 32) (by go_simp) ?_
  intro bn hbn w1 hb1 hB1
  have HB1 := Aside0.mk (And.intro hB1 hb1)
  clear hbn hB1 hb1
  go_wp2_with ((with_reducible refine gate_dst (N := 5) rfl ?_); refine hold ?_)
  refine box_event rfl (N := 5) rfl (cs := #[.int .i64 sn, .int .i64 lo, .int .i64 hi]) (t := 43) (by go_simp) ?_
  intro bs hbs w2 hb2 hB2
  have HB2 := Aside0.mk (below_step HB1.out.1 hB2)
  have hx1 := blk_below HB1.out.2 hB2
  have C0 : w2.cell? ⟨bn, 0, none⟩ = some (.int .i64 n) := blk_cell hx1 0
  have C1 : w2.cell? ⟨bn, 1, none⟩ = some (.int .i64 uu) := blk_cell hx1 1
  have C2 : w2.cell? ⟨bn, 2, none⟩ = some (.slice A ls.length c) := blk_cell hx1 2
  have C3 : w2.cell? ⟨bs, 0, none⟩ = some (.int .i64 sn) := blk_cell hb2 0
  have C4 : w2.cell? ⟨bs, 1, none⟩ = some (.int .i64 lo) := blk_cell hb2 1
  have C5 : w2.cell? ⟨bs, 2, none⟩ = some (.int .i64 hi) := blk_cell hb2 2
  clear hx1 hb2 hB2 hbs
  go_wp2_with (first | (go_at_call 54; refine ((cared_ok n uu A c ls sn lo hi A2 c2 st f _ (Kd.C_below HR.out.1 HB2.out) HR.out.2.1 (Kd.C_below HR.out.2.2.1 HB2.out) HR.out.2.2.2 HV.out).mono ?_); rintro e w4 ⟨cr, rfl, hb, hca⟩; have HB4 := Aside0.mk (below_step HB2.out hb); have HCA := Aside0.mk hca; clear hb hca C0 C1 C2 C3 C4 C5))
  have HCX : Aside0 (∀ W, Below w4.heap.size w4 W → CareAt W w2.heap.size cr n uu (.slice A ls.length c) sn lo hi ls st) := ⟨fun W h => HCA.out.below h⟩
  obtain ⟨wp, fv, h0, hcr, how, hweb⟩ := HCA.out
  have c0 : ∀ W, Below w4.heap.size w4 W → W.cell? ⟨cr, 0, none⟩ = some (.pointer (some ⟨wp, 0, none⟩)) := fun W h => blk_cell (blk_below hcr h) 0
  have HWX : Aside0 (∀ W, Below w4.heap.size w4 W → WebAt W w2.heap.size wp n uu (.slice A ls.length c) sn lo hi ls) := ⟨fun W h => hweb.below h⟩
  have HRS := Aside0.mk (care_range2 hcr (goneB_len st))
  have hu144 := Try.underlying144
  have hi144 : (Try.prog.info? 144).map (·.size) = some (setCs (goneB st)).length := by rw [setCs_length, goneB_len]; exact info144
  clear h0 hcr how hweb HCA
  go_region_held3 (fun W => Below w4.heap.size w4 W ∧ W.rangeAt cr 2 (setCs (goneB st))) (first | exact keepC0 (fun W h => range_below HRS.out h) | exact keepC (fun W h => range_below HRS.out h) (by assumption) (by assumption)) (first
    | (go_at_call 56; refine (first_list wp w2.heap.size n uu (.slice A ls.length c) sn lo hi ls (goneB st) _ (HWX.out _ (And.left (by assumption))) (goneB_len st) HO.out).mono ?_; rintro e wf ⟨g1, rfl, hg1, hgb1, hl1, hbf⟩; have HF := Aside0.mk (And.intro hgb1 (And.intro hl1 hbf)); clear hg1 hgb1 hl1)
    | (go_at_call 57; refine (worst_calls cr w2.heap.size n uu (.slice A ls.length c) sn lo hi ls st f _ (HCX.out _ (And.left (by assumption))) HO.out hst20 hf).mono ?_; rintro e ww ⟨g2, rfl, hg2, hgb2, hl2, hbw⟩; have HG := Aside0.mk (And.intro hgb2 (And.intro hl2 hbw)); clear hg2 hgb2 hl2)
    | (go_at_call 55; refine (spans_list (loL n ls sn lo (goneB st)) (worstOf n ls sn hi st (choicesL f (fineL st))) n (some ⟨g1, 0, none⟩) (some ⟨g2, 0, none⟩) n n _ HF.out.2.1 HG.out.2.1 (by omega) (row_ints (by first | exact blk_below HF.out.1 HG.out.2.2 | exact HF.out.1) (by have := HF.out.2.1; omega)) (row_ints (by first | exact blk_below HG.out.1 HF.out.2.2 | exact HG.out.1) (by have := HG.out.2.1; omega)) (Nat.le_refl _) (Nat.le_refl _)).mono ?_; rintro e w8 ⟨v, rfl, hv, hb8⟩; have HV8 := Aside0.mk hv; clear hv))
  all_goals
    rename_i hH
    have HBX := Aside0.mk (below_step HB4.out hH.1)
    clear hH hbf hbw hb8 c0 hu144 hi144
    go_wp2
    go_ret2
    exact ⟨_, rfl, Kd.R_lower HV8.out (Nat.le_trans HB4.out.size (by first | exact Nat.le_trans HF.out.2.2.size HG.out.2.2.size | exact Nat.le_trans HG.out.2.2.size HF.out.2.2.size)), HBX.out⟩
end Go.Proofs.Ytgmglpnoppcnkaa
