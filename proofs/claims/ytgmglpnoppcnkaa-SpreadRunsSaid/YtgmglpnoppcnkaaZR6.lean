/- Lemmas and contracts for the claim: part 6, brought together by program. -/
import Derived.Test.YtgmglpnoppcnkaaZR5
section
namespace Go.Proofs.Ytgmglpnoppcnkaa.PR
open Go.RowKit Go.Proofs.YtgmglpnoppcnkaaW.PrintWords Go.Proofs.YtgmglpnoppcnkaaW.PrintLast Go.Proofs.YtgmglpnoppcnkaaW.PrintMore
attribute [local go_sem] max2_int min2_int max_two min_two max_three min_three max_four min_four   -- for this text's walks alone
set_option linter.unusedVariables false
set_option linter.unusedSimpArgs false
mutual
def tidewallref08_Diagnose.j0 : Nat → List (S70) → Int → Int → Bool → Int → Int → List (S175) → Int → Int → Int → Option (List Int × List Int × Int)
  | 0, _, _, _, _, _, _, _, _, _, _ => none
  | k + 1, x2, x3, x11, x30, x148000, x148001, x148002, x149000, x149001, x149002 => if x30 = true then (tidewallref08_Diagnose.j1 k x2 x3 3 x148000 x148001 x148002 x149000 x149001 x149002) else (tidewallref08_Diagnose.j1 k x2 x3 x11 x148000 x148001 x148002 x149000 x149001 x149002)
def tidewallref08_Diagnose.j1 : Nat → List (S70) → Int → Int → Int → Int → List (S175) → Int → Int → Int → Option (List Int × List Int × Int)
  | 0, _, _, _, _, _, _, _, _, _ => none
  | k + 1, x2, x3, x11, x148000, x148001, x148002, x149000, x149001, x149002 => if x11 = 0 then ((tidewallref08_receipts.f k x148000 x148001 x148002 x2 x3).bind fun t151 => (tidewallref08_Diagnose.j2 k x2 x3 t151 x148000 x148001 x148002 x149000 x149001 x149002)) else (tidewallref08_Diagnose.j2 k x2 x3 x11 x148000 x148001 x148002 x149000 x149001 x149002)
def tidewallref08_Diagnose.j2 : Nat → List (S70) → Int → Int → Int → Int → List (S175) → Int → Int → Int → Option (List Int × List Int × Int)
  | 0, _, _, _, _, _, _, _, _, _ => none
  | k + 1, x2, x3, x11, x148000, x148001, x148002, x149000, x149001, x149002 => if x11 = 0 then ((tidewallref08_time.f k x2 x149000).bind fun t152 => (if t152 < 0 then (some (([] : List Int), ([] : List Int), 2)) else ((tidewallref08_within.f t152 x149001 x149002).bind fun t153 => (if t153 = true then (tidewallref08_Diagnose.l0 k x2 x3 ([] : List Int) 0 x148000 x148001 x148002 x149000 x149001 x149002) else (some (([] : List Int), ([] : List Int), 14)))))) else (some (([] : List Int), ([] : List Int), x11))
def tidewallref08_Diagnose.l0 : Nat → List (S70) → Int → List Int → Int → Int → Int → List (S175) → Int → Int → Int → Option (List Int × List Int × Int)
  | 0, _, _, _, _, _, _, _, _, _, _ => none
  | k + 1, x2, x3, x14, x15, x148000, x148001, x148002, x149000, x149001, x149002 => if x15 < (x148002.length : Int) then (if 0 ≤ x15 then ((tidewallref08_silent.f k ((rd_T175 x148002 x15).f0) ((rd_T175 x148002 x15).f1) ((rd_T175 x148002 x15).f2.f0) ((rd_T175 x148002 x15).f2.f1) ((rd_T175 x148002 x15).f3) ((rd_T175 x148002 x15).f4) x2 x3).bind fun t156 => (if t156 = true then (tidewallref08_Diagnose.j4 k x2 x3 x14 x15 (((rd_T175 x148002 x15).f1) == x149000) x148000 x148001 x148002 x149000 x149001 x149002 ((rd_T175 x148002 x15).f0) ((rd_T175 x148002 x15).f1) ((rd_T175 x148002 x15).f2.f0) ((rd_T175 x148002 x15).f2.f1) ((rd_T175 x148002 x15).f3) ((rd_T175 x148002 x15).f4)) else (tidewallref08_Diagnose.j4 k x2 x3 x14 x15 true x148000 x148001 x148002 x149000 x149001 x149002 ((rd_T175 x148002 x15).f0) ((rd_T175 x148002 x15).f1) ((rd_T175 x148002 x15).f2.f0) ((rd_T175 x148002 x15).f2.f1) ((rd_T175 x148002 x15).f3) ((rd_T175 x148002 x15).f4)))) else (none)) else (tidewallref08_Diagnose.l1 k x2 ([] : List Int) x14 0 x148000 x148001 x148002 x149000 x149001 x149002)
def tidewallref08_Diagnose.j4 : Nat → List (S70) → Int → List Int → Int → Bool → Int → Int → List (S175) → Int → Int → Int → Int → Int → Int → Int → Int → Bool → Option (List Int × List Int × Int)
  | 0, _, _, _, _, _, _, _, _, _, _, _, _, _, _, _, _, _ => none
  | k + 1, x2, x3, x14, x15, x78, x148000, x148001, x148002, x149000, x149001, x149002, x156000, x156001, x156002, x156003, x156004, x156005 => if x78 = true then (tidewallref08_Diagnose.l0 k x2 x3 x14 (wrap64 (x15 + 1)) x148000 x148001 x148002 x149000 x149001 x149002) else (if x156004 < 0 then (some (([] : List Int), ([] : List Int), 14)) else (if x14.length < 17592186044416 then (tidewallref08_Diagnose.l0 k x2 x3 (x14 ++ [x156004]) (wrap64 (x15 + 1)) x148000 x148001 x148002 x149000 x149001 x149002) else (none)))
def tidewallref08_Diagnose.l1 : Nat → List (S70) → List Int → List Int → Int → Int → Int → List (S175) → Int → Int → Int → Option (List Int × List Int × Int)
  | 0, _, _, _, _, _, _, _, _, _, _ => none
  | k + 1, x2, x13, x14, x17, x148000, x148001, x148002, x149000, x149001, x149002 => if x17 < (x2.length : Int) then (if 0 ≤ x17 then (if ((rd_T70 x2 x17).f0) = x149000 then (tidewallref08_Diagnose.l1 k x2 x13 x14 (wrap64 (x17 + 1)) x148000 x148001 x148002 x149000 x149001 x149002) else ((tidewallref08_brought.f k x148000 x148001 x148002 x2 ((rd_T70 x2 x17).f0) ((rd_T70 x2 x17).f1) x14).bind fun t168 => (if (t168.length : Int) = 0 then (some (([] : List Int), ([] : List Int), 14)) else (tidewallref08_Diagnose.l2 k x2 x13 x14 x17 t168 true 0 x148000 x148001 x148002 x149000 x149001 x149002)))) else (none)) else ((tidewallref08_ascending.f k x148000 x148001 x148002 x13).bind fun t160 => ((tidewallref08_ascending.f k x148000 x148001 x148002 x14).bind fun t163 => (some (t160, t163, 0))))
def tidewallref08_Diagnose.l2 : Nat → List (S70) → List Int → List Int → Int → List Int → Bool → Int → Int → Int → List (S175) → Int → Int → Int → Option (List Int × List Int × Int)
  | 0, _, _, _, _, _, _, _, _, _, _, _, _, _ => none
  | k + 1, x2, x13, x14, x17, x18, x19, x20, x148000, x148001, x148002, x149000, x149001, x149002 => if x20 < (x18.length : Int) then (if x19 = true then (if 0 ≤ x20 then (if 0 < (x18.length : Int) then (tidewallref08_Diagnose.l2 k x2 x13 x14 x17 x18 ((rd x18 x20) == (rd x18 0)) (wrap64 (x20 + 1)) x148000 x148001 x148002 x149000 x149001 x149002) else (none)) else (none)) else (tidewallref08_Diagnose.l2 k x2 x13 x14 x17 x18 false (wrap64 (x20 + 1)) x148000 x148001 x148002 x149000 x149001 x149002)) else (if x19 = true then (if 0 < (x18.length : Int) then (if (rd x18 0) ≥ 0 then (if x13.length < 17592186044416 then (tidewallref08_Diagnose.l1 k x2 (x13 ++ [rd x18 0]) x14 (wrap64 (x17 + 1)) x148000 x148001 x148002 x149000 x149001 x149002) else (none)) else (tidewallref08_Diagnose.l1 k x2 x13 x14 (wrap64 (x17 + 1)) x148000 x148001 x148002 x149000 x149001 x149002)) else (none)) else (tidewallref08_Diagnose.l1 k x2 x13 x14 (wrap64 (x17 + 1)) x148000 x148001 x148002 x149000 x149001 x149002))
end
def tidewallref08_Diagnose.f (k : Nat) (a0_0 : Int) (a0_1 : Int) (l0_2 : List (S175)) (a1_0 : Int) (a1_1 : Int) (a1_2 : Int) (l2 : List (S70)) (a3 : Int) : Option (List Int × List Int × Int) := (tidewallref08_start.f k a0_0 a0_1 l0_2 a1_0 a1_1 a1_2).bind fun t149 => (if t149 = 0 then ((tidewallref08_within.f a3 0 1000000000).bind fun t150 => (tidewallref08_Diagnose.j0 k l2 a3 t149 (!t150) a0_0 a0_1 l0_2 a1_0 a1_1 a1_2)) else (tidewallref08_Diagnose.j0 k l2 a3 t149 false a0_0 a0_1 l0_2 a1_0 a1_1 a1_2))
def tidewallref08_Diagnose.T25 : Bool × List (List Nat × List Nat) := (true, [([], []), ([], []), ([0, 1], [0, 1]), ([2], [2]), ([3], [3]), ([], []), ([5], [5]), ([4, 6], [4, 6])])
def tidewallref08_Diagnose.B25 : List Nat := [0, 0, 3, 7, 15, 0, 32, 127]
theorem tidewallref08_Diagnose.tab25 : rtab .any (opsOf Try.f25 25) = tidewallref08_Diagnose.T25 := by kernel_rfl
theorem tidewallref08_Diagnose.bits25 : waitsOk tidewallref08_Diagnose.T25.2 tidewallref08_Diagnose.B25 = true := by kernel_rfl
def tidewallref08_Diagnose.T26 : Bool × List (List Nat × List Nat) := (true, [([], []), ([], []), ([], []), ([], []), ([2, 3], [2, 3]), ([4], [4]), ([], []), ([0, 1, 5, 6], [0, 1, 5, 6]), ([7, 7, 0, 1, 2, 3, 4, 5, 6, 7], [7])])
def tidewallref08_Diagnose.B26 : List Nat := [0, 0, 0, 0, 12, 28, 0, 127, 255]
theorem tidewallref08_Diagnose.tab26 : rtab .any (opsOf Try.f25 26) = tidewallref08_Diagnose.T26 := by kernel_rfl
theorem tidewallref08_Diagnose.bits26 : waitsOk tidewallref08_Diagnose.T26.2 tidewallref08_Diagnose.B26 = true := by kernel_rfl
def tidewallref08_Diagnose.T33 : Bool × List (List Nat × List Nat) := (true, [([], []), ([0], [0]), ([1], [1]), ([1], [1]), ([2, 3, 1], [1, 2, 3]), ([4, 1], [1, 4]), ([1], [1]), ([6, 1], [1, 6]), ([7, 1], [1, 7]), ([5, 8, 1], [1, 5, 8]), ([1, 9], [1, 9]), ([10, 1, 0, 1, 2, 3, 4, 5, 6, 7, 8, 9, 10], [0, 10])])
def tidewallref08_Diagnose.B33 : List Nat := [0, 1, 3, 3, 15, 31, 3, 67, 195, 511, 1023, 2047]
theorem tidewallref08_Diagnose.tab33 : rtab .any (opsOf Try.f25 33) = tidewallref08_Diagnose.T33 := by kernel_rfl
theorem tidewallref08_Diagnose.bits33 : waitsOk tidewallref08_Diagnose.T33.2 tidewallref08_Diagnose.B33 = true := by kernel_rfl
def tidewallref08_Diagnose.T36 : Bool × List (List Nat × List Nat) := (true, [([], []), ([], []), ([0, 1], [0, 1]), ([], []), ([], []), ([3, 4, 2], [3, 4]), ([2, 5, 0, 1, 2], [2]), ([5, 6, 0, 1, 2, 3, 4, 5, 6], [5]), ([7, 0, 1, 2, 3, 4, 5, 6, 7], [])])
def tidewallref08_Diagnose.B36 : List Nat := [0, 0, 3, 0, 0, 31, 63, 127, 255]
theorem tidewallref08_Diagnose.tab36 : rtab .any (opsOf Try.f25 36) = tidewallref08_Diagnose.T36 := by kernel_rfl
theorem tidewallref08_Diagnose.bits36 : waitsOk tidewallref08_Diagnose.T36.2 tidewallref08_Diagnose.B36 = true := by kernel_rfl
set_option maxHeartbeats 8000000 in
set_option maxRecDepth 100000 in
theorem tidewallref08_Diagnose.calls (k : Nat) (a0_0 : Int) (a0_1 : Int) (A0_2 : Option Addr) (c0_2 : Nat) (l0_2 : List (S175)) (a1_0 : Int) (a1_1 : Int) (a1_2 : Int) (A2 : Option Addr) (c2 : Nat) (l2 : List (S70)) (a3 : Int) (r1 : List Int) (r2 : List Int) (r3 : Int) (w : World) (hr0_2 : Kd.C k175 w A0_2 l0_2.length l0_2) (hc0_2 : l0_2.length ≤ c0_2) (hr2 : Kd.C k70 w A2 l2.length l2) (hc2 : l2.length ≤ c2) (h : tidewallref08_Diagnose.f k a0_0 a0_1 l0_2 a1_0 a1_1 a1_2 l2 a3 = some (r1, r2, r3)) :
    Calls Try.prog 25 #[.agg #[.int .i64 a0_0, .int .i64 a0_1, .slice A0_2 l0_2.length c0_2], .agg #[.int .i64 a1_0, .int .i64 a1_1, .int .i64 a1_2], .slice A2 l2.length c2, .int .i64 a3] w fun e w' => ∃ v0_ v1_ : Value, e = .returned (.tuple #[v0_, v1_, .int .i64 r3]) ∧ Kd.R (Kd.int .i64) 3 w' w.heap.size (fun k_ => some k_ ≠ (v1_ : Value).ownBlock) v0_ r1 ∧ Kd.R (Kd.int .i64) 3 w' w.heap.size (fun k_ => some k_ ≠ (v0_ : Value).ownBlock) v1_ r2 ∧ Below w.heap.size w w' := by
  have hu77 := Try.underlying77
  have hu79 := Try.underlying79
  have hu175 := Try.underlying175
  have hu70 := Try.underlying70
  have HR0_2 := Aside0.mk hr0_2
  have HC0_2 := Aside0.mk hc0_2
  clear hr0_2 hc0_2
  have HR2 := Aside0.mk hr2
  have HC2 := Aside0.mk hc2
  clear hr2 hc2
  have HB := Aside0.mk (Below.refl w.heap.size w)
  have H : ((tidewallref08_start.f k a0_0 a0_1 l0_2 a1_0 a1_1 a1_2).bind fun t149 => (if t149 = 0 then ((tidewallref08_within.f a3 0 1000000000).bind fun t150 => (tidewallref08_Diagnose.j0 k l2 a3 t149 (!t150) a0_0 a0_1 l0_2 a1_0 a1_1 a1_2)) else (tidewallref08_Diagnose.j0 k l2 a3 t149 false a0_0 a0_1 l0_2 a1_0 a1_1 a1_2))) = some (r1, r2, r3) := h
  clear h
  replace H := Option.bind_eq_some_iff.mp H
  obtain ⟨t149, A50, H⟩ := H
  replace H : (if t149 = 0 then ((tidewallref08_within.f a3 0 1000000000).bind fun t150 => (tidewallref08_Diagnose.j0 k l2 a3 t149 (!t150) a0_0 a0_1 l0_2 a1_0 a1_1 a1_2)) else (tidewallref08_Diagnose.j0 k l2 a3 t149 false a0_0 a0_1 l0_2 a1_0 a1_1 a1_2)) = some (r1, r2, r3) := H
  have A5 := Aside0.mk A50
  clear A50
  have HC6 := Aside0.mk H
  clear H
  go_enter Try.func25, Try.ntmps25
  go_upto_region 2 with (first | ((with_reducible refine gate_dst (N := 4) rfl ?_); refine box_event ?hg (N := 4) ?hd (cs := #[.int .i64 a0_0, .int .i64 a0_1, .slice A0_2 l0_2.length c0_2]) (t := 77) ?hr ?_; (case hd => rfl); (case hg => rfl); (case hr => first | (go_simp; done) | (go_simp; rfl)); intro gb147 hg w7 hbox hb; have n0_ := Aside0.mk (below_step (by repeat (first | (with_reducible first | exact HB.out | apply below_alloc | apply pw_below_drewN | apply below_drew1) | exact HB.out)) hb); have n1_ := Aside0.mk (hbox); have n2_ := Aside0.mk ((by rw [hg]; exact (below_size (by repeat (first | (with_reducible first | exact HB.out | apply below_alloc | apply pw_below_drewN | apply below_drew1) | exact HB.out))) : w.heap.size ≤ gb147)); have n3_ := Aside0.mk ((by rw [hg]; exact (below_size (by repeat (first | (with_reducible first | exact HB.out | apply below_alloc | apply pw_below_drewN | apply below_drew1) | exact HB.out))) : w.heap.size ≤ gb147)); clear HB; have HB := n0_; have BK147 := n1_; have GW147 := n2_; have GE147 := n3_; clear n0_ n1_ n2_ n3_; clear hb hbox hg) | ((with_reducible refine gate_dst (N := 5) rfl ?_); refine box_event ?hg (N := 5) ?hd (cs := #[.int .i64 a1_0, .int .i64 a1_1, .int .i64 a1_2]) (t := 79) ?hr ?_; (case hd => rfl); (case hg => rfl); (case hr => first | (go_simp; done) | (go_simp; rfl)); intro gb148 hg w8 hbox hb; have n0_ := Aside0.mk (blk_below (g := gb147) (o := .cells #[.int .i64 a0_0, .int .i64 a0_1, .slice A0_2 l0_2.length c0_2] 77 (0, 0)) (by (with_reducible repeat (first | refine blk_drewN ?_ _ | refine blk_drew ?_ | refine blk_alloc ?_ _)); exact BK147.out) hb); have n1_ := Aside0.mk (below_step (by repeat (first | (with_reducible first | exact HB.out | apply below_alloc | apply pw_below_drewN | apply below_drew1 | refine below_set ?_ GE147.out) | exact HB.out)) hb); have n2_ := Aside0.mk (hbox); have n3_ := Aside0.mk ((by rw [hg]; exact (below_size (by repeat (first | (with_reducible first | exact HB.out | apply below_alloc | apply pw_below_drewN | apply below_drew1 | refine below_set ?_ GE147.out) | exact HB.out))) : w.heap.size ≤ gb148)); have n4_ := Aside0.mk ((by rw [hg]; exact (below_size (by repeat (first | (with_reducible first | exact HB.out | apply below_alloc | apply pw_below_drewN | apply below_drew1 | refine below_set ?_ GE147.out) | exact HB.out))) : w.heap.size ≤ gb148)); have n5_ := Aside0.mk ((by rw [hg]; exact Nat.ne_of_lt (blk_lt (g := gb147) (o := .cells #[.int .i64 a0_0, .int .i64 a0_1, .slice A0_2 l0_2.length c0_2] 77 (0, 0)) (by (with_reducible repeat (first | refine blk_drewN ?_ _ | refine blk_drew ?_ | refine blk_alloc ?_ _)); exact BK147.out)) : gb147 ≠ gb148)); have n6_ := Aside0.mk ((by rw [hg]; exact Nat.ne_of_gt (blk_lt (g := gb147) (o := .cells #[.int .i64 a0_0, .int .i64 a0_1, .slice A0_2 l0_2.length c0_2] 77 (0, 0)) (by (with_reducible repeat (first | refine blk_drewN ?_ _ | refine blk_drew ?_ | refine blk_alloc ?_ _)); exact BK147.out)) : gb148 ≠ gb147)); clear BK147; clear HB; have BK147 := n0_; have HB := n1_; have BK148 := n2_; have GW148 := n3_; have GE148 := n4_; have NB147_148 := n5_; have NB148_147 := n6_; clear n0_ n1_ n2_ n3_ n4_ n5_ n6_; clear hb hbox hg; have hnb9 := NB147_148.out; have hnc9 := NB148_147.out; have hcz10_0 : w8.cell? ⟨gb147, 0, none⟩ = some (.int .i64 a0_0) := (blk_cell BK147.out 0).trans rfl; have hcz10_1 : w8.cell? ⟨gb147, 1, none⟩ = some (.int .i64 a0_1) := (blk_cell BK147.out 1).trans rfl; have hcz10_2 : w8.cell? ⟨gb147, 2, none⟩ = some (.slice A0_2 l0_2.length c0_2) := (blk_cell BK147.out 2).trans rfl; have hfz10_0 := blk_frozen BK147.out 0; have hfz10_1 := blk_frozen BK147.out 1; have hfz10_2 := blk_frozen BK147.out 2; have hcz11_0 : w8.cell? ⟨gb148, 0, none⟩ = some (.int .i64 a1_0) := (blk_cell BK148.out 0).trans rfl; have hcz11_1 : w8.cell? ⟨gb148, 1, none⟩ = some (.int .i64 a1_1) := (blk_cell BK148.out 1).trans rfl; have hcz11_2 : w8.cell? ⟨gb148, 2, none⟩ = some (.int .i64 a1_2) := (blk_cell BK148.out 2).trans rfl; have hfz11_0 := blk_frozen BK148.out 0; have hfz11_1 := blk_frozen BK148.out 1; have hfz11_2 := blk_frozen BK148.out 2) | ((with_reducible refine gate_callee (f := 80) rfl ?_); refine goesL_ (some 23) rfl rfl Try.func80 (by kernel_rfl) rfl #[.agg #[.int .i64 a0_0, .int .i64 a0_1, .slice A0_2 l0_2.length c0_2], .agg #[.int .i64 a1_0, .int .i64 a1_1, .int .i64 a1_2]] rfl (by (try simp only [List.map_toArray, List.map_cons, List.map_nil]); first | done | rfl | (simp only [List.length_drop, List.length_take]; rfl)) ?_; (with_reducible refine (tidewallref08_start.calls k a0_0 a0_1 _ _ l0_2 a1_0 a1_1 a1_2 t149 _ ?side1 ?side2 A5.out).mono ?_); (case side1 => repeat (first | exact (Kd.C_below HR0_2.out HB.out) | (with_reducible refine Kd.C_alloc ?_ _) | (with_reducible refine Kd.C_drewN ?_ _) | (with_reducible refine Kd.C_drew ?_))); (case side2 => exact HC0_2.out); rintro e w12 ⟨rfl, hb⟩; refine ⟨_, rfl, ?_⟩; have n0_ := Aside0.mk (blk_below (g := gb147) (o := .cells #[.int .i64 a0_0, .int .i64 a0_1, .slice A0_2 l0_2.length c0_2] 77 (0, 0)) (by (with_reducible repeat (first | refine blk_drewN ?_ _ | refine blk_drew ?_ | refine blk_alloc ?_ _)); exact BK147.out) hb); have n1_ := Aside0.mk (blk_below (g := gb148) (o := .cells #[.int .i64 a1_0, .int .i64 a1_1, .int .i64 a1_2] 79 (0, 0)) (by (with_reducible repeat (first | refine blk_drewN ?_ _ | refine blk_drew ?_ | refine blk_alloc ?_ _)); exact BK148.out) hb); have n2_ := Aside0.mk (below_step (by repeat (first | (with_reducible first | exact HB.out | apply below_alloc | apply pw_below_drewN | apply below_drew1 | refine below_set ?_ GE147.out | refine below_set ?_ GE148.out) | exact HB.out)) hb); clear BK147; clear BK148; clear HB; have BK147 := n0_; have BK148 := n1_; have HB := n2_; clear n0_ n1_ n2_; (try clear hb); (try clear hb2); (try clear hk); (try clear hi)))
  (try simp only [Act.put, List.setIfInBounds_toArray, List.set_cons_zero, List.set_cons_succ])
  go_cut [30] (fun v30 wc => ∃ (kq : Nat) (x30_5 : Bool), v30 = .bool x30_5 ∧ Aside0 (tidewallref08_Diagnose.j0 kq l2 a3 t149 x30_5 a0_0 a0_1 l0_2 a1_0 a1_1 a1_2 = some (r1, r2, r3)) ∧ Aside0 (kq ≤ k) ∧ Aside0 (wc.heap[gb147]? = some (.cells #[.int .i64 a0_0, .int .i64 a0_1, (.slice A0_2 l0_2.length c0_2)] 77 (0, 0))) ∧ Aside0 (wc.heap[gb148]? = some (.cells #[.int .i64 a1_0, .int .i64 a1_1, .int .i64 a1_2] 79 (0, 0))) ∧ Aside0 (Below w.heap.size w wc))
  case first =>
    have H := HC6.out
    clear HC6
    by_cases c13 : t149 = 0
    · rw [if_pos c13] at H
      have c13b0 : (t149 == 0) = true := beq_iff_eq.mpr c13
      have c13b1 : (t149 != 0) = false := bne_eq_false_iff_eq.mpr c13
      clear c13
      (first | rw [c13b0] | (simp only [i64_w, i32_w]; rw [c13b0]) | skip)
      replace H := Option.bind_eq_some_iff.mp H
      obtain ⟨t150, A140, H⟩ := H
      replace H : (tidewallref08_Diagnose.j0 k l2 a3 t149 (!t150) a0_0 a0_1 l0_2 a1_0 a1_1 a1_2) = some (r1, r2, r3) := H
      have A14 := Aside0.mk A140
      clear A140
      have H' := Aside0.mk H
      clear H
      go_wp2_with (first | (go_at_call 81; (with_reducible refine (tidewallref08_within.calls a3 0 1000000000 t150 _ A14.out).mono ?_); rintro e w' ⟨rfl, ⟨nd, rfl⟩⟩))
      go_meet
      case rel => exact ⟨_, (!t150), (by first | rfl | (simp; done) | (simp [*]; done)), H', ⟨by first | omega | exact Nat.le_refl _⟩, ⟨by (with_reducible repeat (first | refine blk_drewN ?_ _ | refine blk_drew ?_ | refine blk_alloc ?_ _)); exact BK147.out⟩, ⟨by (with_reducible repeat (first | refine blk_drewN ?_ _ | refine blk_drew ?_ | refine blk_alloc ?_ _)); exact BK148.out⟩, ⟨by repeat (first | (with_reducible first | exact HB.out | apply below_alloc | apply pw_below_drewN | apply below_drew1 | refine below_set ?_ GE147.out | refine below_set ?_ GE148.out) | exact HB.out)⟩⟩
    · rw [if_neg c13] at H
      have c13b0 : (t149 == 0) = false := beq_eq_false_iff_ne.mpr c13
      have c13b1 : (t149 != 0) = true := bne_iff_ne.mpr c13
      (first | rw [c13b0] | (simp only [i64_w, i32_w]; rw [c13b0]) | skip)
      have H' := Aside0.mk H
      clear H
      go_wp2
      go_meet
      case rel => exact ⟨_, (false), (by first | rfl | (simp; done) | (simp [*]; done)), H', ⟨by first | omega | exact Nat.le_refl _⟩, ⟨by (with_reducible repeat (first | refine blk_drewN ?_ _ | refine blk_drew ?_ | refine blk_alloc ?_ _)); exact BK147.out⟩, ⟨by (with_reducible repeat (first | refine blk_drewN ?_ _ | refine blk_drew ?_ | refine blk_alloc ?_ _)); exact BK148.out⟩, ⟨by repeat (first | (with_reducible first | exact HB.out | apply below_alloc | apply pw_below_drewN | apply below_drew1 | refine below_set ?_ GE147.out | refine below_set ?_ GE148.out) | exact HB.out)⟩⟩
  case rest =>
    clear HC6
    try clear c1
    try clear c2
    try clear p2
    try clear c8
    try clear c9
    try clear c13
    try clear c13b0
    try clear c13b1
    try clear hcz10_0
    try clear hcz10_1
    try clear hcz10_2
    try clear hcz11_0
    try clear hcz11_1
    try clear hcz11_2
    try clear hfz10_0
    try clear hfz10_1
    try clear hfz10_2
    try clear hfz11_0
    try clear hfz11_1
    try clear hfz11_2
    obtain ⟨kq, x30_5, rfl, HA, HJ5, BK147, BK148, HB⟩ := hcut
    cases kq with
    | zero => exact absurd HA.out (by simp [tidewallref08_Diagnose.j0])
    | succ kj5 =>
      have H := HA.out
      clear HA
      simp only [tidewallref08_Diagnose.j0] at H
      have HC15 := Aside0.mk H
      clear H
      go_upto_if 30 with (fail)
      go_cut [11] (fun v11 wc => ∃ (kq : Nat) (x11_14 : Int), v11 = .int .i64 x11_14 ∧ Aside0 (tidewallref08_Diagnose.j1 kq l2 a3 x11_14 a0_0 a0_1 l0_2 a1_0 a1_1 a1_2 = some (r1, r2, r3)) ∧ Aside0 (kq ≤ kj5) ∧ Aside0 (wc.heap[gb147]? = some (.cells #[.int .i64 a0_0, .int .i64 a0_1, (.slice A0_2 l0_2.length c0_2)] 77 (0, 0))) ∧ Aside0 (wc.heap[gb148]? = some (.cells #[.int .i64 a1_0, .int .i64 a1_1, .int .i64 a1_2] 79 (0, 0))) ∧ Aside0 (Below w.heap.size w wc))
      case first =>
        have H := HC15.out
        clear HC15
        by_cases c16 : x30_5 = true
        · subst c16
          have H1 : (tidewallref08_Diagnose.j1 kj5 l2 a3 3 a0_0 a0_1 l0_2 a1_0 a1_1 a1_2) = some (r1, r2, r3) := by rw [if_pos rfl] at H; exact H
          clear H
          have H := H1
          clear H1
          have H' := Aside0.mk H
          clear H
          go_wp2
          go_meet
          case rel => exact ⟨_, (3), (by first | rfl | (simp; done) | (simp [*]; done)), H', ⟨by have := HJ5.out; first | omega | exact Nat.le_refl _⟩, ⟨by (with_reducible repeat (first | refine blk_drewN ?_ _ | refine blk_drew ?_ | refine blk_alloc ?_ _)); exact BK147.out⟩, ⟨by (with_reducible repeat (first | refine blk_drewN ?_ _ | refine blk_drew ?_ | refine blk_alloc ?_ _)); exact BK148.out⟩, ⟨by repeat (first | (with_reducible first | exact HB.out | apply below_alloc | apply pw_below_drewN | apply below_drew1 | refine below_set ?_ GE147.out | refine below_set ?_ GE148.out) | exact HB.out)⟩⟩
        · replace c16 := Bool.eq_false_iff.mpr c16
          subst c16
          have H1 : (tidewallref08_Diagnose.j1 kj5 l2 a3 t149 a0_0 a0_1 l0_2 a1_0 a1_1 a1_2) = some (r1, r2, r3) := by rw [if_neg (show ¬ (false = true) by decide)] at H; exact H
          clear H
          have H := H1
          clear H1
          have H' := Aside0.mk H
          clear H
          go_wp2
          go_meet
          case rel => exact ⟨_, (t149), (by first | rfl | (simp; done) | (simp [*]; done)), H', ⟨by have := HJ5.out; first | omega | exact Nat.le_refl _⟩, ⟨by (with_reducible repeat (first | refine blk_drewN ?_ _ | refine blk_drew ?_ | refine blk_alloc ?_ _)); exact BK147.out⟩, ⟨by (with_reducible repeat (first | refine blk_drewN ?_ _ | refine blk_drew ?_ | refine blk_alloc ?_ _)); exact BK148.out⟩, ⟨by repeat (first | (with_reducible first | exact HB.out | apply below_alloc | apply pw_below_drewN | apply below_drew1 | refine below_set ?_ GE147.out | refine below_set ?_ GE148.out) | exact HB.out)⟩⟩
      case rest =>
        clear HC15
        try clear c1
        try clear c2
        try clear p2
        try clear c8
        try clear c9
        try clear c13
        try clear c13b0
        try clear c13b1
        try clear c16
        try clear hcz10_0
        try clear hcz10_1
        try clear hcz10_2
        try clear hcz11_0
        try clear hcz11_1
        try clear hcz11_2
        try clear hfz10_0
        try clear hfz10_1
        try clear hfz10_2
        try clear hfz11_0
        try clear hfz11_1
        try clear hfz11_2
        try clear p2
        obtain ⟨kq, x11_14, rfl, HA, HJ14, BK147, BK148, HB⟩ := hcut
        cases kq with
        | zero => exact absurd HA.out (by simp [tidewallref08_Diagnose.j1])
        | succ kj14 =>
          have H := HA.out
          clear HA
          simp only [tidewallref08_Diagnose.j1] at H
          have HC17 := Aside0.mk H
          clear H
          go_upto_if 32 with (fail)
          go_cut [11] (fun v11 wc => ∃ (kq : Nat) (x11_16 : Int), v11 = .int .i64 x11_16 ∧ Aside0 (tidewallref08_Diagnose.j2 kq l2 a3 x11_16 a0_0 a0_1 l0_2 a1_0 a1_1 a1_2 = some (r1, r2, r3)) ∧ Aside0 (kq ≤ kj14) ∧ Aside0 (wc.heap[gb147]? = some (.cells #[.int .i64 a0_0, .int .i64 a0_1, (.slice A0_2 l0_2.length c0_2)] 77 (0, 0))) ∧ Aside0 (wc.heap[gb148]? = some (.cells #[.int .i64 a1_0, .int .i64 a1_1, .int .i64 a1_2] 79 (0, 0))) ∧ Aside0 (Below w.heap.size w wc))
          case first =>
            have H := HC17.out
            clear HC17
            by_cases c18 : x11_14 = 0
            · rw [if_pos c18] at H
              have c18b0 : (x11_14 == 0) = true := beq_iff_eq.mpr c18
              have c18b1 : (x11_14 != 0) = false := bne_eq_false_iff_eq.mpr c18
              clear c18
              (first | rw [c18b0] | (simp only [i64_w, i32_w]; rw [c18b0]) | skip)
              replace H := Option.bind_eq_some_iff.mp H
              obtain ⟨t151, A190, H⟩ := H
              replace H : (tidewallref08_Diagnose.j2 kj14 l2 a3 t151 a0_0 a0_1 l0_2 a1_0 a1_1 a1_2) = some (r1, r2, r3) := H
              have A19 := Aside0.mk A190
              clear A190
              have H' := Aside0.mk H
              clear H
              have hnb20 := NB147_148.out
              have hnc20 := NB148_147.out
              have hcz21_0 : wc.cell? ⟨gb147, 0, none⟩ = some (.int .i64 a0_0) := (blk_cell BK147.out 0).trans rfl
              have hcz21_1 : wc.cell? ⟨gb147, 1, none⟩ = some (.int .i64 a0_1) := (blk_cell BK147.out 1).trans rfl
              have hcz21_2 : wc.cell? ⟨gb147, 2, none⟩ = some (.slice A0_2 l0_2.length c0_2) := (blk_cell BK147.out 2).trans rfl
              have hfz21_0 := blk_frozen BK147.out 0
              have hfz21_1 := blk_frozen BK147.out 1
              have hfz21_2 := blk_frozen BK147.out 2
              go_wp2_with (first | ((with_reducible refine gate_callee (f := 82) rfl ?_); refine goesL_ (some 36) rfl rfl Try.func82 (by kernel_rfl) rfl #[.agg #[.int .i64 a0_0, .int .i64 a0_1, .slice A0_2 l0_2.length c0_2], .slice A2 l2.length c2, .int .i64 a3] rfl (by (try simp only [List.map_toArray, List.map_cons, List.map_nil]); first | done | rfl | (simp only [List.length_drop, List.length_take]; rfl)) ?_; (with_reducible refine (tidewallref08_receipts.calls kj14 a0_0 a0_1 _ _ l0_2 _ _ l2 a3 t151 _ ?side1 ?side2 ?side3 ?side4 A19.out).mono ?_); (case side1 => repeat (first | exact (Kd.C_below HR0_2.out HB.out) | (with_reducible refine Kd.C_alloc ?_ _) | (with_reducible refine Kd.C_drewN ?_ _) | (with_reducible refine Kd.C_drew ?_))); (case side2 => exact HC0_2.out); (case side3 => repeat (first | exact (Kd.C_below HR2.out HB.out) | (with_reducible refine Kd.C_alloc ?_ _) | (with_reducible refine Kd.C_drewN ?_ _) | (with_reducible refine Kd.C_drew ?_))); (case side4 => exact HC2.out); rintro e w22 ⟨rfl, hb⟩; refine ⟨_, rfl, ?_⟩; have n0_ := Aside0.mk (blk_below (g := gb147) (o := .cells #[.int .i64 a0_0, .int .i64 a0_1, .slice A0_2 l0_2.length c0_2] 77 (0, 0)) (by (with_reducible repeat (first | refine blk_drewN ?_ _ | refine blk_drew ?_ | refine blk_alloc ?_ _)); exact BK147.out) hb); have n1_ := Aside0.mk (blk_below (g := gb148) (o := .cells #[.int .i64 a1_0, .int .i64 a1_1, .int .i64 a1_2] 79 (0, 0)) (by (with_reducible repeat (first | refine blk_drewN ?_ _ | refine blk_drew ?_ | refine blk_alloc ?_ _)); exact BK148.out) hb); have n2_ := Aside0.mk (below_step (by repeat (first | (with_reducible first | exact HB.out | apply below_alloc | apply pw_below_drewN | apply below_drew1 | refine below_set ?_ GE147.out | refine below_set ?_ GE148.out) | exact HB.out)) hb); clear BK147; clear BK148; clear HB; have BK147 := n0_; have BK148 := n1_; have HB := n2_; clear n0_ n1_ n2_; (try clear hb); (try clear hb2); (try clear hk); (try clear hi)))
              go_meet
              case rel => exact ⟨_, (t151), (by first | rfl | (simp; done) | (simp [*]; done)), H', ⟨by have := HJ5.out; have := HJ14.out; first | omega | exact Nat.le_refl _⟩, ⟨by (with_reducible repeat (first | refine blk_drewN ?_ _ | refine blk_drew ?_ | refine blk_alloc ?_ _)); exact BK147.out⟩, ⟨by (with_reducible repeat (first | refine blk_drewN ?_ _ | refine blk_drew ?_ | refine blk_alloc ?_ _)); exact BK148.out⟩, ⟨by repeat (first | (with_reducible first | exact HB.out | apply below_alloc | apply pw_below_drewN | apply below_drew1 | refine below_set ?_ GE147.out | refine below_set ?_ GE148.out) | exact HB.out)⟩⟩
            · rw [if_neg c18] at H
              have c18b0 : (x11_14 == 0) = false := beq_eq_false_iff_ne.mpr c18
              have c18b1 : (x11_14 != 0) = true := bne_iff_ne.mpr c18
              (first | rw [c18b0] | (simp only [i64_w, i32_w]; rw [c18b0]) | skip)
              have H' := Aside0.mk H
              clear H
              go_wp2
              go_meet
              case rel => exact ⟨_, (x11_14), (by first | rfl | (simp; done) | (simp [*]; done)), H', ⟨by have := HJ5.out; have := HJ14.out; first | omega | exact Nat.le_refl _⟩, ⟨by (with_reducible repeat (first | refine blk_drewN ?_ _ | refine blk_drew ?_ | refine blk_alloc ?_ _)); exact BK147.out⟩, ⟨by (with_reducible repeat (first | refine blk_drewN ?_ _ | refine blk_drew ?_ | refine blk_alloc ?_ _)); exact BK148.out⟩, ⟨by repeat (first | (with_reducible first | exact HB.out | apply below_alloc | apply pw_below_drewN | apply below_drew1 | refine below_set ?_ GE147.out | refine below_set ?_ GE148.out) | exact HB.out)⟩⟩
          case rest =>
            clear HC17
            try clear c1
            try clear c2
            try clear p2
            try clear c8
            try clear c9
            try clear c13
            try clear c13b0
            try clear c13b1
            try clear c16
            try clear c18
            try clear c18b0
            try clear c18b1
            try clear c20
            try clear hcz10_0
            try clear hcz10_1
            try clear hcz10_2
            try clear hcz11_0
            try clear hcz11_1
            try clear hcz11_2
            try clear hcz21_0
            try clear hcz21_1
            try clear hcz21_2
            try clear hfz10_0
            try clear hfz10_1
            try clear hfz10_2
            try clear hfz11_0
            try clear hfz11_1
            try clear hfz11_2
            try clear hfz21_0
            try clear hfz21_1
            try clear hfz21_2
            try clear p2
            obtain ⟨kq, x11_16, rfl, HA, HJ16, BK147, BK148, HB⟩ := hcut
            cases kq with
            | zero => exact absurd HA.out (by simp [tidewallref08_Diagnose.j2])
            | succ kj16 =>
              have H := HA.out
              clear HA
              simp only [tidewallref08_Diagnose.j2] at H
              by_cases c23 : x11_16 = 0
              · rw [if_pos c23] at H
                have c23b0 : (x11_16 == 0) = true := beq_iff_eq.mpr c23
                have c23b1 : (x11_16 != 0) = false := bne_eq_false_iff_eq.mpr c23
                clear c23
                replace H := Option.bind_eq_some_iff.mp H
                obtain ⟨t152, A240, H⟩ := H
                replace H : (if t152 < 0 then (some (([] : List Int), ([] : List Int), 2)) else ((tidewallref08_within.f t152 a1_1 a1_2).bind fun t153 => (if t153 = true then (tidewallref08_Diagnose.l0 kj16 l2 a3 ([] : List Int) 0 a0_0 a0_1 l0_2 a1_0 a1_1 a1_2) else (some (([] : List Int), ([] : List Int), 14))))) = some (r1, r2, r3) := H
                have A24 := Aside0.mk A240
                clear A240
                by_cases c25 : t152 < 0
                · rw [if_pos c25] at H
                  have c25b0 : decide (t152 < 0) = true := decide_eq_true c25
                  clear c25
                  simp only [Option.some.injEq, Prod.mk.injEq] at H
                  obtain ⟨rfl, rfl, rfl⟩ := H
                  have hnb26 := NB148_147.out
                  have hnc26 := NB147_148.out
                  have hcz27_0 : wc.cell? ⟨gb148, 0, none⟩ = some (.int .i64 a1_0) := (blk_cell BK148.out 0).trans rfl
                  have hcz27_1 : wc.cell? ⟨gb148, 1, none⟩ = some (.int .i64 a1_1) := (blk_cell BK148.out 1).trans rfl
                  have hcz27_2 : wc.cell? ⟨gb148, 2, none⟩ = some (.int .i64 a1_2) := (blk_cell BK148.out 2).trans rfl
                  have hfz27_0 := blk_frozen BK148.out 0
                  have hfz27_1 := blk_frozen BK148.out 1
                  have hfz27_2 := blk_frozen BK148.out 2
                  go_wp2_with (first | ((with_reducible refine gate_callee (f := 83) rfl ?_); refine goesL_ (some 43) rfl rfl Try.func83 (by kernel_rfl) rfl #[.slice A2 l2.length c2, .int .i64 a1_0] rfl (by (try simp only [List.map_toArray, List.map_cons, List.map_nil]); first | done | rfl | (simp only [List.length_drop, List.length_take]; rfl)) ?_; (with_reducible refine (tidewallref08_time.calls kj16 _ _ l2 a1_0 t152 _ ?side1 ?side2 A24.out).mono ?_); (case side1 => repeat (first | exact (Kd.C_below HR2.out HB.out) | (with_reducible refine Kd.C_alloc ?_ _) | (with_reducible refine Kd.C_drewN ?_ _) | (with_reducible refine Kd.C_drew ?_))); (case side2 => exact HC2.out); rintro e w' ⟨rfl, ⟨nd, rfl⟩⟩; refine ⟨_, rfl, ?_⟩))
                  go_ret3
                  exact ⟨_, _, by first | rfl | (simp [errW_none, errW_some] <;> rfl) | (simp [*, errW_none, errW_some] <;> rfl), by first | exact Kd.R_nil _ _ _ _ _ | exact Kd.N_nil _ _ _ _ _ | exact Kd.V_nil _ _ _ _ _ | exact Kd.Q_nil _ _ _ _ _ | exact Kd.S_nil _ _ _ _ _, by first | exact Kd.R_nil _ _ _ _ _ | exact Kd.N_nil _ _ _ _ _ | exact Kd.V_nil _ _ _ _ _ | exact Kd.Q_nil _ _ _ _ _ | exact Kd.S_nil _ _ _ _ _, by repeat (first | (with_reducible first | exact HB.out | apply below_alloc | apply pw_below_drewN | apply below_drew1 | refine below_set ?_ GE147.out | refine below_set ?_ GE148.out) | exact HB.out)⟩
                · rw [if_neg c25] at H
                  have c25b0 : decide (t152 < 0) = false := decide_eq_false c25
                  clear c25
                  replace H := Option.bind_eq_some_iff.mp H
                  obtain ⟨t153, A280, H⟩ := H
                  replace H : (if t153 = true then (tidewallref08_Diagnose.l0 kj16 l2 a3 ([] : List Int) 0 a0_0 a0_1 l0_2 a1_0 a1_1 a1_2) else (some (([] : List Int), ([] : List Int), 14))) = some (r1, r2, r3) := H
                  have A28 := Aside0.mk A280
                  clear A280
                  by_cases c29 : t153 = true
                  · subst c29
                    have H1 : (tidewallref08_Diagnose.l0 kj16 l2 a3 ([] : List Int) 0 a0_0 a0_1 l0_2 a1_0 a1_1 a1_2) = some (r1, r2, r3) := by rw [if_pos rfl] at H; exact H
                    clear H
                    have H := H1
                    clear H1
                    have H' := Aside0.mk H
                    clear H
                    have hnb30 := NB148_147.out
                    have hnc30 := NB147_148.out
                    have hcz31_0 : wc.cell? ⟨gb148, 0, none⟩ = some (.int .i64 a1_0) := (blk_cell BK148.out 0).trans rfl
                    have hcz31_1 : wc.cell? ⟨gb148, 1, none⟩ = some (.int .i64 a1_1) := (blk_cell BK148.out 1).trans rfl
                    have hcz31_2 : wc.cell? ⟨gb148, 2, none⟩ = some (.int .i64 a1_2) := (blk_cell BK148.out 2).trans rfl
                    have hfz31_0 := blk_frozen BK148.out 0
                    have hfz31_1 := blk_frozen BK148.out 1
                    have hfz31_2 := blk_frozen BK148.out 2
                    go_wp2_with (first | ((with_reducible refine gate_callee (f := 83) rfl ?_); refine goesL_ (some 43) rfl rfl Try.func83 (by kernel_rfl) rfl #[.slice A2 l2.length c2, .int .i64 a1_0] rfl (by (try simp only [List.map_toArray, List.map_cons, List.map_nil]); first | done | rfl | (simp only [List.length_drop, List.length_take]; rfl)) ?_; (with_reducible refine (tidewallref08_time.calls kj16 _ _ l2 a1_0 t152 _ ?side1 ?side2 A24.out).mono ?_); (case side1 => repeat (first | exact (Kd.C_below HR2.out HB.out) | (with_reducible refine Kd.C_alloc ?_ _) | (with_reducible refine Kd.C_drewN ?_ _) | (with_reducible refine Kd.C_drew ?_))); (case side2 => exact HC2.out); rintro e w' ⟨rfl, ⟨nd, rfl⟩⟩; refine ⟨_, rfl, ?_⟩) | ((with_reducible refine gate_callee (f := 81) rfl ?_); refine goesL_ (some 53) rfl rfl Try.func81 (by kernel_rfl) rfl #[.int .i64 t152, .int .i64 a1_1, .int .i64 a1_2] rfl (by (try simp only [List.map_toArray, List.map_cons, List.map_nil]); first | done | rfl | (simp only [List.length_drop, List.length_take]; rfl)) ?_; (with_reducible refine (tidewallref08_within.calls t152 a1_1 a1_2 true _ A28.out).mono ?_); rintro e w' ⟨rfl, ⟨nd, rfl⟩⟩; refine ⟨_, rfl, ?_⟩))
                    go_loopg [14, 15] kj16 (fun kq v14 v15 w' => ∃ (x14_4 : List Int) (x15_4 : Int), v15 = .int .i64 x15_4 ∧ Aside0 (tidewallref08_Diagnose.l0 kq l2 a3 x14_4 x15_4 a0_0 a0_1 l0_2 a1_0 a1_1 a1_2 = some (r1, r2, r3)) ∧ Aside0 (kq ≤ kj16) ∧ Aside0 (Kd.R (Kd.int .i64) 3 w' w.heap.size (fun _ => True) v14 x14_4) ∧ Aside0 (w'.heap[gb147]? = some (.cells #[.int .i64 a0_0, .int .i64 a0_1, (.slice A0_2 l0_2.length c0_2)] 77 (0, 0))) ∧ Aside0 (w'.heap[gb148]? = some (.cells #[.int .i64 a1_0, .int .i64 a1_1, .int .i64 a1_2] 79 (0, 0))) ∧ Aside0 (Below w.heap.size w w'))
                    case atStart => exact ⟨(([] : List Int)), (0), (by first | rfl | (simp; done) | (simp [*]; done)), H', ⟨Nat.le_refl _⟩, ⟨by first | exact Kd.R_nil _ _ _ _ _ | exact Kd.N_nil _ _ _ _ _ | exact Kd.V_nil _ _ _ _ _ | exact Kd.Q_nil _ _ _ _ _ | exact Kd.S_nil _ _ _ _ _⟩, ⟨by (with_reducible repeat (first | refine blk_drewN ?_ _ | refine blk_drew ?_ | refine blk_alloc ?_ _)); exact BK147.out⟩, ⟨by (with_reducible repeat (first | refine blk_drewN ?_ _ | refine blk_drew ?_ | refine blk_alloc ?_ _)); exact BK148.out⟩, ⟨by repeat (first | (with_reducible first | exact HB.out | apply below_alloc | apply pw_below_drewN | apply below_drew1 | refine below_set ?_ GE147.out | refine below_set ?_ GE148.out) | exact HB.out)⟩⟩
                    case round =>
                      clear H'
                      try clear c1
                      try clear c2
                      try clear p2
                      try clear c3
                      try clear c8
                      try clear c9
                      try clear c13
                      try clear c13b0
                      try clear c13b1
                      try clear c16
                      try clear c18
                      try clear c18b0
                      try clear c18b1
                      try clear c20
                      try clear c23
                      try clear c23b0
                      try clear c23b1
                      try clear c25
                      try clear c25b0
                      try clear c26
                      try clear c29
                      try clear c30
                      try clear hcz10_0
                      try clear hcz10_1
                      try clear hcz10_2
                      try clear hcz11_0
                      try clear hcz11_1
                      try clear hcz11_2
                      try clear hcz21_0
                      try clear hcz21_1
                      try clear hcz21_2
                      try clear hcz27_0
                      try clear hcz27_1
                      try clear hcz27_2
                      try clear hcz31_0
                      try clear hcz31_1
                      try clear hcz31_2
                      try clear hfz10_0
                      try clear hfz10_1
                      try clear hfz10_2
                      try clear hfz11_0
                      try clear hfz11_1
                      try clear hfz11_2
                      try clear hfz21_0
                      try clear hfz21_1
                      try clear hfz21_2
                      try clear hfz27_0
                      try clear hfz27_1
                      try clear hfz27_2
                      try clear hfz31_0
                      try clear hfz31_1
                      try clear hfz31_2
                      try clear p2
                      obtain ⟨x14_4, x15_4, rfl, HA, HK4, HO_14, BK147, BK148, HB⟩ := hrel
                      cases gk with
                      | zero => exact absurd HA.out (by simp [tidewallref08_Diagnose.l0])
                      | succ k4 =>
                        have H := HA.out
                        clear HA
                        simp only [tidewallref08_Diagnose.l0] at H
                        by_cases c32 : x15_4 < (l0_2.length : Int)
                        · rw [if_pos c32] at H
                          have c32b0 : decide (x15_4 < (l0_2.length : Int)) = true := decide_eq_true c32
                          clear c32
                          by_cases c33 : 0 ≤ x15_4
                          · rw [if_pos c33] at H
                            have c33b0 : decide (0 ≤ x15_4) = true := decide_eq_true c33
                            clear c33
                            have HC34 := Aside0.mk H
                            clear H
                            have hnb35 := NB147_148.out
                            have hnc35 := NB148_147.out
                            have hcz36_0 : wr.cell? ⟨gb147, 0, none⟩ = some (.int .i64 a0_0) := (blk_cell BK147.out 0).trans rfl
                            have hcz36_1 : wr.cell? ⟨gb147, 1, none⟩ = some (.int .i64 a0_1) := (blk_cell BK147.out 1).trans rfl
                            have hcz36_2 : wr.cell? ⟨gb147, 2, none⟩ = some (.slice A0_2 l0_2.length c0_2) := (blk_cell BK147.out 2).trans rfl
                            have hfz36_0 := blk_frozen BK147.out 0
                            have hfz36_1 := blk_frozen BK147.out 1
                            have hfz36_2 := blk_frozen BK147.out 2
                            have p154 : 0 ≤ (x15_4 : Int) := of_decide_eq_true (by first | (with_reducible assumption) | assumption)
                            have q154 : x15_4 < (l0_2.length : Int) := of_decide_eq_true (by first | (with_reducible assumption) | assumption)
                            obtain ⟨ad154, e154, hx154_0, hx154_1, hx154_2, hx154_3, hx154_4, hx154_5⟩ := at_T175 HR0_2.out x15_4 p154 q154
                            cases e154
                            replace hx154_0 := (HB.out.cell (World.block_lt_of_cell? w _ hx154_0)).trans hx154_0
                            replace hx154_1 := (HB.out.cell (World.block_lt_of_cell? w _ hx154_1)).trans hx154_1
                            replace hx154_2 := (HB.out.cell (World.block_lt_of_cell? w _ hx154_2)).trans hx154_2
                            replace hx154_3 := (HB.out.cell (World.block_lt_of_cell? w _ hx154_3)).trans hx154_3
                            replace hx154_4 := (HB.out.cell (World.block_lt_of_cell? w _ hx154_4)).trans hx154_4
                            replace hx154_5 := (HB.out.cell (World.block_lt_of_cell? w _ hx154_5)).trans hx154_5
                            replace p154 := eq_true p154
                            replace q154 := eq_true q154
                            go_upto_region 18 with (first | ((with_reducible refine gate_dst (N := 16) rfl ?_); refine box_event ?hg (N := 16) ?hd (cs := #[.int .i64 0, .int .i64 0, .int .i64 0, .int .i64 0, .int .i64 0, .bool false]) (t := 175) ?hr ?_; (case hd => rfl); (case hg => rfl); (case hr => first | (go_simp; done) | (go_simp; rfl)); intro gb155 hg w37 hbox hb; have n0_ := Aside0.mk (Kd.R_below (by (with_reducible repeat (first | apply Kd.R_alloc | apply Kd.R_drewN | apply Kd.R_drew)); exact HO_14.out) hb); have n1_ := Aside0.mk (blk_below (g := gb147) (o := .cells #[.int .i64 a0_0, .int .i64 a0_1, .slice (some ad154) l0_2.length c0_2] 77 (0, 0)) (by (with_reducible repeat (first | refine blk_drewN ?_ _ | refine blk_drew ?_ | refine blk_alloc ?_ _)); exact BK147.out) hb); have n2_ := Aside0.mk (blk_below (g := gb148) (o := .cells #[.int .i64 a1_0, .int .i64 a1_1, .int .i64 a1_2] 79 (0, 0)) (by (with_reducible repeat (first | refine blk_drewN ?_ _ | refine blk_drew ?_ | refine blk_alloc ?_ _)); exact BK148.out) hb); have n3_ := Aside0.mk (below_step (by repeat (first | (with_reducible first | exact HB.out | apply below_alloc | apply pw_below_drewN | apply below_drew1 | refine below_set ?_ GE147.out | refine below_set ?_ GE148.out) | exact HB.out)) hb); have n4_ := Aside0.mk (hbox); have n5_ := Aside0.mk ((by rw [hg]; exact (below_size (by repeat (first | (with_reducible first | exact HB.out | apply below_alloc | apply pw_below_drewN | apply below_drew1 | refine below_set ?_ GE147.out | refine below_set ?_ GE148.out) | exact HB.out))) : w.heap.size ≤ gb155)); have n6_ := Aside0.mk ((by rw [hg]; exact (below_size (by repeat (first | (with_reducible first | exact HB.out | apply below_alloc | apply pw_below_drewN | apply below_drew1 | refine below_set ?_ GE147.out | refine below_set ?_ GE148.out) | exact HB.out))) : w.heap.size ≤ gb155)); have n7_ := Aside0.mk ((by rw [hg]; exact Nat.ne_of_lt (blk_lt (g := gb147) (o := .cells #[.int .i64 a0_0, .int .i64 a0_1, .slice (some ad154) l0_2.length c0_2] 77 (0, 0)) (by (with_reducible repeat (first | refine blk_drewN ?_ _ | refine blk_drew ?_ | refine blk_alloc ?_ _)); exact BK147.out)) : gb147 ≠ gb155)); have n8_ := Aside0.mk ((by rw [hg]; exact Nat.ne_of_gt (blk_lt (g := gb147) (o := .cells #[.int .i64 a0_0, .int .i64 a0_1, .slice (some ad154) l0_2.length c0_2] 77 (0, 0)) (by (with_reducible repeat (first | refine blk_drewN ?_ _ | refine blk_drew ?_ | refine blk_alloc ?_ _)); exact BK147.out)) : gb155 ≠ gb147)); have n9_ := Aside0.mk ((by rw [hg]; exact Nat.ne_of_lt (blk_lt (g := gb148) (o := .cells #[.int .i64 a1_0, .int .i64 a1_1, .int .i64 a1_2] 79 (0, 0)) (by (with_reducible repeat (first | refine blk_drewN ?_ _ | refine blk_drew ?_ | refine blk_alloc ?_ _)); exact BK148.out)) : gb148 ≠ gb155)); have n10_ := Aside0.mk ((by rw [hg]; exact Nat.ne_of_gt (blk_lt (g := gb148) (o := .cells #[.int .i64 a1_0, .int .i64 a1_1, .int .i64 a1_2] 79 (0, 0)) (by (with_reducible repeat (first | refine blk_drewN ?_ _ | refine blk_drew ?_ | refine blk_alloc ?_ _)); exact BK148.out)) : gb155 ≠ gb148)); clear HO_14; clear BK147; clear BK148; clear HB; have HO_14 := n0_; have BK147 := n1_; have BK148 := n2_; have HB := n3_; have BK155 := n4_; have GW155 := n5_; have GE155 := n6_; have NB147_155 := n7_; have NB155_147 := n8_; have NB148_155 := n9_; have NB155_148 := n10_; clear n0_ n1_ n2_ n3_ n4_ n5_ n6_ n7_ n8_ n9_ n10_; clear hb hbox hg; have hnb38 := NB155_147.out; have hnc38 := NB147_155.out; have hnb39 := NB155_148.out; have hnc39 := NB148_155.out; have hcz40_0 : w37.cell? ⟨gb155, 0, none⟩ = some (.int .i64 0) := (blk_cell BK155.out 0).trans rfl; have hcz40_1 : w37.cell? ⟨gb155, 1, none⟩ = some (.int .i64 0) := (blk_cell BK155.out 1).trans rfl; have hcz40_2 : w37.cell? ⟨gb155, 2, none⟩ = some (.int .i64 0) := (blk_cell BK155.out 2).trans rfl; have hcz40_3 : w37.cell? ⟨gb155, 3, none⟩ = some (.int .i64 0) := (blk_cell BK155.out 3).trans rfl; have hcz40_4 : w37.cell? ⟨gb155, 4, none⟩ = some (.int .i64 0) := (blk_cell BK155.out 4).trans rfl; have hcz40_5 : w37.cell? ⟨gb155, 5, none⟩ = some (.bool false) := (blk_cell BK155.out 5).trans rfl; have hfz40_0 := blk_frozen BK155.out 0; have hfz40_1 := blk_frozen BK155.out 1; have hfz40_2 := blk_frozen BK155.out 2; have hfz40_3 := blk_frozen BK155.out 3; have hfz40_4 := blk_frozen BK155.out 4; have hfz40_5 := blk_frozen BK155.out 5))
                            (try simp only [Act.put, List.setIfInBounds_toArray, List.set_cons_zero, List.set_cons_succ])
                            go_cut [78] (fun v78 wc => ∃ (kq : Nat) (x78_33 : Bool), v78 = .bool x78_33 ∧ Aside0 (tidewallref08_Diagnose.j4 kq l2 a3 x14_4 x15_4 x78_33 a0_0 a0_1 l0_2 a1_0 a1_1 a1_2 ((rd_T175 l0_2 x15_4).f0) ((rd_T175 l0_2 x15_4).f1) ((rd_T175 l0_2 x15_4).f2.f0) ((rd_T175 l0_2 x15_4).f2.f1) ((rd_T175 l0_2 x15_4).f3) ((rd_T175 l0_2 x15_4).f4) = some (r1, r2, r3)) ∧ Aside0 (kq ≤ k4) ∧ Aside0 (Kd.R (Kd.int .i64) 3 wc w.heap.size (fun _ => True) u14 x14_4) ∧ Aside0 (wc.heap[gb147]? = some (.cells #[.int .i64 a0_0, .int .i64 a0_1, (.slice (some ad154) l0_2.length c0_2)] 77 (0, 0))) ∧ Aside0 (wc.heap[gb148]? = some (.cells #[.int .i64 a1_0, .int .i64 a1_1, .int .i64 a1_2] 79 (0, 0))) ∧ Aside0 (wc.heap[gb155]? = some (.cells #[.int .i64 ((rd_T175 l0_2 x15_4).f0), .int .i64 ((rd_T175 l0_2 x15_4).f1), .int .i64 ((rd_T175 l0_2 x15_4).f2.f0), .int .i64 ((rd_T175 l0_2 x15_4).f2.f1), .int .i64 ((rd_T175 l0_2 x15_4).f3), .bool ((rd_T175 l0_2 x15_4).f4)] 175 (0, 0))) ∧ Aside0 (Below w.heap.size w wc))
                            case first =>
                              have H := HC34.out
                              clear HC34
                              replace H := Option.bind_eq_some_iff.mp H
                              obtain ⟨t156, A410, H⟩ := H
                              replace H : (if t156 = true then (tidewallref08_Diagnose.j4 k4 l2 a3 x14_4 x15_4 (((rd_T175 l0_2 x15_4).f1) == a1_0) a0_0 a0_1 l0_2 a1_0 a1_1 a1_2 ((rd_T175 l0_2 x15_4).f0) ((rd_T175 l0_2 x15_4).f1) ((rd_T175 l0_2 x15_4).f2.f0) ((rd_T175 l0_2 x15_4).f2.f1) ((rd_T175 l0_2 x15_4).f3) ((rd_T175 l0_2 x15_4).f4)) else (tidewallref08_Diagnose.j4 k4 l2 a3 x14_4 x15_4 true a0_0 a0_1 l0_2 a1_0 a1_1 a1_2 ((rd_T175 l0_2 x15_4).f0) ((rd_T175 l0_2 x15_4).f1) ((rd_T175 l0_2 x15_4).f2.f0) ((rd_T175 l0_2 x15_4).f2.f1) ((rd_T175 l0_2 x15_4).f3) ((rd_T175 l0_2 x15_4).f4))) = some (r1, r2, r3) := H
                              have A41 := Aside0.mk A410
                              clear A410
                              by_cases c42 : t156 = true
                              · subst c42
                                have H1 : (tidewallref08_Diagnose.j4 k4 l2 a3 x14_4 x15_4 (((rd_T175 l0_2 x15_4).f1) == a1_0) a0_0 a0_1 l0_2 a1_0 a1_1 a1_2 ((rd_T175 l0_2 x15_4).f0) ((rd_T175 l0_2 x15_4).f1) ((rd_T175 l0_2 x15_4).f2.f0) ((rd_T175 l0_2 x15_4).f2.f1) ((rd_T175 l0_2 x15_4).f3) ((rd_T175 l0_2 x15_4).f4)) = some (r1, r2, r3) := by rw [if_pos rfl] at H; exact H
                                clear H
                                have H := H1
                                clear H1
                                have H' := Aside0.mk H
                                clear H
                                have hnb43 := NB155_147.out
                                have hnc43 := NB147_155.out
                                have hnb44 := NB155_148.out
                                have hnc44 := NB148_155.out
                                have hcz45_0 : w37.cell? ⟨gb155, 0, none⟩ = some (.int .i64 0) := (blk_cell BK155.out 0).trans rfl
                                have hcz45_1 : w37.cell? ⟨gb155, 1, none⟩ = some (.int .i64 0) := (blk_cell BK155.out 1).trans rfl
                                have hcz45_2 : w37.cell? ⟨gb155, 2, none⟩ = some (.int .i64 0) := (blk_cell BK155.out 2).trans rfl
                                have hcz45_3 : w37.cell? ⟨gb155, 3, none⟩ = some (.int .i64 0) := (blk_cell BK155.out 3).trans rfl
                                have hcz45_4 : w37.cell? ⟨gb155, 4, none⟩ = some (.int .i64 0) := (blk_cell BK155.out 4).trans rfl
                                have hcz45_5 : w37.cell? ⟨gb155, 5, none⟩ = some (.bool false) := (blk_cell BK155.out 5).trans rfl
                                have hfz45_0 := blk_frozen BK155.out 0
                                have hfz45_1 := blk_frozen BK155.out 1
                                have hfz45_2 := blk_frozen BK155.out 2
                                have hfz45_3 := blk_frozen BK155.out 3
                                have hfz45_4 := blk_frozen BK155.out 4
                                have hfz45_5 := blk_frozen BK155.out 5
                                go_wp2_with (first | ((with_reducible refine gate_callee (f := 84) rfl ?_); refine goesL_ (some 70) rfl rfl Try.func84 (by kernel_rfl) rfl #[.agg #[.int .i64 ((rd_T175 l0_2 x15_4).f0), .int .i64 ((rd_T175 l0_2 x15_4).f1), .int .i64 ((rd_T175 l0_2 x15_4).f2.f0), .int .i64 ((rd_T175 l0_2 x15_4).f2.f1), .int .i64 ((rd_T175 l0_2 x15_4).f3), .bool ((rd_T175 l0_2 x15_4).f4)], .slice A2 l2.length c2, .int .i64 a3] rfl (by (try simp only [List.map_toArray, List.map_cons, List.map_nil]); first | done | rfl | (simp only [List.length_drop, List.length_take]; rfl)) ?_; (with_reducible refine (tidewallref08_silent.calls k4 ((rd_T175 l0_2 x15_4).f0) ((rd_T175 l0_2 x15_4).f1) ((rd_T175 l0_2 x15_4).f2.f0) ((rd_T175 l0_2 x15_4).f2.f1) ((rd_T175 l0_2 x15_4).f3) ((rd_T175 l0_2 x15_4).f4) _ _ l2 a3 true _ ?side1 ?side2 A41.out).mono ?_); (case side1 => exact Kd.C_below HR2.out (by repeat (first | (with_reducible first | exact HB.out | apply below_alloc | apply pw_below_drewN | apply below_drew1 | refine below_set ?_ GE147.out | refine below_set ?_ GE148.out | refine below_set ?_ GE155.out) | exact HB.out))); (case side2 => exact HC2.out); rintro e w46 ⟨rfl, hb⟩; refine ⟨_, rfl, ?_⟩; have n0_ := Aside0.mk (Kd.R_below (by (with_reducible repeat (first | apply Kd.R_alloc | apply Kd.R_drewN | apply Kd.R_drew)); exact (Kd.R_mono (Kd.R_far (p := ⟨gb155, 5, none⟩) (Kd.R_far (p := ⟨gb155, 4, none⟩) (Kd.R_far (p := ⟨gb155, 3, none⟩) (Kd.R_far (p := ⟨gb155, 2, none⟩) (Kd.R_far (p := ⟨gb155, 1, none⟩) (Kd.R_far (p := ⟨gb155, 0, none⟩) (Kd.R_types HO_14.out BK155.out (by decide)) (fun _ hk => hk.2) (.int .i64 ((rd_T175 l0_2 x15_4).f0))) (fun _ hk => hk.2) (.int .i64 ((rd_T175 l0_2 x15_4).f1))) (fun _ hk => hk.2) (.int .i64 ((rd_T175 l0_2 x15_4).f2.f0))) (fun _ hk => hk.2) (.int .i64 ((rd_T175 l0_2 x15_4).f2.f1))) (fun _ hk => hk.2) (.int .i64 ((rd_T175 l0_2 x15_4).f3))) (fun _ hk => hk.2) (.bool ((rd_T175 l0_2 x15_4).f4))) (fun _ h_ => h_.1))) hb); have n1_ := Aside0.mk (blk_below (g := gb147) (o := .cells #[.int .i64 a0_0, .int .i64 a0_1, .slice (some ad154) l0_2.length c0_2] 77 (0, 0)) (by (with_reducible repeat (first | refine blk_drewN ?_ _ | refine blk_drew ?_ | refine blk_alloc ?_ _)); refine blk_far ?_ NB147_155.out _; (with_reducible repeat (first | refine blk_drewN ?_ _ | refine blk_drew ?_ | refine blk_alloc ?_ _)); refine blk_far ?_ NB147_155.out _; (with_reducible repeat (first | refine blk_drewN ?_ _ | refine blk_drew ?_ | refine blk_alloc ?_ _)); refine blk_far ?_ NB147_155.out _; (with_reducible repeat (first | refine blk_drewN ?_ _ | refine blk_drew ?_ | refine blk_alloc ?_ _)); refine blk_far ?_ NB147_155.out _; (with_reducible repeat (first | refine blk_drewN ?_ _ | refine blk_drew ?_ | refine blk_alloc ?_ _)); refine blk_far ?_ NB147_155.out _; (with_reducible repeat (first | refine blk_drewN ?_ _ | refine blk_drew ?_ | refine blk_alloc ?_ _)); refine blk_far ?_ NB147_155.out _; (with_reducible repeat (first | refine blk_drewN ?_ _ | refine blk_drew ?_ | refine blk_alloc ?_ _)); exact BK147.out) hb); have n2_ := Aside0.mk (blk_below (g := gb148) (o := .cells #[.int .i64 a1_0, .int .i64 a1_1, .int .i64 a1_2] 79 (0, 0)) (by (with_reducible repeat (first | refine blk_drewN ?_ _ | refine blk_drew ?_ | refine blk_alloc ?_ _)); refine blk_far ?_ NB148_155.out _; (with_reducible repeat (first | refine blk_drewN ?_ _ | refine blk_drew ?_ | refine blk_alloc ?_ _)); refine blk_far ?_ NB148_155.out _; (with_reducible repeat (first | refine blk_drewN ?_ _ | refine blk_drew ?_ | refine blk_alloc ?_ _)); refine blk_far ?_ NB148_155.out _; (with_reducible repeat (first | refine blk_drewN ?_ _ | refine blk_drew ?_ | refine blk_alloc ?_ _)); refine blk_far ?_ NB148_155.out _; (with_reducible repeat (first | refine blk_drewN ?_ _ | refine blk_drew ?_ | refine blk_alloc ?_ _)); refine blk_far ?_ NB148_155.out _; (with_reducible repeat (first | refine blk_drewN ?_ _ | refine blk_drew ?_ | refine blk_alloc ?_ _)); refine blk_far ?_ NB148_155.out _; (with_reducible repeat (first | refine blk_drewN ?_ _ | refine blk_drew ?_ | refine blk_alloc ?_ _)); exact BK148.out) hb); have n3_ := Aside0.mk (blk_below (g := gb155) (o := .cells #[.int .i64 ((rd_T175 l0_2 x15_4).f0), .int .i64 ((rd_T175 l0_2 x15_4).f1), .int .i64 ((rd_T175 l0_2 x15_4).f2.f0), .int .i64 ((rd_T175 l0_2 x15_4).f2.f1), .int .i64 ((rd_T175 l0_2 x15_4).f3), .bool ((rd_T175 l0_2 x15_4).f4)] 175 (0, 0)) (by (with_reducible repeat (first | refine blk_drewN ?_ _ | refine blk_drew ?_ | refine blk_alloc ?_ _)); refine blk_put (cs := #[.int .i64 ((rd_T175 l0_2 x15_4).f0), .int .i64 ((rd_T175 l0_2 x15_4).f1), .int .i64 ((rd_T175 l0_2 x15_4).f2.f0), .int .i64 ((rd_T175 l0_2 x15_4).f2.f1), .int .i64 ((rd_T175 l0_2 x15_4).f3), .bool false]) ?_ 5 _ rfl; (with_reducible repeat (first | refine blk_drewN ?_ _ | refine blk_drew ?_ | refine blk_alloc ?_ _)); refine blk_put (cs := #[.int .i64 ((rd_T175 l0_2 x15_4).f0), .int .i64 ((rd_T175 l0_2 x15_4).f1), .int .i64 ((rd_T175 l0_2 x15_4).f2.f0), .int .i64 ((rd_T175 l0_2 x15_4).f2.f1), .int .i64 0, .bool false]) ?_ 4 _ rfl; (with_reducible repeat (first | refine blk_drewN ?_ _ | refine blk_drew ?_ | refine blk_alloc ?_ _)); refine blk_put (cs := #[.int .i64 ((rd_T175 l0_2 x15_4).f0), .int .i64 ((rd_T175 l0_2 x15_4).f1), .int .i64 ((rd_T175 l0_2 x15_4).f2.f0), .int .i64 0, .int .i64 0, .bool false]) ?_ 3 _ rfl; (with_reducible repeat (first | refine blk_drewN ?_ _ | refine blk_drew ?_ | refine blk_alloc ?_ _)); refine blk_put (cs := #[.int .i64 ((rd_T175 l0_2 x15_4).f0), .int .i64 ((rd_T175 l0_2 x15_4).f1), .int .i64 0, .int .i64 0, .int .i64 0, .bool false]) ?_ 2 _ rfl; (with_reducible repeat (first | refine blk_drewN ?_ _ | refine blk_drew ?_ | refine blk_alloc ?_ _)); refine blk_put (cs := #[.int .i64 ((rd_T175 l0_2 x15_4).f0), .int .i64 0, .int .i64 0, .int .i64 0, .int .i64 0, .bool false]) ?_ 1 _ rfl; (with_reducible repeat (first | refine blk_drewN ?_ _ | refine blk_drew ?_ | refine blk_alloc ?_ _)); refine blk_put (cs := #[.int .i64 0, .int .i64 0, .int .i64 0, .int .i64 0, .int .i64 0, .bool false]) ?_ 0 _ rfl; (with_reducible repeat (first | refine blk_drewN ?_ _ | refine blk_drew ?_ | refine blk_alloc ?_ _)); exact BK155.out) hb); have n4_ := Aside0.mk (below_step (by repeat (first | (with_reducible first | exact HB.out | apply below_alloc | apply pw_below_drewN | apply below_drew1 | refine below_set ?_ GE147.out | refine below_set ?_ GE148.out | refine below_set ?_ GE155.out) | exact HB.out)) hb); clear HO_14; clear BK147; clear BK148; clear BK155; clear HB; have HO_14 := n0_; have BK147 := n1_; have BK148 := n2_; have BK155 := n3_; have HB := n4_; clear n0_ n1_ n2_ n3_ n4_; (try clear hb); (try clear hb2); (try clear hk); (try clear hi); have hcz47_0 : w46.cell? ⟨gb155, 0, none⟩ = some (.int .i64 ((rd_T175 l0_2 x15_4).f0)) := (blk_cell BK155.out 0).trans rfl; have hcz47_1 : w46.cell? ⟨gb155, 1, none⟩ = some (.int .i64 ((rd_T175 l0_2 x15_4).f1)) := (blk_cell BK155.out 1).trans rfl; have hcz47_2 : w46.cell? ⟨gb155, 2, none⟩ = some (.int .i64 ((rd_T175 l0_2 x15_4).f2.f0)) := (blk_cell BK155.out 2).trans rfl; have hcz47_3 : w46.cell? ⟨gb155, 3, none⟩ = some (.int .i64 ((rd_T175 l0_2 x15_4).f2.f1)) := (blk_cell BK155.out 3).trans rfl; have hcz47_4 : w46.cell? ⟨gb155, 4, none⟩ = some (.int .i64 ((rd_T175 l0_2 x15_4).f3)) := (blk_cell BK155.out 4).trans rfl; have hcz47_5 : w46.cell? ⟨gb155, 5, none⟩ = some (.bool ((rd_T175 l0_2 x15_4).f4)) := (blk_cell BK155.out 5).trans rfl; have hfz47_0 := blk_frozen BK155.out 0; have hfz47_1 := blk_frozen BK155.out 1; have hfz47_2 := blk_frozen BK155.out 2; have hfz47_3 := blk_frozen BK155.out 3; have hfz47_4 := blk_frozen BK155.out 4; have hfz47_5 := blk_frozen BK155.out 5; have hnb48 := NB148_147.out; have hnc48 := NB147_148.out; have hcz49_0 : w46.cell? ⟨gb148, 0, none⟩ = some (.int .i64 a1_0) := (blk_cell BK148.out 0).trans rfl; have hcz49_1 : w46.cell? ⟨gb148, 1, none⟩ = some (.int .i64 a1_1) := (blk_cell BK148.out 1).trans rfl; have hcz49_2 : w46.cell? ⟨gb148, 2, none⟩ = some (.int .i64 a1_2) := (blk_cell BK148.out 2).trans rfl; have hfz49_0 := blk_frozen BK148.out 0; have hfz49_1 := blk_frozen BK148.out 1; have hfz49_2 := blk_frozen BK148.out 2))
                                go_meet
                                case rel => exact ⟨_, ((((rd_T175 l0_2 x15_4).f1) == a1_0)), (by first | rfl | (simp; done) | (simp [*]; done)), H', ⟨by have := HJ5.out; have := HJ14.out; have := HJ16.out; have := HK4.out; first | omega | exact Nat.le_refl _⟩, ⟨by (with_reducible repeat (first | apply Kd.R_alloc | apply Kd.R_drewN | apply Kd.R_drew)); exact HO_14.out⟩, ⟨by (with_reducible repeat (first | refine blk_drewN ?_ _ | refine blk_drew ?_ | refine blk_alloc ?_ _)); exact BK147.out⟩, ⟨by (with_reducible repeat (first | refine blk_drewN ?_ _ | refine blk_drew ?_ | refine blk_alloc ?_ _)); exact BK148.out⟩, ⟨by (with_reducible repeat (first | refine blk_drewN ?_ _ | refine blk_drew ?_ | refine blk_alloc ?_ _)); exact BK155.out⟩, ⟨by repeat (first | (with_reducible first | exact HB.out | apply below_alloc | apply pw_below_drewN | apply below_drew1 | refine below_set ?_ GE147.out | refine below_set ?_ GE148.out | refine below_set ?_ GE155.out) | exact HB.out)⟩⟩
                              · replace c42 := Bool.eq_false_iff.mpr c42
                                subst c42
                                have H1 : (tidewallref08_Diagnose.j4 k4 l2 a3 x14_4 x15_4 true a0_0 a0_1 l0_2 a1_0 a1_1 a1_2 ((rd_T175 l0_2 x15_4).f0) ((rd_T175 l0_2 x15_4).f1) ((rd_T175 l0_2 x15_4).f2.f0) ((rd_T175 l0_2 x15_4).f2.f1) ((rd_T175 l0_2 x15_4).f3) ((rd_T175 l0_2 x15_4).f4)) = some (r1, r2, r3) := by rw [if_neg (show ¬ (false = true) by decide)] at H; exact H
                                clear H
                                have H := H1
                                clear H1
                                have H' := Aside0.mk H
                                clear H
                                have hnb50 := NB155_147.out
                                have hnc50 := NB147_155.out
                                have hnb51 := NB155_148.out
                                have hnc51 := NB148_155.out
                                have hcz52_0 : w37.cell? ⟨gb155, 0, none⟩ = some (.int .i64 0) := (blk_cell BK155.out 0).trans rfl
                                have hcz52_1 : w37.cell? ⟨gb155, 1, none⟩ = some (.int .i64 0) := (blk_cell BK155.out 1).trans rfl
                                have hcz52_2 : w37.cell? ⟨gb155, 2, none⟩ = some (.int .i64 0) := (blk_cell BK155.out 2).trans rfl
                                have hcz52_3 : w37.cell? ⟨gb155, 3, none⟩ = some (.int .i64 0) := (blk_cell BK155.out 3).trans rfl
                                have hcz52_4 : w37.cell? ⟨gb155, 4, none⟩ = some (.int .i64 0) := (blk_cell BK155.out 4).trans rfl
                                have hcz52_5 : w37.cell? ⟨gb155, 5, none⟩ = some (.bool false) := (blk_cell BK155.out 5).trans rfl
                                have hfz52_0 := blk_frozen BK155.out 0
                                have hfz52_1 := blk_frozen BK155.out 1
                                have hfz52_2 := blk_frozen BK155.out 2
                                have hfz52_3 := blk_frozen BK155.out 3
                                have hfz52_4 := blk_frozen BK155.out 4
                                have hfz52_5 := blk_frozen BK155.out 5
                                go_wp2_with (first | ((with_reducible refine gate_callee (f := 84) rfl ?_); refine goesL_ (some 70) rfl rfl Try.func84 (by kernel_rfl) rfl #[.agg #[.int .i64 ((rd_T175 l0_2 x15_4).f0), .int .i64 ((rd_T175 l0_2 x15_4).f1), .int .i64 ((rd_T175 l0_2 x15_4).f2.f0), .int .i64 ((rd_T175 l0_2 x15_4).f2.f1), .int .i64 ((rd_T175 l0_2 x15_4).f3), .bool ((rd_T175 l0_2 x15_4).f4)], .slice A2 l2.length c2, .int .i64 a3] rfl (by (try simp only [List.map_toArray, List.map_cons, List.map_nil]); first | done | rfl | (simp only [List.length_drop, List.length_take]; rfl)) ?_; (with_reducible refine (tidewallref08_silent.calls k4 ((rd_T175 l0_2 x15_4).f0) ((rd_T175 l0_2 x15_4).f1) ((rd_T175 l0_2 x15_4).f2.f0) ((rd_T175 l0_2 x15_4).f2.f1) ((rd_T175 l0_2 x15_4).f3) ((rd_T175 l0_2 x15_4).f4) _ _ l2 a3 false _ ?side1 ?side2 A41.out).mono ?_); (case side1 => exact Kd.C_below HR2.out (by repeat (first | (with_reducible first | exact HB.out | apply below_alloc | apply pw_below_drewN | apply below_drew1 | refine below_set ?_ GE147.out | refine below_set ?_ GE148.out | refine below_set ?_ GE155.out) | exact HB.out))); (case side2 => exact HC2.out); rintro e w53 ⟨rfl, hb⟩; refine ⟨_, rfl, ?_⟩; have n0_ := Aside0.mk (Kd.R_below (by (with_reducible repeat (first | apply Kd.R_alloc | apply Kd.R_drewN | apply Kd.R_drew)); exact (Kd.R_mono (Kd.R_far (p := ⟨gb155, 5, none⟩) (Kd.R_far (p := ⟨gb155, 4, none⟩) (Kd.R_far (p := ⟨gb155, 3, none⟩) (Kd.R_far (p := ⟨gb155, 2, none⟩) (Kd.R_far (p := ⟨gb155, 1, none⟩) (Kd.R_far (p := ⟨gb155, 0, none⟩) (Kd.R_types HO_14.out BK155.out (by decide)) (fun _ hk => hk.2) (.int .i64 ((rd_T175 l0_2 x15_4).f0))) (fun _ hk => hk.2) (.int .i64 ((rd_T175 l0_2 x15_4).f1))) (fun _ hk => hk.2) (.int .i64 ((rd_T175 l0_2 x15_4).f2.f0))) (fun _ hk => hk.2) (.int .i64 ((rd_T175 l0_2 x15_4).f2.f1))) (fun _ hk => hk.2) (.int .i64 ((rd_T175 l0_2 x15_4).f3))) (fun _ hk => hk.2) (.bool ((rd_T175 l0_2 x15_4).f4))) (fun _ h_ => h_.1))) hb); have n1_ := Aside0.mk (blk_below (g := gb147) (o := .cells #[.int .i64 a0_0, .int .i64 a0_1, .slice (some ad154) l0_2.length c0_2] 77 (0, 0)) (by (with_reducible repeat (first | refine blk_drewN ?_ _ | refine blk_drew ?_ | refine blk_alloc ?_ _)); refine blk_far ?_ NB147_155.out _; (with_reducible repeat (first | refine blk_drewN ?_ _ | refine blk_drew ?_ | refine blk_alloc ?_ _)); refine blk_far ?_ NB147_155.out _; (with_reducible repeat (first | refine blk_drewN ?_ _ | refine blk_drew ?_ | refine blk_alloc ?_ _)); refine blk_far ?_ NB147_155.out _; (with_reducible repeat (first | refine blk_drewN ?_ _ | refine blk_drew ?_ | refine blk_alloc ?_ _)); refine blk_far ?_ NB147_155.out _; (with_reducible repeat (first | refine blk_drewN ?_ _ | refine blk_drew ?_ | refine blk_alloc ?_ _)); refine blk_far ?_ NB147_155.out _; (with_reducible repeat (first | refine blk_drewN ?_ _ | refine blk_drew ?_ | refine blk_alloc ?_ _)); refine blk_far ?_ NB147_155.out _; (with_reducible repeat (first | refine blk_drewN ?_ _ | refine blk_drew ?_ | refine blk_alloc ?_ _)); exact BK147.out) hb); have n2_ := Aside0.mk (blk_below (g := gb148) (o := .cells #[.int .i64 a1_0, .int .i64 a1_1, .int .i64 a1_2] 79 (0, 0)) (by (with_reducible repeat (first | refine blk_drewN ?_ _ | refine blk_drew ?_ | refine blk_alloc ?_ _)); refine blk_far ?_ NB148_155.out _; (with_reducible repeat (first | refine blk_drewN ?_ _ | refine blk_drew ?_ | refine blk_alloc ?_ _)); refine blk_far ?_ NB148_155.out _; (with_reducible repeat (first | refine blk_drewN ?_ _ | refine blk_drew ?_ | refine blk_alloc ?_ _)); refine blk_far ?_ NB148_155.out _; (with_reducible repeat (first | refine blk_drewN ?_ _ | refine blk_drew ?_ | refine blk_alloc ?_ _)); refine blk_far ?_ NB148_155.out _; (with_reducible repeat (first | refine blk_drewN ?_ _ | refine blk_drew ?_ | refine blk_alloc ?_ _)); refine blk_far ?_ NB148_155.out _; (with_reducible repeat (first | refine blk_drewN ?_ _ | refine blk_drew ?_ | refine blk_alloc ?_ _)); refine blk_far ?_ NB148_155.out _; (with_reducible repeat (first | refine blk_drewN ?_ _ | refine blk_drew ?_ | refine blk_alloc ?_ _)); exact BK148.out) hb); have n3_ := Aside0.mk (blk_below (g := gb155) (o := .cells #[.int .i64 ((rd_T175 l0_2 x15_4).f0), .int .i64 ((rd_T175 l0_2 x15_4).f1), .int .i64 ((rd_T175 l0_2 x15_4).f2.f0), .int .i64 ((rd_T175 l0_2 x15_4).f2.f1), .int .i64 ((rd_T175 l0_2 x15_4).f3), .bool ((rd_T175 l0_2 x15_4).f4)] 175 (0, 0)) (by (with_reducible repeat (first | refine blk_drewN ?_ _ | refine blk_drew ?_ | refine blk_alloc ?_ _)); refine blk_put (cs := #[.int .i64 ((rd_T175 l0_2 x15_4).f0), .int .i64 ((rd_T175 l0_2 x15_4).f1), .int .i64 ((rd_T175 l0_2 x15_4).f2.f0), .int .i64 ((rd_T175 l0_2 x15_4).f2.f1), .int .i64 ((rd_T175 l0_2 x15_4).f3), .bool false]) ?_ 5 _ rfl; (with_reducible repeat (first | refine blk_drewN ?_ _ | refine blk_drew ?_ | refine blk_alloc ?_ _)); refine blk_put (cs := #[.int .i64 ((rd_T175 l0_2 x15_4).f0), .int .i64 ((rd_T175 l0_2 x15_4).f1), .int .i64 ((rd_T175 l0_2 x15_4).f2.f0), .int .i64 ((rd_T175 l0_2 x15_4).f2.f1), .int .i64 0, .bool false]) ?_ 4 _ rfl; (with_reducible repeat (first | refine blk_drewN ?_ _ | refine blk_drew ?_ | refine blk_alloc ?_ _)); refine blk_put (cs := #[.int .i64 ((rd_T175 l0_2 x15_4).f0), .int .i64 ((rd_T175 l0_2 x15_4).f1), .int .i64 ((rd_T175 l0_2 x15_4).f2.f0), .int .i64 0, .int .i64 0, .bool false]) ?_ 3 _ rfl; (with_reducible repeat (first | refine blk_drewN ?_ _ | refine blk_drew ?_ | refine blk_alloc ?_ _)); refine blk_put (cs := #[.int .i64 ((rd_T175 l0_2 x15_4).f0), .int .i64 ((rd_T175 l0_2 x15_4).f1), .int .i64 0, .int .i64 0, .int .i64 0, .bool false]) ?_ 2 _ rfl; (with_reducible repeat (first | refine blk_drewN ?_ _ | refine blk_drew ?_ | refine blk_alloc ?_ _)); refine blk_put (cs := #[.int .i64 ((rd_T175 l0_2 x15_4).f0), .int .i64 0, .int .i64 0, .int .i64 0, .int .i64 0, .bool false]) ?_ 1 _ rfl; (with_reducible repeat (first | refine blk_drewN ?_ _ | refine blk_drew ?_ | refine blk_alloc ?_ _)); refine blk_put (cs := #[.int .i64 0, .int .i64 0, .int .i64 0, .int .i64 0, .int .i64 0, .bool false]) ?_ 0 _ rfl; (with_reducible repeat (first | refine blk_drewN ?_ _ | refine blk_drew ?_ | refine blk_alloc ?_ _)); exact BK155.out) hb); have n4_ := Aside0.mk (below_step (by repeat (first | (with_reducible first | exact HB.out | apply below_alloc | apply pw_below_drewN | apply below_drew1 | refine below_set ?_ GE147.out | refine below_set ?_ GE148.out | refine below_set ?_ GE155.out) | exact HB.out)) hb); clear HO_14; clear BK147; clear BK148; clear BK155; clear HB; have HO_14 := n0_; have BK147 := n1_; have BK148 := n2_; have BK155 := n3_; have HB := n4_; clear n0_ n1_ n2_ n3_ n4_; (try clear hb); (try clear hb2); (try clear hk); (try clear hi)))
                                go_meet
                                case rel => exact ⟨_, (true), (by first | rfl | (simp; done) | (simp [*]; done)), H', ⟨by have := HJ5.out; have := HJ14.out; have := HJ16.out; have := HK4.out; first | omega | exact Nat.le_refl _⟩, ⟨by (with_reducible repeat (first | apply Kd.R_alloc | apply Kd.R_drewN | apply Kd.R_drew)); exact HO_14.out⟩, ⟨by (with_reducible repeat (first | refine blk_drewN ?_ _ | refine blk_drew ?_ | refine blk_alloc ?_ _)); exact BK147.out⟩, ⟨by (with_reducible repeat (first | refine blk_drewN ?_ _ | refine blk_drew ?_ | refine blk_alloc ?_ _)); exact BK148.out⟩, ⟨by (with_reducible repeat (first | refine blk_drewN ?_ _ | refine blk_drew ?_ | refine blk_alloc ?_ _)); exact BK155.out⟩, ⟨by repeat (first | (with_reducible first | exact HB.out | apply below_alloc | apply pw_below_drewN | apply below_drew1 | refine below_set ?_ GE147.out | refine below_set ?_ GE148.out | refine below_set ?_ GE155.out) | exact HB.out)⟩⟩
                            case rest =>
                              clear HC34
                              try clear c1
                              try clear p1
                              try clear q1
                              try clear hx1
                              try clear c2
                              try clear p2
                              try clear c3
                              try clear c4
                              try clear c5
                              try clear c8
                              try clear c9
                              try clear c13
                              try clear c13b0
                              try clear c13b1
                              try clear p15
                              try clear q15
                              try clear hx15
                              try clear c16
                              try clear c18
                              try clear c18b0
                              try clear c18b1
                              try clear c20
                              try clear c23
                              try clear c23b0
                              try clear c23b1
                              try clear c25
                              try clear c25b0
                              try clear c26
                              try clear c29
                              try clear c30
                              try clear c32
                              try clear c32b0
                              try clear c33
                              try clear c33b0
                              try clear c35
                              try clear c38
                              try clear c39
                              try clear c42
                              try clear c43
                              try clear c44
                              try clear c48
                              try clear c50
                              try clear c51
                              try clear hcz10_0
                              try clear hcz10_1
                              try clear hcz10_2
                              try clear hcz11_0
                              try clear hcz11_1
                              try clear hcz11_2
                              try clear hcz21_0
                              try clear hcz21_1
                              try clear hcz21_2
                              try clear hcz27_0
                              try clear hcz27_1
                              try clear hcz27_2
                              try clear hcz31_0
                              try clear hcz31_1
                              try clear hcz31_2
                              try clear hcz36_0
                              try clear hcz36_1
                              try clear hcz36_2
                              try clear hcz40_0
                              try clear hcz40_1
                              try clear hcz40_2
                              try clear hcz40_3
                              try clear hcz40_4
                              try clear hcz40_5
                              try clear hcz45_0
                              try clear hcz45_1
                              try clear hcz45_2
                              try clear hcz45_3
                              try clear hcz45_4
                              try clear hcz45_5
                              try clear hcz47_0
                              try clear hcz47_1
                              try clear hcz47_2
                              try clear hcz47_3
                              try clear hcz47_4
                              try clear hcz47_5
                              try clear hcz49_0
                              try clear hcz49_1
                              try clear hcz49_2
                              try clear hcz52_0
                              try clear hcz52_1
                              try clear hcz52_2
                              try clear hcz52_3
                              try clear hcz52_4
                              try clear hcz52_5
                              try clear hfz10_0
                              try clear hfz10_1
                              try clear hfz10_2
                              try clear hfz11_0
                              try clear hfz11_1
                              try clear hfz11_2
                              try clear hfz21_0
                              try clear hfz21_1
                              try clear hfz21_2
                              try clear hfz27_0
                              try clear hfz27_1
                              try clear hfz27_2
                              try clear hfz31_0
                              try clear hfz31_1
                              try clear hfz31_2
                              try clear hfz36_0
                              try clear hfz36_1
                              try clear hfz36_2
                              try clear hfz40_0
                              try clear hfz40_1
                              try clear hfz40_2
                              try clear hfz40_3
                              try clear hfz40_4
                              try clear hfz40_5
                              try clear hfz45_0
                              try clear hfz45_1
                              try clear hfz45_2
                              try clear hfz45_3
                              try clear hfz45_4
                              try clear hfz45_5
                              try clear hfz47_0
                              try clear hfz47_1
                              try clear hfz47_2
                              try clear hfz47_3
                              try clear hfz47_4
                              try clear hfz47_5
                              try clear hfz49_0
                              try clear hfz49_1
                              try clear hfz49_2
                              try clear hfz52_0
                              try clear hfz52_1
                              try clear hfz52_2
                              try clear hfz52_3
                              try clear hfz52_4
                              try clear hfz52_5
                              try clear hx154_0
                              try clear hx154_1
                              try clear hx154_2
                              try clear hx154_3
                              try clear hx154_4
                              try clear hx154_5
                              try clear p154
                              try clear p2
                              try clear q154
                              obtain ⟨kq, x78_33, rfl, HA, HJ33, HO_14, BK147, BK148, BK155, HB⟩ := hcut
                              cases kq with
                              | zero => exact absurd HA.out (by simp [tidewallref08_Diagnose.j4])
                              | succ kj33 =>
                                have H := HA.out
                                clear HA
                                simp only [tidewallref08_Diagnose.j4] at H
                                by_cases c54 : x78_33 = true
                                · subst c54
                                  have H1 : (tidewallref08_Diagnose.l0 kj33 l2 a3 x14_4 (wrap64 (x15_4 + 1)) a0_0 a0_1 l0_2 a1_0 a1_1 a1_2) = some (r1, r2, r3) := by rw [if_pos rfl] at H; exact H
                                  clear H
                                  have H := H1
                                  clear H1
                                  have H' := Aside0.mk H
                                  clear H
                                  go_wp2
                                  go_roundg kj33
                                  case measure => have := HJ5.out; have := HJ14.out; have := HJ16.out; have := HK4.out; have := HJ33.out; omega
                                  case rel => exact ⟨(x14_4), (wrap64 (x15_4 + 1)), (by first | rfl | (simp; done) | (simp [*]; done)), H', ⟨by have := HJ5.out; have := HJ14.out; have := HJ16.out; have := HK4.out; have := HJ33.out; omega⟩, ⟨by (with_reducible repeat (first | apply Kd.R_alloc | apply Kd.R_drewN | apply Kd.R_drew)); exact HO_14.out⟩, ⟨by (with_reducible repeat (first | refine blk_drewN ?_ _ | refine blk_drew ?_ | refine blk_alloc ?_ _)); exact BK147.out⟩, ⟨by (with_reducible repeat (first | refine blk_drewN ?_ _ | refine blk_drew ?_ | refine blk_alloc ?_ _)); exact BK148.out⟩, ⟨by repeat (first | (with_reducible first | exact HB.out | apply below_alloc | apply pw_below_drewN | apply below_drew1 | refine below_set ?_ GE147.out | refine below_set ?_ GE148.out | refine below_set ?_ GE155.out) | exact HB.out)⟩⟩
                                · replace c54 := Bool.eq_false_iff.mpr c54
                                  subst c54
                                  have H1 : (if ((rd_T175 l0_2 x15_4).f3) < 0 then (some (([] : List Int), ([] : List Int), 14)) else (if x14_4.length < 17592186044416 then (tidewallref08_Diagnose.l0 kj33 l2 a3 (x14_4 ++ [((rd_T175 l0_2 x15_4).f3)]) (wrap64 (x15_4 + 1)) a0_0 a0_1 l0_2 a1_0 a1_1 a1_2) else (none))) = some (r1, r2, r3) := by rw [if_neg (show ¬ (false = true) by decide)] at H; exact H
                                  clear H
                                  have H := H1
                                  clear H1
                                  by_cases c55 : ((rd_T175 l0_2 x15_4).f3) < 0
                                  · rw [if_pos c55] at H
                                    have c55b0 : decide (((rd_T175 l0_2 x15_4).f3) < 0) = true := decide_eq_true c55
                                    clear c55
                                    simp only [Option.some.injEq, Prod.mk.injEq] at H
                                    obtain ⟨rfl, rfl, rfl⟩ := H
                                    have hnb56 := NB155_147.out
                                    have hnc56 := NB147_155.out
                                    have hnb57 := NB155_148.out
                                    have hnc57 := NB148_155.out
                                    have hcz58_0 : wc.cell? ⟨gb155, 0, none⟩ = some (.int .i64 ((rd_T175 l0_2 x15_4).f0)) := (blk_cell BK155.out 0).trans rfl
                                    have hcz58_1 : wc.cell? ⟨gb155, 1, none⟩ = some (.int .i64 ((rd_T175 l0_2 x15_4).f1)) := (blk_cell BK155.out 1).trans rfl
                                    have hcz58_2 : wc.cell? ⟨gb155, 2, none⟩ = some (.int .i64 ((rd_T175 l0_2 x15_4).f2.f0)) := (blk_cell BK155.out 2).trans rfl
                                    have hcz58_3 : wc.cell? ⟨gb155, 3, none⟩ = some (.int .i64 ((rd_T175 l0_2 x15_4).f2.f1)) := (blk_cell BK155.out 3).trans rfl
                                    have hcz58_4 : wc.cell? ⟨gb155, 4, none⟩ = some (.int .i64 ((rd_T175 l0_2 x15_4).f3)) := (blk_cell BK155.out 4).trans rfl
                                    have hcz58_5 : wc.cell? ⟨gb155, 5, none⟩ = some (.bool ((rd_T175 l0_2 x15_4).f4)) := (blk_cell BK155.out 5).trans rfl
                                    have hfz58_0 := blk_frozen BK155.out 0
                                    have hfz58_1 := blk_frozen BK155.out 1
                                    have hfz58_2 := blk_frozen BK155.out 2
                                    have hfz58_3 := blk_frozen BK155.out 3
                                    have hfz58_4 := blk_frozen BK155.out 4
                                    have hfz58_5 := blk_frozen BK155.out 5
                                    go_wp2
                                    go_ret3
                                    exact ⟨_, _, by first | rfl | (simp [errW_none, errW_some] <;> rfl) | (simp [*, errW_none, errW_some] <;> rfl), by first | exact Kd.R_nil _ _ _ _ _ | exact Kd.N_nil _ _ _ _ _ | exact Kd.V_nil _ _ _ _ _ | exact Kd.Q_nil _ _ _ _ _ | exact Kd.S_nil _ _ _ _ _, by first | exact Kd.R_nil _ _ _ _ _ | exact Kd.N_nil _ _ _ _ _ | exact Kd.V_nil _ _ _ _ _ | exact Kd.Q_nil _ _ _ _ _ | exact Kd.S_nil _ _ _ _ _, by repeat (first | (with_reducible first | exact HB.out | apply below_alloc | apply pw_below_drewN | apply below_drew1 | refine below_set ?_ GE147.out | refine below_set ?_ GE148.out | refine below_set ?_ GE155.out) | exact HB.out)⟩
                                  · rw [if_neg c55] at H
                                    have c55b0 : decide (((rd_T175 l0_2 x15_4).f3) < 0) = false := decide_eq_false c55
                                    clear c55
                                    by_cases c59 : x14_4.length < 17592186044416
                                    · rw [if_pos c59] at H
                                      have LMc59 := Aside0.mk c59
                                      clear c59
                                      obtain ⟨y157, hy157⟩ : ∃ y_ : List Int, y_ = (x14_4 ++ [((rd_T175 l0_2 x15_4).f3)]) := ⟨_, rfl⟩
                                      replace H : (tidewallref08_Diagnose.l0 kj33 l2 a3 y157 (wrap64 (x15_4 + 1)) a0_0 a0_1 l0_2 a1_0 a1_1 a1_2) = some (r1, r2, r3) := by first | (rw [hy157]; with_reducible exact H) | (have H2_ := (Option.bind_some _ _).symm.trans H; rw [hy157]; with_reducible exact H2_) | (have H2_ := (Option.bind_some _ _).symm.trans H; with_reducible exact H2_) | with_reducible exact H | (rw [hy157]; exact H) | exact H
                                      have Ny157 := Aside0.mk hy157
                                      clear hy157
                                      have H' := Aside0.mk H
                                      clear H
                                      have hnb60 := NB155_147.out
                                      have hnc60 := NB147_155.out
                                      have hnb61 := NB155_148.out
                                      have hnc61 := NB148_155.out
                                      have hcz62_0 : wc.cell? ⟨gb155, 0, none⟩ = some (.int .i64 ((rd_T175 l0_2 x15_4).f0)) := (blk_cell BK155.out 0).trans rfl
                                      have hcz62_1 : wc.cell? ⟨gb155, 1, none⟩ = some (.int .i64 ((rd_T175 l0_2 x15_4).f1)) := (blk_cell BK155.out 1).trans rfl
                                      have hcz62_2 : wc.cell? ⟨gb155, 2, none⟩ = some (.int .i64 ((rd_T175 l0_2 x15_4).f2.f0)) := (blk_cell BK155.out 2).trans rfl
                                      have hcz62_3 : wc.cell? ⟨gb155, 3, none⟩ = some (.int .i64 ((rd_T175 l0_2 x15_4).f2.f1)) := (blk_cell BK155.out 3).trans rfl
                                      have hcz62_4 : wc.cell? ⟨gb155, 4, none⟩ = some (.int .i64 ((rd_T175 l0_2 x15_4).f3)) := (blk_cell BK155.out 4).trans rfl
                                      have hcz62_5 : wc.cell? ⟨gb155, 5, none⟩ = some (.bool ((rd_T175 l0_2 x15_4).f4)) := (blk_cell BK155.out 5).trans rfl
                                      have hfz62_0 := blk_frozen BK155.out 0
                                      have hfz62_1 := blk_frozen BK155.out 1
                                      have hfz62_2 := blk_frozen BK155.out 2
                                      have hfz62_3 := blk_frozen BK155.out 3
                                      have hfz62_4 := blk_frozen BK155.out 4
                                      have hfz62_5 := blk_frozen BK155.out 5
                                      go_wp2_with (first | ((with_reducible refine gate_builtin (b := .append) (xs := #[.tmp 82, .tmp 85]) rfl ?_); at_builtin; refine Kd.R_append (Kd.int .i64) (w0 := w) w.heap.size rfl (.tmp 82) (.tmp 85) 33 3 (.int .i64 0) 8 rfl Try.underlying33 info3 rfl (by decide) (by omega) u14 x14_4 ((rd_T175 l0_2 x15_4).f3) [.int .i64 ((rd_T175 l0_2 x15_4).f3)] (fun _ => True) (fun _ => False) rfl rfl ?aP (fun _ hk => hk.elim) ?aF ?aO ?aB ?aS ?aL ?_; (case aP => exact rfl); (case aB => exact (by repeat (first | (with_reducible first | exact HB.out | apply below_alloc | apply pw_below_drewN | apply below_drew1 | refine below_set ?_ GE147.out | refine below_set ?_ GE148.out | refine below_set ?_ GE155.out) | exact HB.out))); (case aF => exact (fun _ _ => trivial)); (case aO => exact (by (with_reducible repeat (first | apply Kd.R_alloc | apply Kd.R_drewN | apply Kd.R_drew)); exact HO_14.out)); (case aS => exact (below_size (by repeat (first | (with_reducible first | exact HB.out | apply below_alloc | apply pw_below_drewN | apply below_drew1 | refine below_set ?_ GE147.out | refine below_set ?_ GE148.out | refine below_set ?_ GE155.out) | exact HB.out)))); (case aL => have := LMc59.out; omega); intro v158 w63 ho hb hg hat; rw [← Ny157.out] at ho; have n0_ := Aside0.mk (blk_grown (g := gb147) (o := .cells #[.int .i64 a0_0, .int .i64 a0_1, .slice (some ad154) l0_2.length c0_2] 77 (0, 0)) (by (with_reducible repeat (first | refine blk_drewN ?_ _ | refine blk_drew ?_ | refine blk_alloc ?_ _)); exact BK147.out) hg (Kd.R_ne HO_14.out BK147.out (by decide))); have n1_ := Aside0.mk (blk_grown (g := gb148) (o := .cells #[.int .i64 a1_0, .int .i64 a1_1, .int .i64 a1_2] 79 (0, 0)) (by (with_reducible repeat (first | refine blk_drewN ?_ _ | refine blk_drew ?_ | refine blk_alloc ?_ _)); exact BK148.out) hg (Kd.R_ne HO_14.out BK148.out (by decide))); have n2_ := Aside0.mk (blk_grown (g := gb155) (o := .cells #[.int .i64 ((rd_T175 l0_2 x15_4).f0), .int .i64 ((rd_T175 l0_2 x15_4).f1), .int .i64 ((rd_T175 l0_2 x15_4).f2.f0), .int .i64 ((rd_T175 l0_2 x15_4).f2.f1), .int .i64 ((rd_T175 l0_2 x15_4).f3), .bool ((rd_T175 l0_2 x15_4).f4)] 175 (0, 0)) (by (with_reducible repeat (first | refine blk_drewN ?_ _ | refine blk_drew ?_ | refine blk_alloc ?_ _)); exact BK155.out) hg (Kd.R_ne HO_14.out BK155.out (by decide))); have n3_ := Aside0.mk (hb); have n4_ := Aside0.mk (ho); clear BK147; clear BK148; clear BK155; clear HB; clear HO_14; have BK147 := n0_; have BK148 := n1_; have BK155 := n2_; have HB := n3_; have HO159 := n4_; clear n0_ n1_ n2_ n3_ n4_; clear ho hb hg hat))
                                      go_roundg kj33
                                      case measure => have := HJ5.out; have := HJ14.out; have := HJ16.out; have := HK4.out; have := HJ33.out; omega
                                      case rel => exact ⟨(y157), (wrap64 (x15_4 + 1)), (by first | rfl | (simp; done) | (simp [*]; done)), H', ⟨by have := HJ5.out; have := HJ14.out; have := HJ16.out; have := HK4.out; have := HJ33.out; omega⟩, ⟨by (with_reducible repeat (first | apply Kd.R_alloc | apply Kd.R_drewN | apply Kd.R_drew)); exact HO159.out⟩, ⟨by (with_reducible repeat (first | refine blk_drewN ?_ _ | refine blk_drew ?_ | refine blk_alloc ?_ _)); exact BK147.out⟩, ⟨by (with_reducible repeat (first | refine blk_drewN ?_ _ | refine blk_drew ?_ | refine blk_alloc ?_ _)); exact BK148.out⟩, ⟨by repeat (first | (with_reducible first | exact HB.out | apply below_alloc | apply pw_below_drewN | apply below_drew1 | refine below_set ?_ GE147.out | refine below_set ?_ GE148.out | refine below_set ?_ GE155.out) | exact HB.out)⟩⟩
                                    · rw [if_neg c59] at H
                                      exact absurd H (by simp)
                          · rw [if_neg c33] at H
                            exact absurd H (by simp)
                        · rw [if_neg c32] at H
                          have c32b0 : decide (x15_4 < (l0_2.length : Int)) = false := decide_eq_false c32
                          clear c32
                          have H' := Aside0.mk H
                          clear H
                          have hnb64 := NB147_148.out
                          have hnc64 := NB148_147.out
                          have hcz65_0 : wr.cell? ⟨gb147, 0, none⟩ = some (.int .i64 a0_0) := (blk_cell BK147.out 0).trans rfl
                          have hcz65_1 : wr.cell? ⟨gb147, 1, none⟩ = some (.int .i64 a0_1) := (blk_cell BK147.out 1).trans rfl
                          have hcz65_2 : wr.cell? ⟨gb147, 2, none⟩ = some (.slice A0_2 l0_2.length c0_2) := (blk_cell BK147.out 2).trans rfl
                          have hfz65_0 := blk_frozen BK147.out 0
                          have hfz65_1 := blk_frozen BK147.out 1
                          have hfz65_2 := blk_frozen BK147.out 2
                          go_wp2
                          go_loopg [13, 17] k4 (fun kq v13 v17 w' => ∃ (x13_5 : List Int) (x17_5 : Int), v17 = .int .i64 x17_5 ∧ Aside0 (tidewallref08_Diagnose.l1 kq l2 x13_5 x14_4 x17_5 a0_0 a0_1 l0_2 a1_0 a1_1 a1_2 = some (r1, r2, r3)) ∧ Aside0 (kq ≤ k4) ∧ Aside0 (Kd.R (Kd.int .i64) 3 w' w.heap.size (fun k_ => some k_ ≠ (u14 : Value).ownBlock) v13 x13_5) ∧ Aside0 (Kd.R (Kd.int .i64) 3 w' w.heap.size (fun k_ => some k_ ≠ (v13 : Value).ownBlock) u14 x14_4) ∧ Aside0 (w'.heap[gb147]? = some (.cells #[.int .i64 a0_0, .int .i64 a0_1, (.slice A0_2 l0_2.length c0_2)] 77 (0, 0))) ∧ Aside0 (w'.heap[gb148]? = some (.cells #[.int .i64 a1_0, .int .i64 a1_1, .int .i64 a1_2] 79 (0, 0))) ∧ Aside0 (Below w.heap.size w w'))
                          case atStart => exact ⟨(([] : List Int)), (0), (by first | rfl | (simp; done) | (simp [*]; done)), H', ⟨Nat.le_refl _⟩, ⟨by first | exact Kd.R_nil _ _ _ _ _ | exact Kd.N_nil _ _ _ _ _ | exact Kd.V_nil _ _ _ _ _ | exact Kd.Q_nil _ _ _ _ _ | exact Kd.S_nil _ _ _ _ _⟩, ⟨by (with_reducible repeat (first | apply Kd.R_alloc | apply Kd.R_drewN | apply Kd.R_drew)); exact Kd.R_mono HO_14.out (fun _ hk => (by simp [Value.ownBlock]))⟩, ⟨by (with_reducible repeat (first | refine blk_drewN ?_ _ | refine blk_drew ?_ | refine blk_alloc ?_ _)); exact BK147.out⟩, ⟨by (with_reducible repeat (first | refine blk_drewN ?_ _ | refine blk_drew ?_ | refine blk_alloc ?_ _)); exact BK148.out⟩, ⟨by repeat (first | (with_reducible first | exact HB.out | apply below_alloc | apply pw_below_drewN | apply below_drew1 | refine below_set ?_ GE147.out | refine below_set ?_ GE148.out) | exact HB.out)⟩⟩
                          case round =>
                            clear H'
                            try clear c1
                            try clear p1
                            try clear q1
                            try clear hx1
                            try clear c2
                            try clear p2
                            try clear c3
                            try clear c4
                            try clear c5
                            try clear c6
                            try clear p6
                            try clear c8
                            try clear c9
                            try clear c13
                            try clear c13b0
                            try clear c13b1
                            try clear p15
                            try clear q15
                            try clear hx15
                            try clear c16
                            try clear c18
                            try clear c18b0
                            try clear c18b1
                            try clear c20
                            try clear c23
                            try clear c23b0
                            try clear c23b1
                            try clear c25
                            try clear c25b0
                            try clear c26
                            try clear c29
                            try clear c30
                            try clear c32
                            try clear c32b0
                            try clear c33
                            try clear c33b0
                            try clear c35
                            try clear c38
                            try clear c39
                            try clear c42
                            try clear c43
                            try clear c44
                            try clear c48
                            try clear c50
                            try clear c51
                            try clear c54
                            try clear c55
                            try clear c55b0
                            try clear c56
                            try clear c57
                            try clear c59
                            try clear c60
                            try clear c61
                            try clear c64
                            try clear p64
                            try clear hcz10_0
                            try clear hcz10_1
                            try clear hcz10_2
                            try clear hcz11_0
                            try clear hcz11_1
                            try clear hcz11_2
                            try clear hcz21_0
                            try clear hcz21_1
                            try clear hcz21_2
                            try clear hcz27_0
                            try clear hcz27_1
                            try clear hcz27_2
                            try clear hcz31_0
                            try clear hcz31_1
                            try clear hcz31_2
                            try clear hcz36_0
                            try clear hcz36_1
                            try clear hcz36_2
                            try clear hcz40_0
                            try clear hcz40_1
                            try clear hcz40_2
                            try clear hcz40_3
                            try clear hcz40_4
                            try clear hcz40_5
                            try clear hcz45_0
                            try clear hcz45_1
                            try clear hcz45_2
                            try clear hcz45_3
                            try clear hcz45_4
                            try clear hcz45_5
                            try clear hcz47_0
                            try clear hcz47_1
                            try clear hcz47_2
                            try clear hcz47_3
                            try clear hcz47_4
                            try clear hcz47_5
                            try clear hcz49_0
                            try clear hcz49_1
                            try clear hcz49_2
                            try clear hcz52_0
                            try clear hcz52_1
                            try clear hcz52_2
                            try clear hcz52_3
                            try clear hcz52_4
                            try clear hcz52_5
                            try clear hcz58_0
                            try clear hcz58_1
                            try clear hcz58_2
                            try clear hcz58_3
                            try clear hcz58_4
                            try clear hcz58_5
                            try clear hcz62_0
                            try clear hcz62_1
                            try clear hcz62_2
                            try clear hcz62_3
                            try clear hcz62_4
                            try clear hcz62_5
                            try clear hcz65_0
                            try clear hcz65_1
                            try clear hcz65_2
                            try clear hfz10_0
                            try clear hfz10_1
                            try clear hfz10_2
                            try clear hfz11_0
                            try clear hfz11_1
                            try clear hfz11_2
                            try clear hfz21_0
                            try clear hfz21_1
                            try clear hfz21_2
                            try clear hfz27_0
                            try clear hfz27_1
                            try clear hfz27_2
                            try clear hfz31_0
                            try clear hfz31_1
                            try clear hfz31_2
                            try clear hfz36_0
                            try clear hfz36_1
                            try clear hfz36_2
                            try clear hfz40_0
                            try clear hfz40_1
                            try clear hfz40_2
                            try clear hfz40_3
                            try clear hfz40_4
                            try clear hfz40_5
                            try clear hfz45_0
                            try clear hfz45_1
                            try clear hfz45_2
                            try clear hfz45_3
                            try clear hfz45_4
                            try clear hfz45_5
                            try clear hfz47_0
                            try clear hfz47_1
                            try clear hfz47_2
                            try clear hfz47_3
                            try clear hfz47_4
                            try clear hfz47_5
                            try clear hfz49_0
                            try clear hfz49_1
                            try clear hfz49_2
                            try clear hfz52_0
                            try clear hfz52_1
                            try clear hfz52_2
                            try clear hfz52_3
                            try clear hfz52_4
                            try clear hfz52_5
                            try clear hfz58_0
                            try clear hfz58_1
                            try clear hfz58_2
                            try clear hfz58_3
                            try clear hfz58_4
                            try clear hfz58_5
                            try clear hfz62_0
                            try clear hfz62_1
                            try clear hfz62_2
                            try clear hfz62_3
                            try clear hfz62_4
                            try clear hfz62_5
                            try clear hfz65_0
                            try clear hfz65_1
                            try clear hfz65_2
                            try clear hx154_0
                            try clear hx154_1
                            try clear hx154_2
                            try clear hx154_3
                            try clear hx154_4
                            try clear hx154_5
                            try clear p1
                            try clear p15
                            try clear p154
                            try clear p2
                            try clear q1
                            try clear q15
                            try clear q154
                            obtain ⟨x13_5, x17_5, rfl, HA, HK5, HO_13, HO_14, BK147, BK148, HB⟩ := hrel
                            cases gk with
                            | zero => exact absurd HA.out (by simp [tidewallref08_Diagnose.l1])
                            | succ k5 =>
                              have H := HA.out
                              clear HA
                              simp only [tidewallref08_Diagnose.l1] at H
                              by_cases c66 : x17_5 < (l2.length : Int)
                              · rw [if_pos c66] at H
                                have c66b0 : decide (x17_5 < (l2.length : Int)) = true := decide_eq_true c66
                                clear c66
                                by_cases c67 : 0 ≤ x17_5
                                · rw [if_pos c67] at H
                                  have c67b0 : decide (0 ≤ x17_5) = true := decide_eq_true c67
                                  clear c67
                                  by_cases c68 : ((rd_T70 l2 x17_5).f0) = a1_0
                                  · rw [if_pos c68] at H
                                    have c68b0 : (((rd_T70 l2 x17_5).f0) == a1_0) = true := beq_iff_eq.mpr c68
                                    have c68b1 : (((rd_T70 l2 x17_5).f0) != a1_0) = false := bne_eq_false_iff_eq.mpr c68
                                    clear c68
                                    have H' := Aside0.mk H
                                    clear H
                                    try go_wp2
                                    have n0_ := Aside0.mk (Kd.R_drew HO_13.out)
                                    have n1_ := Aside0.mk (Kd.R_drew HO_14.out)
                                    have n2_ := Aside0.mk (blk_drew BK147.out)
                                    have n3_ := Aside0.mk (blk_drew BK148.out)
                                    have n4_ := Aside0.mk (below_drew1 HB.out)
                                    clear HO_13
                                    clear HO_14
                                    clear BK147
                                    clear BK148
                                    clear HB
                                    have HO_13 := n0_
                                    have HO_14 := n1_
                                    have BK147 := n2_
                                    have BK148 := n3_
                                    have HB := n4_
                                    clear n0_ n1_ n2_ n3_ n4_
                                    have p166 : 0 ≤ (x17_5 : Int) := of_decide_eq_true (by first | (with_reducible assumption) | assumption)
                                    have q166 : x17_5 < (l2.length : Int) := of_decide_eq_true (by first | (with_reducible assumption) | assumption)
                                    obtain ⟨ad166, e166, hx166_0, hx166_1⟩ := at_T70 HR2.out x17_5 p166 q166
                                    have hw166_1 := hx166_1
                                    have hw166_0 := hx166_0
                                    cases e166
                                    replace hx166_0 := (HB.out.cell (World.block_lt_of_cell? w _ hx166_0)).trans hx166_0
                                    replace hx166_1 := (HB.out.cell (World.block_lt_of_cell? w _ hx166_1)).trans hx166_1
                                    replace p166 := eq_true p166
                                    replace q166 := eq_true q166
                                    refine start_ (n := 8) (S := fun w' => w'.cell? ⟨gb148, 0, none⟩ = some (.int .i64 a1_0) ∧ w'.cell? ⟨gb148, 1, none⟩ = some (.int .i64 a1_1) ∧ w'.cell? ⟨gb148, 2, none⟩ = some (.int .i64 a1_2) ∧ w'.cell? (ad166.add ((x17_5).toNat * 2)) = some (.int .i64 ((rd_T70 l2 x17_5).f0)) ∧ w'.cell? ⟨(ad166.add ((x17_5).toNat * 2)).block, (ad166.add ((x17_5).toNat * 2)).off + 1, none⟩ = some (.int .i64 ((rd_T70 l2 x17_5).f1))) (ds := []) #[false, false, false, false, false, false, false, false] (by kernel_rfl) rfl rfl ⟨(blk_cell BK148.out 0).trans rfl, (blk_cell BK148.out 1).trans rfl, (blk_cell BK148.out 2).trans rfl, ((HB.out.cell (World.block_lt_of_cell? w _ hw166_0)).trans hw166_0), ((HB.out.cell (World.block_lt_of_cell? w _ hw166_1)).trans hw166_1)⟩ (fun hHeld => ?_); refine with_tabW tidewallref08_Diagnose.tab25 tidewallref08_Diagnose.bits25 (fun HT_ HW_ => ?_)
                                    generalize wr.drew = w69 at HO_13 HO_14 BK147 BK148 HB hx166_0 hx166_1 hHeld ⊢
                                    refine pure_ (i := 0) (N := some 93) (v := ?_) (a' := ?_) #[true, false, false, false, false, false, false, false] rfl rfl (any_of HT_.out (by kernel_rfl)) (fun _ _ _ h => h) (Or.inl ⟨by rfl, ?_⟩) ?_ ?_
                                    rotate_left
                                    · intro w'
                                      go_simp
                                      with_reducible rfl
                                    rotate_left
                                    · simp only [Act.put, List.setIfInBounds_toArray, List.set_cons_zero, List.set_cons_succ, i64_w, i32_w]
                                      rfl
                                    refine pure_ (i := 1) (N := some 94) (v := ?_) (a' := ?_) #[true, true, false, false, false, false, false, false] rfl rfl (any_of HT_.out (by kernel_rfl)) (fun _ _ _ h => h) (Or.inl ⟨by rfl, ?_⟩) ?_ ?_
                                    rotate_left
                                    · intro w'
                                      go_simp
                                      with_reducible rfl
                                    rotate_left
                                    · simp only [Act.put, List.setIfInBounds_toArray, List.set_cons_zero, List.set_cons_succ, i64_w, i32_w]
                                      rfl
                                    refine pure_ (i := 2) (N := some 95) (v := ?_) (a' := ?_) #[true, true, true, false, false, false, false, false] rfl rfl (any_of HT_.out (by kernel_rfl)) (fun _ _ _ h => h) (Or.inl ⟨by rfl, ?_⟩) ?_ ?_
                                    rotate_left
                                    · intro w'
                                      go_simp
                                      with_reducible rfl
                                    rotate_left
                                    · simp only [Act.put, List.setIfInBounds_toArray, List.set_cons_zero, List.set_cons_succ, i64_w, i32_w]
                                      rfl
                                    refine pure_ (i := 3) (N := some 96) (v := ?_) (a' := ?_) #[true, true, true, true, false, false, false, false] rfl rfl (any_of HT_.out (by kernel_rfl)) (fun _ _ _ h => h) (Or.inl ⟨by rfl, ?_⟩) ?_ ?_
                                    rotate_left
                                    · intro w'
                                      go_simp
                                      with_reducible rfl
                                    rotate_left
                                    · simp only [Act.put, List.setIfInBounds_toArray, List.set_cons_zero, List.set_cons_succ, i64_w, i32_w]
                                      rfl
                                    refine pure_ (i := 5) (N := some 98) (v := ?_) (a' := ?_) #[true, true, true, true, false, true, false, false] rfl rfl (any_of HT_.out (by kernel_rfl)) (fun _ _ _ h => h) (Or.inl ⟨by rfl, ?_⟩) ?_ ?_
                                    rotate_left
                                    · intro w'
                                      go_simp
                                      with_reducible rfl
                                    rotate_left
                                    · simp only [Act.put, List.setIfInBounds_toArray, List.set_cons_zero, List.set_cons_succ, i64_w, i32_w]
                                      rfl
                                    refine take_ (i := 4) (N := some 97) (v := ?_) (a' := ?_) #[true, true, true, true, true, true, false, false] rfl rfl (take_ofW HT_.out HW_.out (by kernel_rfl)) (fun _ _ _ h => h) (Or.inl ⟨by rfl, ?_⟩) hHeld ?_ ?_
                                    rotate_left
                                    · rintro w' ⟨s0, s1, s2, s3, s4⟩
                                      go_simp
                                      with_reducible rfl
                                    rotate_left
                                    · simp only [Act.put, List.setIfInBounds_toArray, List.set_cons_zero, List.set_cons_succ, i64_w, i32_w]
                                      rfl
                                    refine take_ (i := 6) (N := some 99) (v := ?_) (a' := ?_) #[true, true, true, true, true, true, true, false] rfl rfl (take_ofW HT_.out HW_.out (by kernel_rfl)) (fun _ _ _ h => h) (Or.inl ⟨by rfl, ?_⟩) hHeld ?_ ?_
                                    rotate_left
                                    · rintro w' ⟨s0, s1, s2, s3, s4⟩
                                      go_simp
                                      with_reducible rfl
                                    rotate_left
                                    · simp only [Act.put, List.setIfInBounds_toArray, List.set_cons_zero, List.set_cons_succ, i64_w, i32_w]
                                      rfl
                                    refine pure_ (i := 7) (N := some 100) (v := ?_) (a' := ?_) #[true, true, true, true, true, true, true, true] rfl rfl (any_of HT_.out (by kernel_rfl)) (fun _ _ _ h => h) (Or.inl ⟨by rfl, ?_⟩) ?_ ?_
                                    rotate_left
                                    · intro w'
                                      go_simp
                                      with_reducible rfl
                                    rotate_left
                                    · simp only [Act.put, List.setIfInBounds_toArray, List.set_cons_zero, List.set_cons_succ, i64_w, i32_w]
                                      rfl
                                    refine done_ (done_of HT_.out (by kernel_rfl)) ?_
                                    try go_wp2
                                    go_roundg k5
                                    case measure => have := HJ5.out; have := HJ14.out; have := HJ16.out; have := HK4.out; have := HK5.out; omega
                                    case rel => exact ⟨(x13_5), (wrap64 (x17_5 + 1)), (by first | rfl | (simp; done) | (simp [*]; done)), H', ⟨by have := HJ5.out; have := HJ14.out; have := HJ16.out; have := HK4.out; have := HK5.out; omega⟩, ⟨by (with_reducible repeat (first | apply Kd.R_alloc | apply Kd.R_drewN | apply Kd.R_drew)); exact HO_13.out⟩, ⟨by (with_reducible repeat (first | apply Kd.R_alloc | apply Kd.R_drewN | apply Kd.R_drew)); exact HO_14.out⟩, ⟨by (with_reducible repeat (first | refine blk_drewN ?_ _ | refine blk_drew ?_ | refine blk_alloc ?_ _)); exact BK147.out⟩, ⟨by (with_reducible repeat (first | refine blk_drewN ?_ _ | refine blk_drew ?_ | refine blk_alloc ?_ _)); exact BK148.out⟩, ⟨by repeat (first | (with_reducible first | exact HB.out | apply below_alloc | apply pw_below_drewN | apply below_drew1 | refine below_set ?_ GE147.out | refine below_set ?_ GE148.out) | exact HB.out)⟩⟩
                                  · rw [if_neg c68] at H
                                    have c68b0 : (((rd_T70 l2 x17_5).f0) == a1_0) = false := beq_eq_false_iff_ne.mpr c68
                                    have c68b1 : (((rd_T70 l2 x17_5).f0) != a1_0) = true := bne_iff_ne.mpr c68
                                    replace H := Option.bind_eq_some_iff.mp H
                                    obtain ⟨t168, A700, H⟩ := H
                                    replace H : (if (t168.length : Int) = 0 then (some (([] : List Int), ([] : List Int), 14)) else (tidewallref08_Diagnose.l2 k5 l2 x13_5 x14_4 x17_5 t168 true 0 a0_0 a0_1 l0_2 a1_0 a1_1 a1_2)) = some (r1, r2, r3) := H
                                    have A70 := Aside0.mk A700
                                    clear A700
                                    by_cases c71 : (t168.length : Int) = 0
                                    · rw [if_pos c71] at H
                                      have c71b0 : ((t168.length : Int) == 0) = true := beq_iff_eq.mpr c71
                                      have c71b1 : ((t168.length : Int) != 0) = false := bne_eq_false_iff_eq.mpr c71
                                      clear c71
                                      simp only [Option.some.injEq, Prod.mk.injEq] at H
                                      obtain ⟨rfl, rfl, rfl⟩ := H
                                      try go_wp2
                                      have n0_ := Aside0.mk (Kd.R_drew HO_13.out)
                                      have n1_ := Aside0.mk (Kd.R_drew HO_14.out)
                                      have n2_ := Aside0.mk (blk_drew BK147.out)
                                      have n3_ := Aside0.mk (blk_drew BK148.out)
                                      have n4_ := Aside0.mk (below_drew1 HB.out)
                                      clear HO_13
                                      clear HO_14
                                      clear BK147
                                      clear BK148
                                      clear HB
                                      have HO_13 := n0_
                                      have HO_14 := n1_
                                      have BK147 := n2_
                                      have BK148 := n3_
                                      have HB := n4_
                                      clear n0_ n1_ n2_ n3_ n4_
                                      have p166 : 0 ≤ (x17_5 : Int) := of_decide_eq_true (by first | (with_reducible assumption) | assumption)
                                      have q166 : x17_5 < (l2.length : Int) := of_decide_eq_true (by first | (with_reducible assumption) | assumption)
                                      obtain ⟨ad166, e166, hx166_0, hx166_1⟩ := at_T70 HR2.out x17_5 p166 q166
                                      have hw166_1 := hx166_1
                                      have hw166_0 := hx166_0
                                      cases e166
                                      replace hx166_0 := (HB.out.cell (World.block_lt_of_cell? w _ hx166_0)).trans hx166_0
                                      replace hx166_1 := (HB.out.cell (World.block_lt_of_cell? w _ hx166_1)).trans hx166_1
                                      replace p166 := eq_true p166
                                      replace q166 := eq_true q166
                                      refine start_ (n := 8) (S := fun w' => w'.cell? ⟨gb148, 0, none⟩ = some (.int .i64 a1_0) ∧ w'.cell? ⟨gb148, 1, none⟩ = some (.int .i64 a1_1) ∧ w'.cell? ⟨gb148, 2, none⟩ = some (.int .i64 a1_2) ∧ w'.cell? (ad166.add ((x17_5).toNat * 2)) = some (.int .i64 ((rd_T70 l2 x17_5).f0)) ∧ w'.cell? ⟨(ad166.add ((x17_5).toNat * 2)).block, (ad166.add ((x17_5).toNat * 2)).off + 1, none⟩ = some (.int .i64 ((rd_T70 l2 x17_5).f1))) (ds := []) #[false, false, false, false, false, false, false, false] (by kernel_rfl) rfl rfl ⟨(blk_cell BK148.out 0).trans rfl, (blk_cell BK148.out 1).trans rfl, (blk_cell BK148.out 2).trans rfl, ((HB.out.cell (World.block_lt_of_cell? w _ hw166_0)).trans hw166_0), ((HB.out.cell (World.block_lt_of_cell? w _ hw166_1)).trans hw166_1)⟩ (fun hHeld => ?_); refine with_tabW tidewallref08_Diagnose.tab25 tidewallref08_Diagnose.bits25 (fun HT_ HW_ => ?_)
                                      generalize wr.drew = w72 at HO_13 HO_14 BK147 BK148 HB hx166_0 hx166_1 hHeld ⊢
                                      refine pure_ (i := 0) (N := some 93) (v := ?_) (a' := ?_) #[true, false, false, false, false, false, false, false] rfl rfl (any_of HT_.out (by kernel_rfl)) (fun _ _ _ h => h) (Or.inl ⟨by rfl, ?_⟩) ?_ ?_
                                      rotate_left
                                      · intro w'
                                        go_simp
                                        with_reducible rfl
                                      rotate_left
                                      · simp only [Act.put, List.setIfInBounds_toArray, List.set_cons_zero, List.set_cons_succ, i64_w, i32_w]
                                        rfl
                                      refine pure_ (i := 1) (N := some 94) (v := ?_) (a' := ?_) #[true, true, false, false, false, false, false, false] rfl rfl (any_of HT_.out (by kernel_rfl)) (fun _ _ _ h => h) (Or.inl ⟨by rfl, ?_⟩) ?_ ?_
                                      rotate_left
                                      · intro w'
                                        go_simp
                                        with_reducible rfl
                                      rotate_left
                                      · simp only [Act.put, List.setIfInBounds_toArray, List.set_cons_zero, List.set_cons_succ, i64_w, i32_w]
                                        rfl
                                      refine pure_ (i := 2) (N := some 95) (v := ?_) (a' := ?_) #[true, true, true, false, false, false, false, false] rfl rfl (any_of HT_.out (by kernel_rfl)) (fun _ _ _ h => h) (Or.inl ⟨by rfl, ?_⟩) ?_ ?_
                                      rotate_left
                                      · intro w'
                                        go_simp
                                        with_reducible rfl
                                      rotate_left
                                      · simp only [Act.put, List.setIfInBounds_toArray, List.set_cons_zero, List.set_cons_succ, i64_w, i32_w]
                                        rfl
                                      refine pure_ (i := 3) (N := some 96) (v := ?_) (a' := ?_) #[true, true, true, true, false, false, false, false] rfl rfl (any_of HT_.out (by kernel_rfl)) (fun _ _ _ h => h) (Or.inl ⟨by rfl, ?_⟩) ?_ ?_
                                      rotate_left
                                      · intro w'
                                        go_simp
                                        with_reducible rfl
                                      rotate_left
                                      · simp only [Act.put, List.setIfInBounds_toArray, List.set_cons_zero, List.set_cons_succ, i64_w, i32_w]
                                        rfl
                                      refine pure_ (i := 5) (N := some 98) (v := ?_) (a' := ?_) #[true, true, true, true, false, true, false, false] rfl rfl (any_of HT_.out (by kernel_rfl)) (fun _ _ _ h => h) (Or.inl ⟨by rfl, ?_⟩) ?_ ?_
                                      rotate_left
                                      · intro w'
                                        go_simp
                                        with_reducible rfl
                                      rotate_left
                                      · simp only [Act.put, List.setIfInBounds_toArray, List.set_cons_zero, List.set_cons_succ, i64_w, i32_w]
                                        rfl
                                      refine take_ (i := 4) (N := some 97) (v := ?_) (a' := ?_) #[true, true, true, true, true, true, false, false] rfl rfl (take_ofW HT_.out HW_.out (by kernel_rfl)) (fun _ _ _ h => h) (Or.inl ⟨by rfl, ?_⟩) hHeld ?_ ?_
                                      rotate_left
                                      · rintro w' ⟨s0, s1, s2, s3, s4⟩
                                        go_simp
                                        with_reducible rfl
                                      rotate_left
                                      · simp only [Act.put, List.setIfInBounds_toArray, List.set_cons_zero, List.set_cons_succ, i64_w, i32_w]
                                        rfl
                                      refine take_ (i := 6) (N := some 99) (v := ?_) (a' := ?_) #[true, true, true, true, true, true, true, false] rfl rfl (take_ofW HT_.out HW_.out (by kernel_rfl)) (fun _ _ _ h => h) (Or.inl ⟨by rfl, ?_⟩) hHeld ?_ ?_
                                      rotate_left
                                      · rintro w' ⟨s0, s1, s2, s3, s4⟩
                                        go_simp
                                        with_reducible rfl
                                      rotate_left
                                      · simp only [Act.put, List.setIfInBounds_toArray, List.set_cons_zero, List.set_cons_succ, i64_w, i32_w]
                                        rfl
                                      refine pure_ (i := 7) (N := some 100) (v := ?_) (a' := ?_) #[true, true, true, true, true, true, true, true] rfl rfl (any_of HT_.out (by kernel_rfl)) (fun _ _ _ h => h) (Or.inl ⟨by rfl, ?_⟩) ?_ ?_
                                      rotate_left
                                      · intro w'
                                        go_simp
                                        with_reducible rfl
                                      rotate_left
                                      · simp only [Act.put, List.setIfInBounds_toArray, List.set_cons_zero, List.set_cons_succ, i64_w, i32_w]
                                        rfl
                                      refine done_ (done_of HT_.out (by kernel_rfl)) ?_
                                      try go_wp2
                                      have n0_ := Aside0.mk (Kd.R_drew HO_13.out)
                                      have n1_ := Aside0.mk (Kd.R_drew HO_14.out)
                                      have n2_ := Aside0.mk (blk_drew BK147.out)
                                      have n3_ := Aside0.mk (blk_drew BK148.out)
                                      have n4_ := Aside0.mk (below_drew1 HB.out)
                                      clear HO_13
                                      clear HO_14
                                      clear BK147
                                      clear BK148
                                      clear HB
                                      have HO_13 := n0_
                                      have HO_14 := n1_
                                      have BK147 := n2_
                                      have BK148 := n3_
                                      have HB := n4_
                                      clear n0_ n1_ n2_ n3_ n4_
                                      have p167 : 0 ≤ (x17_5 : Int) := of_decide_eq_true (by first | (with_reducible assumption) | assumption)
                                      have q167 : x17_5 < (l2.length : Int) := of_decide_eq_true (by first | (with_reducible assumption) | assumption)
                                      obtain ⟨ad167, e167, hx167_0, hx167_1⟩ := at_T70 HR2.out x17_5 p167 q167
                                      have hw167_1 := hx167_1
                                      have hw167_0 := hx167_0
                                      obtain rfl : ad166 = ad167 := (by injection e167)
                                      replace hx167_0 := (HB.out.cell (World.block_lt_of_cell? w _ hx167_0)).trans hx167_0
                                      replace hx167_1 := (HB.out.cell (World.block_lt_of_cell? w _ hx167_1)).trans hx167_1
                                      replace p167 := eq_true p167
                                      replace q167 := eq_true q167
                                      obtain ⟨Ao74, co74, eo74⟩ := Kd.R_slice HO_14.out
                                      (first | subst eo74 | (injection eo74 with f1_ f2_ f3_; have f4_ := f1_.symm; have f5_ := f3_.symm; clear f1_ f2_ f3_; subst f4_; subst f5_))
                                      refine start_ (n := 9) (S := fun w' => w'.cell? ⟨gb147, 0, none⟩ = some (.int .i64 a0_0) ∧ w'.cell? ⟨gb147, 1, none⟩ = some (.int .i64 a0_1) ∧ w'.cell? ⟨gb147, 2, none⟩ = some (.slice A0_2 l0_2.length c0_2) ∧ w'.cell? (ad166.add ((x17_5).toNat * 2)) = some (.int .i64 ((rd_T70 l2 x17_5).f0)) ∧ w'.cell? ⟨(ad166.add ((x17_5).toNat * 2)).block, (ad166.add ((x17_5).toNat * 2)).off + 1, none⟩ = some (.int .i64 ((rd_T70 l2 x17_5).f1))) (ds := []) #[false, false, false, false, false, false, false, false, false] (by kernel_rfl) rfl rfl ⟨(blk_cell BK147.out 0).trans rfl, (blk_cell BK147.out 1).trans rfl, (blk_cell BK147.out 2).trans rfl, ((HB.out.cell (World.block_lt_of_cell? w _ hw167_0)).trans hw167_0), ((HB.out.cell (World.block_lt_of_cell? w _ hw167_1)).trans hw167_1)⟩ (fun hHeld => ?_); refine with_tabW tidewallref08_Diagnose.tab26 tidewallref08_Diagnose.bits26 (fun HT_ HW_ => ?_)
                                      generalize w72.drew = w73 at HO_13 HO_14 BK147 BK148 HB hx167_0 hx167_1 hHeld ⊢
                                      refine pure_ (i := 1) (N := some 102) (v := ?_) (a' := ?_) #[false, true, false, false, false, false, false, false, false] rfl rfl (any_of HT_.out (by kernel_rfl)) (fun _ _ _ h => h) (Or.inl ⟨by rfl, ?_⟩) ?_ ?_
                                      rotate_left
                                      · intro w'
                                        go_simp
                                        with_reducible rfl
                                      rotate_left
                                      · simp only [Act.put, List.setIfInBounds_toArray, List.set_cons_zero, List.set_cons_succ, i64_w, i32_w]
                                        rfl
                                      refine pure_ (i := 2) (N := some 103) (v := ?_) (a' := ?_) #[false, true, true, false, false, false, false, false, false] rfl rfl (any_of HT_.out (by kernel_rfl)) (fun _ _ _ h => h) (Or.inl ⟨by rfl, ?_⟩) ?_ ?_
                                      rotate_left
                                      · intro w'
                                        go_simp
                                        with_reducible rfl
                                      rotate_left
                                      · simp only [Act.put, List.setIfInBounds_toArray, List.set_cons_zero, List.set_cons_succ, i64_w, i32_w]
                                        rfl
                                      refine pure_ (i := 3) (N := some 104) (v := ?_) (a' := ?_) #[false, true, true, true, false, false, false, false, false] rfl rfl (any_of HT_.out (by kernel_rfl)) (fun _ _ _ h => h) (Or.inl ⟨by rfl, ?_⟩) ?_ ?_
                                      rotate_left
                                      · intro w'
                                        go_simp
                                        with_reducible rfl
                                      rotate_left
                                      · simp only [Act.put, List.setIfInBounds_toArray, List.set_cons_zero, List.set_cons_succ, i64_w, i32_w]
                                        rfl
                                      refine pure_ (i := 4) (N := some 105) (v := ?_) (a' := ?_) #[false, true, true, true, true, false, false, false, false] rfl rfl (any_of HT_.out (by kernel_rfl)) (fun _ _ _ h => h) (Or.inl ⟨by rfl, ?_⟩) ?_ ?_
                                      rotate_left
                                      · intro w'
                                        go_simp
                                        with_reducible rfl
                                      rotate_left
                                      · simp only [Act.put, List.setIfInBounds_toArray, List.set_cons_zero, List.set_cons_succ, i64_w, i32_w]
                                        rfl
                                      refine pure_ (i := 6) (N := some 107) (v := ?_) (a' := ?_) #[false, true, true, true, true, false, true, false, false] rfl rfl (any_of HT_.out (by kernel_rfl)) (fun _ _ _ h => h) (Or.inl ⟨by rfl, ?_⟩) ?_ ?_
                                      rotate_left
                                      · intro w'
                                        go_simp
                                        with_reducible rfl
                                      rotate_left
                                      · simp only [Act.put, List.setIfInBounds_toArray, List.set_cons_zero, List.set_cons_succ, i64_w, i32_w]
                                        rfl
                                      refine take_ (i := 0) (N := some 101) (v := ?_) (a' := ?_) #[true, true, true, true, true, false, true, false, false] rfl rfl (take_ofW HT_.out HW_.out (by kernel_rfl)) (fun _ _ _ h => h) (Or.inl ⟨by rfl, ?_⟩) hHeld ?_ ?_
                                      rotate_left
                                      · rintro w' ⟨s0, s1, s2, s3, s4⟩
                                        go_simp
                                        with_reducible rfl
                                      rotate_left
                                      · simp only [Act.put, List.setIfInBounds_toArray, List.set_cons_zero, List.set_cons_succ, i64_w, i32_w]
                                        rfl
                                      refine take_ (i := 5) (N := some 106) (v := ?_) (a' := ?_) #[true, true, true, true, true, true, true, false, false] rfl rfl (take_ofW HT_.out HW_.out (by kernel_rfl)) (fun _ _ _ h => h) (Or.inl ⟨by rfl, ?_⟩) hHeld ?_ ?_
                                      rotate_left
                                      · rintro w' ⟨s0, s1, s2, s3, s4⟩
                                        go_simp
                                        with_reducible rfl
                                      rotate_left
                                      · simp only [Act.put, List.setIfInBounds_toArray, List.set_cons_zero, List.set_cons_succ, i64_w, i32_w]
                                        rfl
                                      refine one_ (i := 7) (N := some 108) #[true, true, true, true, true, true, true, true, false] rfl rfl (one_of HT_.out (by kernel_rfl)) (by decide) (fun K hK => ?_)
                                      refine goes_ Try.func85 (by kernel_rfl) rfl #[.agg #[.int .i64 a0_0, .int .i64 a0_1, .slice A0_2 l0_2.length c0_2], .slice (some ad166) l2.length c2, .agg #[.int .i64 ((rd_T70 l2 x17_5).f0), .int .i64 ((rd_T70 l2 x17_5).f1)], .slice Ao74 x14_4.length co74] (by rfl) rfl rfl (by (try simp only [List.map_toArray, List.map_cons, List.map_nil]); first | done | rfl | (simp only [List.length_drop, List.length_take]; rfl)) ?_
                                      with_reducible refine (tidewallref08_brought.calls k5 a0_0 a0_1 _ _ l0_2 _ _ l2 ((rd_T70 l2 x17_5).f0) ((rd_T70 l2 x17_5).f1) _ _ x14_4 t168 _ ?side1 ?side2 ?side3 ?side4 ?side5 ?side6 A70.out).mono ?_
                                      (case side1 => repeat (first | exact (Kd.C_below HR0_2.out HB.out) | (with_reducible refine Kd.C_alloc ?_ _) | (with_reducible refine Kd.C_drewN ?_ _) | (with_reducible refine Kd.C_drew ?_)))
                                      (case side2 => exact HC0_2.out)
                                      (case side3 => repeat (first | exact (Kd.C_below HR2.out HB.out) | (with_reducible refine Kd.C_alloc ?_ _) | (with_reducible refine Kd.C_drewN ?_ _) | (with_reducible refine Kd.C_drew ?_)))
                                      (case side4 => exact HC2.out)
                                      (case side5 => repeat (first | exact (Kd.R_reads' HO_14.out).2.2 | (with_reducible refine Kd.C_alloc ?_ _) | (with_reducible refine Kd.C_drewN ?_ _) | (with_reducible refine Kd.C_drew ?_)))
                                      (case side6 => exact (Kd.R_reads' HO_14.out).2.1)
                                      rintro e w75 ⟨v169, rfl, ho0, hb⟩
                                      refine ⟨_, rfl, ?_⟩
                                      have n0_ := Aside0.mk (Kd.R_elder' (by (with_reducible repeat (first | apply Kd.R_alloc | apply Kd.R_drewN | apply Kd.R_drew)); exact HO_13.out) (Kd.R_base ho0) hb)
                                      have n1_ := Aside0.mk (Kd.R_elder' (by (with_reducible repeat (first | apply Kd.R_alloc | apply Kd.R_drewN | apply Kd.R_drew)); exact HO_14.out) (Kd.R_base ho0) hb)
                                      have n2_ := Aside0.mk (Kd.R_lower (Kd.R_new' (Kd.R_new' ho0 (Kd.R_lt (by (with_reducible repeat (first | apply Kd.R_alloc | apply Kd.R_drewN | apply Kd.R_drew)); exact HO_13.out))) (Kd.R_lt (by (with_reducible repeat (first | apply Kd.R_alloc | apply Kd.R_drewN | apply Kd.R_drew)); exact HO_14.out))) (below_size (by repeat (first | (with_reducible first | exact HB.out | apply below_alloc | apply pw_below_drewN | apply below_drew1 | refine below_set ?_ GE147.out | refine below_set ?_ GE148.out) | exact HB.out))))
                                      have n3_ := Aside0.mk (blk_below (g := gb147) (o := .cells #[.int .i64 a0_0, .int .i64 a0_1, .slice A0_2 l0_2.length c0_2] 77 (0, 0)) (by (with_reducible repeat (first | refine blk_drewN ?_ _ | refine blk_drew ?_ | refine blk_alloc ?_ _)); exact BK147.out) hb)
                                      have n4_ := Aside0.mk (blk_below (g := gb148) (o := .cells #[.int .i64 a1_0, .int .i64 a1_1, .int .i64 a1_2] 79 (0, 0)) (by (with_reducible repeat (first | refine blk_drewN ?_ _ | refine blk_drew ?_ | refine blk_alloc ?_ _)); exact BK148.out) hb)
                                      have n5_ := Aside0.mk (below_step (by repeat (first | (with_reducible first | exact HB.out | apply below_alloc | apply pw_below_drewN | apply below_drew1 | refine below_set ?_ GE147.out | refine below_set ?_ GE148.out) | exact HB.out)) hb)
                                      clear HO_13
                                      clear HO_14
                                      clear BK147
                                      clear BK148
                                      clear HB
                                      have HO_13 := n0_
                                      have HO_14 := n1_
                                      have HO170 := n2_
                                      have BK147 := n3_
                                      have BK148 := n4_
                                      have HB := n5_
                                      clear n0_ n1_ n2_ n3_ n4_ n5_
                                      (try clear hb)
                                      (try clear hb2)
                                      (try clear hk)
                                      (try clear hi)
                                      (try clear ho0)
                                      refine hK.out _ _ ⟨(blk_cell BK147.out 0).trans rfl, (blk_cell BK147.out 1).trans rfl, (blk_cell BK147.out 2).trans rfl, ((HB.out.cell (World.block_lt_of_cell? w _ hw167_0)).trans hw167_0), ((HB.out.cell (World.block_lt_of_cell? w _ hw167_1)).trans hw167_1)⟩ (fun hHeld => ?_)
                                      clear hK K
                                      refine norm_ (a' := ?_) ?_ ?_
                                      rotate_left
                                      · show Act.put _ (some 108) _ = _
                                        simp only [Act.put, List.setIfInBounds_toArray, List.set_cons_zero, List.set_cons_succ, i64_w, i32_w]
                                        rfl
                                      refine pure_ (i := 8) (N := some 18) (v := ?_) (a' := ?_) #[true, true, true, true, true, true, true, true, true] rfl rfl (any_of HT_.out (by kernel_rfl)) (fun _ _ _ h => h) (Or.inl ⟨by rfl, ?_⟩) ?_ ?_
                                      rotate_left
                                      · intro w'
                                        go_simp
                                        with_reducible rfl
                                      rotate_left
                                      · simp only [Act.put, List.setIfInBounds_toArray, List.set_cons_zero, List.set_cons_succ, i64_w, i32_w]
                                        rfl
                                      refine done_ (done_of HT_.out (by kernel_rfl)) ?_
                                      obtain ⟨Ao76, co76, eo76⟩ := Kd.R_slice HO170.out
                                      subst eo76
                                      try go_wp2
                                      go_ret3
                                      exact ⟨_, _, by first | rfl | (simp [errW_none, errW_some] <;> rfl) | (simp [*, errW_none, errW_some] <;> rfl), by first | exact Kd.R_nil _ _ _ _ _ | exact Kd.N_nil _ _ _ _ _ | exact Kd.V_nil _ _ _ _ _ | exact Kd.Q_nil _ _ _ _ _ | exact Kd.S_nil _ _ _ _ _, by first | exact Kd.R_nil _ _ _ _ _ | exact Kd.N_nil _ _ _ _ _ | exact Kd.V_nil _ _ _ _ _ | exact Kd.Q_nil _ _ _ _ _ | exact Kd.S_nil _ _ _ _ _, by repeat (first | (with_reducible first | exact HB.out | apply below_alloc | apply pw_below_drewN | apply below_drew1 | refine below_set ?_ GE147.out | refine below_set ?_ GE148.out) | exact HB.out)⟩
                                    · rw [if_neg c71] at H
                                      have c71b0 : ((t168.length : Int) == 0) = false := beq_eq_false_iff_ne.mpr c71
                                      have c71b1 : ((t168.length : Int) != 0) = true := bne_iff_ne.mpr c71
                                      have c71b2 : ¬ (t168 = []) := fun h_ => c71 (by rw [h_]; rfl)
                                      have H' := Aside0.mk H
                                      clear H
                                      try go_wp2
                                      have n0_ := Aside0.mk (Kd.R_drew HO_13.out)
                                      have n1_ := Aside0.mk (Kd.R_drew HO_14.out)
                                      have n2_ := Aside0.mk (blk_drew BK147.out)
                                      have n3_ := Aside0.mk (blk_drew BK148.out)
                                      have n4_ := Aside0.mk (below_drew1 HB.out)
                                      clear HO_13
                                      clear HO_14
                                      clear BK147
                                      clear BK148
                                      clear HB
                                      have HO_13 := n0_
                                      have HO_14 := n1_
                                      have BK147 := n2_
                                      have BK148 := n3_
                                      have HB := n4_
                                      clear n0_ n1_ n2_ n3_ n4_
                                      have p166 : 0 ≤ (x17_5 : Int) := of_decide_eq_true (by first | (with_reducible assumption) | assumption)
                                      have q166 : x17_5 < (l2.length : Int) := of_decide_eq_true (by first | (with_reducible assumption) | assumption)
                                      obtain ⟨ad166, e166, hx166_0, hx166_1⟩ := at_T70 HR2.out x17_5 p166 q166
                                      have hw166_1 := hx166_1
                                      have hw166_0 := hx166_0
                                      cases e166
                                      replace hx166_0 := (HB.out.cell (World.block_lt_of_cell? w _ hx166_0)).trans hx166_0
                                      replace hx166_1 := (HB.out.cell (World.block_lt_of_cell? w _ hx166_1)).trans hx166_1
                                      replace p166 := eq_true p166
                                      replace q166 := eq_true q166
                                      refine start_ (n := 8) (S := fun w' => w'.cell? ⟨gb148, 0, none⟩ = some (.int .i64 a1_0) ∧ w'.cell? ⟨gb148, 1, none⟩ = some (.int .i64 a1_1) ∧ w'.cell? ⟨gb148, 2, none⟩ = some (.int .i64 a1_2) ∧ w'.cell? (ad166.add ((x17_5).toNat * 2)) = some (.int .i64 ((rd_T70 l2 x17_5).f0)) ∧ w'.cell? ⟨(ad166.add ((x17_5).toNat * 2)).block, (ad166.add ((x17_5).toNat * 2)).off + 1, none⟩ = some (.int .i64 ((rd_T70 l2 x17_5).f1))) (ds := []) #[false, false, false, false, false, false, false, false] (by kernel_rfl) rfl rfl ⟨(blk_cell BK148.out 0).trans rfl, (blk_cell BK148.out 1).trans rfl, (blk_cell BK148.out 2).trans rfl, ((HB.out.cell (World.block_lt_of_cell? w _ hw166_0)).trans hw166_0), ((HB.out.cell (World.block_lt_of_cell? w _ hw166_1)).trans hw166_1)⟩ (fun hHeld => ?_); refine with_tabW tidewallref08_Diagnose.tab25 tidewallref08_Diagnose.bits25 (fun HT_ HW_ => ?_)
                                      generalize wr.drew = w77 at HO_13 HO_14 BK147 BK148 HB hx166_0 hx166_1 hHeld ⊢
                                      refine pure_ (i := 0) (N := some 93) (v := ?_) (a' := ?_) #[true, false, false, false, false, false, false, false] rfl rfl (any_of HT_.out (by kernel_rfl)) (fun _ _ _ h => h) (Or.inl ⟨by rfl, ?_⟩) ?_ ?_
                                      rotate_left
                                      · intro w'
                                        go_simp
                                        with_reducible rfl
                                      rotate_left
                                      · simp only [Act.put, List.setIfInBounds_toArray, List.set_cons_zero, List.set_cons_succ, i64_w, i32_w]
                                        rfl
                                      refine pure_ (i := 1) (N := some 94) (v := ?_) (a' := ?_) #[true, true, false, false, false, false, false, false] rfl rfl (any_of HT_.out (by kernel_rfl)) (fun _ _ _ h => h) (Or.inl ⟨by rfl, ?_⟩) ?_ ?_
                                      rotate_left
                                      · intro w'
                                        go_simp
                                        with_reducible rfl
                                      rotate_left
                                      · simp only [Act.put, List.setIfInBounds_toArray, List.set_cons_zero, List.set_cons_succ, i64_w, i32_w]
                                        rfl
                                      refine pure_ (i := 2) (N := some 95) (v := ?_) (a' := ?_) #[true, true, true, false, false, false, false, false] rfl rfl (any_of HT_.out (by kernel_rfl)) (fun _ _ _ h => h) (Or.inl ⟨by rfl, ?_⟩) ?_ ?_
                                      rotate_left
                                      · intro w'
                                        go_simp
                                        with_reducible rfl
                                      rotate_left
                                      · simp only [Act.put, List.setIfInBounds_toArray, List.set_cons_zero, List.set_cons_succ, i64_w, i32_w]
                                        rfl
                                      refine pure_ (i := 3) (N := some 96) (v := ?_) (a' := ?_) #[true, true, true, true, false, false, false, false] rfl rfl (any_of HT_.out (by kernel_rfl)) (fun _ _ _ h => h) (Or.inl ⟨by rfl, ?_⟩) ?_ ?_
                                      rotate_left
                                      · intro w'
                                        go_simp
                                        with_reducible rfl
                                      rotate_left
                                      · simp only [Act.put, List.setIfInBounds_toArray, List.set_cons_zero, List.set_cons_succ, i64_w, i32_w]
                                        rfl
                                      refine pure_ (i := 5) (N := some 98) (v := ?_) (a' := ?_) #[true, true, true, true, false, true, false, false] rfl rfl (any_of HT_.out (by kernel_rfl)) (fun _ _ _ h => h) (Or.inl ⟨by rfl, ?_⟩) ?_ ?_
                                      rotate_left
                                      · intro w'
                                        go_simp
                                        with_reducible rfl
                                      rotate_left
                                      · simp only [Act.put, List.setIfInBounds_toArray, List.set_cons_zero, List.set_cons_succ, i64_w, i32_w]
                                        rfl
                                      refine take_ (i := 4) (N := some 97) (v := ?_) (a' := ?_) #[true, true, true, true, true, true, false, false] rfl rfl (take_ofW HT_.out HW_.out (by kernel_rfl)) (fun _ _ _ h => h) (Or.inl ⟨by rfl, ?_⟩) hHeld ?_ ?_
                                      rotate_left
                                      · rintro w' ⟨s0, s1, s2, s3, s4⟩
                                        go_simp
                                        with_reducible rfl
                                      rotate_left
                                      · simp only [Act.put, List.setIfInBounds_toArray, List.set_cons_zero, List.set_cons_succ, i64_w, i32_w]
                                        rfl
                                      refine take_ (i := 6) (N := some 99) (v := ?_) (a' := ?_) #[true, true, true, true, true, true, true, false] rfl rfl (take_ofW HT_.out HW_.out (by kernel_rfl)) (fun _ _ _ h => h) (Or.inl ⟨by rfl, ?_⟩) hHeld ?_ ?_
                                      rotate_left
                                      · rintro w' ⟨s0, s1, s2, s3, s4⟩
                                        go_simp
                                        with_reducible rfl
                                      rotate_left
                                      · simp only [Act.put, List.setIfInBounds_toArray, List.set_cons_zero, List.set_cons_succ, i64_w, i32_w]
                                        rfl
                                      refine pure_ (i := 7) (N := some 100) (v := ?_) (a' := ?_) #[true, true, true, true, true, true, true, true] rfl rfl (any_of HT_.out (by kernel_rfl)) (fun _ _ _ h => h) (Or.inl ⟨by rfl, ?_⟩) ?_ ?_
                                      rotate_left
                                      · intro w'
                                        go_simp
                                        with_reducible rfl
                                      rotate_left
                                      · simp only [Act.put, List.setIfInBounds_toArray, List.set_cons_zero, List.set_cons_succ, i64_w, i32_w]
                                        rfl
                                      refine done_ (done_of HT_.out (by kernel_rfl)) ?_
                                      try go_wp2
                                      have n0_ := Aside0.mk (Kd.R_drew HO_13.out)
                                      have n1_ := Aside0.mk (Kd.R_drew HO_14.out)
                                      have n2_ := Aside0.mk (blk_drew BK147.out)
                                      have n3_ := Aside0.mk (blk_drew BK148.out)
                                      have n4_ := Aside0.mk (below_drew1 HB.out)
                                      clear HO_13
                                      clear HO_14
                                      clear BK147
                                      clear BK148
                                      clear HB
                                      have HO_13 := n0_
                                      have HO_14 := n1_
                                      have BK147 := n2_
                                      have BK148 := n3_
                                      have HB := n4_
                                      clear n0_ n1_ n2_ n3_ n4_
                                      have p167 : 0 ≤ (x17_5 : Int) := of_decide_eq_true (by first | (with_reducible assumption) | assumption)
                                      have q167 : x17_5 < (l2.length : Int) := of_decide_eq_true (by first | (with_reducible assumption) | assumption)
                                      obtain ⟨ad167, e167, hx167_0, hx167_1⟩ := at_T70 HR2.out x17_5 p167 q167
                                      have hw167_1 := hx167_1
                                      have hw167_0 := hx167_0
                                      obtain rfl : ad166 = ad167 := (by injection e167)
                                      replace hx167_0 := (HB.out.cell (World.block_lt_of_cell? w _ hx167_0)).trans hx167_0
                                      replace hx167_1 := (HB.out.cell (World.block_lt_of_cell? w _ hx167_1)).trans hx167_1
                                      replace p167 := eq_true p167
                                      replace q167 := eq_true q167
                                      obtain ⟨Ao79, co79, eo79⟩ := Kd.R_slice HO_14.out
                                      (first | subst eo79 | (injection eo79 with f1_ f2_ f3_; have f4_ := f1_.symm; have f5_ := f3_.symm; clear f1_ f2_ f3_; subst f4_; subst f5_))
                                      refine start_ (n := 9) (S := fun w' => w'.cell? ⟨gb147, 0, none⟩ = some (.int .i64 a0_0) ∧ w'.cell? ⟨gb147, 1, none⟩ = some (.int .i64 a0_1) ∧ w'.cell? ⟨gb147, 2, none⟩ = some (.slice A0_2 l0_2.length c0_2) ∧ w'.cell? (ad166.add ((x17_5).toNat * 2)) = some (.int .i64 ((rd_T70 l2 x17_5).f0)) ∧ w'.cell? ⟨(ad166.add ((x17_5).toNat * 2)).block, (ad166.add ((x17_5).toNat * 2)).off + 1, none⟩ = some (.int .i64 ((rd_T70 l2 x17_5).f1))) (ds := []) #[false, false, false, false, false, false, false, false, false] (by kernel_rfl) rfl rfl ⟨(blk_cell BK147.out 0).trans rfl, (blk_cell BK147.out 1).trans rfl, (blk_cell BK147.out 2).trans rfl, ((HB.out.cell (World.block_lt_of_cell? w _ hw167_0)).trans hw167_0), ((HB.out.cell (World.block_lt_of_cell? w _ hw167_1)).trans hw167_1)⟩ (fun hHeld => ?_); refine with_tabW tidewallref08_Diagnose.tab26 tidewallref08_Diagnose.bits26 (fun HT_ HW_ => ?_)
                                      generalize w77.drew = w78 at HO_13 HO_14 BK147 BK148 HB hx167_0 hx167_1 hHeld ⊢
                                      refine pure_ (i := 1) (N := some 102) (v := ?_) (a' := ?_) #[false, true, false, false, false, false, false, false, false] rfl rfl (any_of HT_.out (by kernel_rfl)) (fun _ _ _ h => h) (Or.inl ⟨by rfl, ?_⟩) ?_ ?_
                                      rotate_left
                                      · intro w'
                                        go_simp
                                        with_reducible rfl
                                      rotate_left
                                      · simp only [Act.put, List.setIfInBounds_toArray, List.set_cons_zero, List.set_cons_succ, i64_w, i32_w]
                                        rfl
                                      refine pure_ (i := 2) (N := some 103) (v := ?_) (a' := ?_) #[false, true, true, false, false, false, false, false, false] rfl rfl (any_of HT_.out (by kernel_rfl)) (fun _ _ _ h => h) (Or.inl ⟨by rfl, ?_⟩) ?_ ?_
                                      rotate_left
                                      · intro w'
                                        go_simp
                                        with_reducible rfl
                                      rotate_left
                                      · simp only [Act.put, List.setIfInBounds_toArray, List.set_cons_zero, List.set_cons_succ, i64_w, i32_w]
                                        rfl
                                      refine pure_ (i := 3) (N := some 104) (v := ?_) (a' := ?_) #[false, true, true, true, false, false, false, false, false] rfl rfl (any_of HT_.out (by kernel_rfl)) (fun _ _ _ h => h) (Or.inl ⟨by rfl, ?_⟩) ?_ ?_
                                      rotate_left
                                      · intro w'
                                        go_simp
                                        with_reducible rfl
                                      rotate_left
                                      · simp only [Act.put, List.setIfInBounds_toArray, List.set_cons_zero, List.set_cons_succ, i64_w, i32_w]
                                        rfl
                                      refine pure_ (i := 4) (N := some 105) (v := ?_) (a' := ?_) #[false, true, true, true, true, false, false, false, false] rfl rfl (any_of HT_.out (by kernel_rfl)) (fun _ _ _ h => h) (Or.inl ⟨by rfl, ?_⟩) ?_ ?_
                                      rotate_left
                                      · intro w'
                                        go_simp
                                        with_reducible rfl
                                      rotate_left
                                      · simp only [Act.put, List.setIfInBounds_toArray, List.set_cons_zero, List.set_cons_succ, i64_w, i32_w]
                                        rfl
                                      refine pure_ (i := 6) (N := some 107) (v := ?_) (a' := ?_) #[false, true, true, true, true, false, true, false, false] rfl rfl (any_of HT_.out (by kernel_rfl)) (fun _ _ _ h => h) (Or.inl ⟨by rfl, ?_⟩) ?_ ?_
                                      rotate_left
                                      · intro w'
                                        go_simp
                                        with_reducible rfl
                                      rotate_left
                                      · simp only [Act.put, List.setIfInBounds_toArray, List.set_cons_zero, List.set_cons_succ, i64_w, i32_w]
                                        rfl
                                      refine take_ (i := 0) (N := some 101) (v := ?_) (a' := ?_) #[true, true, true, true, true, false, true, false, false] rfl rfl (take_ofW HT_.out HW_.out (by kernel_rfl)) (fun _ _ _ h => h) (Or.inl ⟨by rfl, ?_⟩) hHeld ?_ ?_
                                      rotate_left
                                      · rintro w' ⟨s0, s1, s2, s3, s4⟩
                                        go_simp
                                        with_reducible rfl
                                      rotate_left
                                      · simp only [Act.put, List.setIfInBounds_toArray, List.set_cons_zero, List.set_cons_succ, i64_w, i32_w]
                                        rfl
                                      refine take_ (i := 5) (N := some 106) (v := ?_) (a' := ?_) #[true, true, true, true, true, true, true, false, false] rfl rfl (take_ofW HT_.out HW_.out (by kernel_rfl)) (fun _ _ _ h => h) (Or.inl ⟨by rfl, ?_⟩) hHeld ?_ ?_
                                      rotate_left
                                      · rintro w' ⟨s0, s1, s2, s3, s4⟩
                                        go_simp
                                        with_reducible rfl
                                      rotate_left
                                      · simp only [Act.put, List.setIfInBounds_toArray, List.set_cons_zero, List.set_cons_succ, i64_w, i32_w]
                                        rfl
                                      refine one_ (i := 7) (N := some 108) #[true, true, true, true, true, true, true, true, false] rfl rfl (one_of HT_.out (by kernel_rfl)) (by decide) (fun K hK => ?_)
                                      refine goes_ Try.func85 (by kernel_rfl) rfl #[.agg #[.int .i64 a0_0, .int .i64 a0_1, .slice A0_2 l0_2.length c0_2], .slice (some ad166) l2.length c2, .agg #[.int .i64 ((rd_T70 l2 x17_5).f0), .int .i64 ((rd_T70 l2 x17_5).f1)], .slice Ao79 x14_4.length co79] (by rfl) rfl rfl (by (try simp only [List.map_toArray, List.map_cons, List.map_nil]); first | done | rfl | (simp only [List.length_drop, List.length_take]; rfl)) ?_
                                      with_reducible refine (tidewallref08_brought.calls k5 a0_0 a0_1 _ _ l0_2 _ _ l2 ((rd_T70 l2 x17_5).f0) ((rd_T70 l2 x17_5).f1) _ _ x14_4 t168 _ ?side1 ?side2 ?side3 ?side4 ?side5 ?side6 A70.out).mono ?_
                                      (case side1 => repeat (first | exact (Kd.C_below HR0_2.out HB.out) | (with_reducible refine Kd.C_alloc ?_ _) | (with_reducible refine Kd.C_drewN ?_ _) | (with_reducible refine Kd.C_drew ?_)))
                                      (case side2 => exact HC0_2.out)
                                      (case side3 => repeat (first | exact (Kd.C_below HR2.out HB.out) | (with_reducible refine Kd.C_alloc ?_ _) | (with_reducible refine Kd.C_drewN ?_ _) | (with_reducible refine Kd.C_drew ?_)))
                                      (case side4 => exact HC2.out)
                                      (case side5 => repeat (first | exact (Kd.R_reads' HO_14.out).2.2 | (with_reducible refine Kd.C_alloc ?_ _) | (with_reducible refine Kd.C_drewN ?_ _) | (with_reducible refine Kd.C_drew ?_)))
                                      (case side6 => exact (Kd.R_reads' HO_14.out).2.1)
                                      rintro e w80 ⟨v169, rfl, ho0, hb⟩
                                      refine ⟨_, rfl, ?_⟩
                                      have n0_ := Aside0.mk (Kd.R_elder' (by (with_reducible repeat (first | apply Kd.R_alloc | apply Kd.R_drewN | apply Kd.R_drew)); exact HO_13.out) (Kd.R_base ho0) hb)
                                      have n1_ := Aside0.mk (Kd.R_elder' (by (with_reducible repeat (first | apply Kd.R_alloc | apply Kd.R_drewN | apply Kd.R_drew)); exact HO_14.out) (Kd.R_base ho0) hb)
                                      have n2_ := Aside0.mk (Kd.R_lower (Kd.R_new' (Kd.R_new' ho0 (Kd.R_lt (by (with_reducible repeat (first | apply Kd.R_alloc | apply Kd.R_drewN | apply Kd.R_drew)); exact HO_13.out))) (Kd.R_lt (by (with_reducible repeat (first | apply Kd.R_alloc | apply Kd.R_drewN | apply Kd.R_drew)); exact HO_14.out))) (below_size (by repeat (first | (with_reducible first | exact HB.out | apply below_alloc | apply pw_below_drewN | apply below_drew1 | refine below_set ?_ GE147.out | refine below_set ?_ GE148.out) | exact HB.out))))
                                      have n3_ := Aside0.mk (blk_below (g := gb147) (o := .cells #[.int .i64 a0_0, .int .i64 a0_1, .slice A0_2 l0_2.length c0_2] 77 (0, 0)) (by (with_reducible repeat (first | refine blk_drewN ?_ _ | refine blk_drew ?_ | refine blk_alloc ?_ _)); exact BK147.out) hb)
                                      have n4_ := Aside0.mk (blk_below (g := gb148) (o := .cells #[.int .i64 a1_0, .int .i64 a1_1, .int .i64 a1_2] 79 (0, 0)) (by (with_reducible repeat (first | refine blk_drewN ?_ _ | refine blk_drew ?_ | refine blk_alloc ?_ _)); exact BK148.out) hb)
                                      have n5_ := Aside0.mk (below_step (by repeat (first | (with_reducible first | exact HB.out | apply below_alloc | apply pw_below_drewN | apply below_drew1 | refine below_set ?_ GE147.out | refine below_set ?_ GE148.out) | exact HB.out)) hb)
                                      clear HO_13
                                      clear HO_14
                                      clear BK147
                                      clear BK148
                                      clear HB
                                      have HO_13 := n0_
                                      have HO_14 := n1_
                                      have HO170 := n2_
                                      have BK147 := n3_
                                      have BK148 := n4_
                                      have HB := n5_
                                      clear n0_ n1_ n2_ n3_ n4_ n5_
                                      (try clear hb)
                                      (try clear hb2)
                                      (try clear hk)
                                      (try clear hi)
                                      (try clear ho0)
                                      refine hK.out _ _ ⟨(blk_cell BK147.out 0).trans rfl, (blk_cell BK147.out 1).trans rfl, (blk_cell BK147.out 2).trans rfl, ((HB.out.cell (World.block_lt_of_cell? w _ hw167_0)).trans hw167_0), ((HB.out.cell (World.block_lt_of_cell? w _ hw167_1)).trans hw167_1)⟩ (fun hHeld => ?_)
                                      clear hK K
                                      refine norm_ (a' := ?_) ?_ ?_
                                      rotate_left
                                      · show Act.put _ (some 108) _ = _
                                        simp only [Act.put, List.setIfInBounds_toArray, List.set_cons_zero, List.set_cons_succ, i64_w, i32_w]
                                        rfl
                                      refine pure_ (i := 8) (N := some 18) (v := ?_) (a' := ?_) #[true, true, true, true, true, true, true, true, true] rfl rfl (any_of HT_.out (by kernel_rfl)) (fun _ _ _ h => h) (Or.inl ⟨by rfl, ?_⟩) ?_ ?_
                                      rotate_left
                                      · intro w'
                                        go_simp
                                        with_reducible rfl
                                      rotate_left
                                      · simp only [Act.put, List.setIfInBounds_toArray, List.set_cons_zero, List.set_cons_succ, i64_w, i32_w]
                                        rfl
                                      refine done_ (done_of HT_.out (by kernel_rfl)) ?_
                                      obtain ⟨Ao81, co81, eo81⟩ := Kd.R_slice HO170.out
                                      subst eo81
                                      try go_wp2
                                      go_loopg [19, 20] k5 (fun kq v19 v20 w' => ∃ (x19_6 : Bool) (x20_6 : Int), v19 = .bool x19_6 ∧ v20 = .int .i64 x20_6 ∧ Aside0 (tidewallref08_Diagnose.l2 kq l2 x13_5 x14_4 x17_5 t168 x19_6 x20_6 a0_0 a0_1 l0_2 a1_0 a1_1 a1_2 = some (r1, r2, r3)) ∧ Aside0 (kq ≤ k5) ∧ Aside0 (Kd.R (Kd.int .i64) 3 w' w.heap.size (fun k_ => some k_ ≠ ((.slice Ao79 x14_4.length co79) : Value).ownBlock ∧ some k_ ≠ ((.slice Ao81 t168.length co81) : Value).ownBlock) u13 x13_5) ∧ Aside0 (Kd.R (Kd.int .i64) 3 w' w.heap.size (fun k_ => some k_ ≠ (u13 : Value).ownBlock ∧ some k_ ≠ ((.slice Ao81 t168.length co81) : Value).ownBlock) (.slice Ao79 x14_4.length co79) x14_4) ∧ Aside0 (Kd.R (Kd.int .i64) 3 w' w.heap.size (fun k_ => some k_ ≠ (u13 : Value).ownBlock ∧ some k_ ≠ ((.slice Ao79 x14_4.length co79) : Value).ownBlock) (.slice Ao81 t168.length co81) t168) ∧ Aside0 (w'.heap[gb147]? = some (.cells #[.int .i64 a0_0, .int .i64 a0_1, (.slice A0_2 l0_2.length c0_2)] 77 (0, 0))) ∧ Aside0 (w'.heap[gb148]? = some (.cells #[.int .i64 a1_0, .int .i64 a1_1, .int .i64 a1_2] 79 (0, 0))) ∧ Aside0 (Below w.heap.size w w'))
                                      case atStart => exact ⟨(true), (0), (by first | rfl | (simp; done) | (simp [*]; done)), (by first | rfl | (simp; done) | (simp [*]; done)), H', ⟨Nat.le_refl _⟩, ⟨by (with_reducible repeat (first | apply Kd.R_alloc | apply Kd.R_drewN | apply Kd.R_drew)); exact HO_13.out⟩, ⟨by (with_reducible repeat (first | apply Kd.R_alloc | apply Kd.R_drewN | apply Kd.R_drew)); exact HO_14.out⟩, ⟨by (with_reducible repeat (first | apply Kd.R_alloc | apply Kd.R_drewN | apply Kd.R_drew)); exact Kd.R_mono HO170.out (fun _ hk => ⟨hk.1.2, hk.2⟩)⟩, ⟨by (with_reducible repeat (first | refine blk_drewN ?_ _ | refine blk_drew ?_ | refine blk_alloc ?_ _)); exact BK147.out⟩, ⟨by (with_reducible repeat (first | refine blk_drewN ?_ _ | refine blk_drew ?_ | refine blk_alloc ?_ _)); exact BK148.out⟩, ⟨by repeat (first | (with_reducible first | exact HB.out | apply below_alloc | apply pw_below_drewN | apply below_drew1 | refine below_set ?_ GE147.out | refine below_set ?_ GE148.out) | exact HB.out)⟩⟩
                                      case round =>
                                        clear H'
                                        try clear p1
                                        try clear q1
                                        try clear hx1
                                        try clear c2
                                        try clear p2
                                        try clear c6
                                        try clear p6
                                        try clear c7
                                        try clear c8
                                        try clear p16
                                        try clear q16
                                        try clear hx16
                                        try clear p64
                                        try clear c68
                                        try clear c68b0
                                        try clear c68b1
                                        try clear c71
                                        try clear c71b0
                                        try clear c71b1
                                        try clear c71b2
                                        try clear hx166_0
                                        try clear hx166_1
                                        try clear hx167_0
                                        try clear hx167_1
                                        try clear p166
                                        try clear p167
                                        try clear q166
                                        try clear q167
                                        obtain ⟨x19_6, x20_6, rfl, rfl, HA, HK6, HO_13, HO_14, HO_18, BK147, BK148, HB⟩ := hrel
                                        cases gk with
                                        | zero => exact absurd HA.out (by simp [tidewallref08_Diagnose.l2])
                                        | succ k6 =>
                                          have H := HA.out
                                          clear HA
                                          simp only [tidewallref08_Diagnose.l2] at H
                                          by_cases c82 : x20_6 < (t168.length : Int)
                                          · rw [if_pos c82] at H
                                            have c82b0 : decide (x20_6 < (t168.length : Int)) = true := decide_eq_true c82
                                            clear c82
                                            by_cases c83 : x19_6 = true
                                            · subst c83
                                              have H1 : (if 0 ≤ x20_6 then (if 0 < (t168.length : Int) then (tidewallref08_Diagnose.l2 k6 l2 x13_5 x14_4 x17_5 t168 ((rd t168 x20_6) == (rd t168 0)) (wrap64 (x20_6 + 1)) a0_0 a0_1 l0_2 a1_0 a1_1 a1_2) else (none)) else (none)) = some (r1, r2, r3) := by rw [if_pos rfl] at H; exact H
                                              clear H
                                              have H := H1
                                              clear H1
                                              by_cases c84 : 0 ≤ x20_6
                                              · rw [if_pos c84] at H
                                                have c84b0 : decide (0 ≤ x20_6) = true := decide_eq_true c84
                                                clear c84
                                                by_cases c85 : 0 < (t168.length : Int)
                                                · rw [if_pos c85] at H
                                                  have c85b0 : decide (0 < (t168.length : Int)) = true := decide_eq_true c85
                                                  have c85b1 : decide (0 < t168.length) = true := decide_eq_true (by omega)
                                                  clear c85
                                                  have H' := Aside0.mk H
                                                  clear H
                                                  try go_wp2
                                                  have n0_ := Aside0.mk (Kd.R_drew HO_13.out)
                                                  have n1_ := Aside0.mk (Kd.R_drew HO_14.out)
                                                  have n2_ := Aside0.mk (Kd.R_drew HO_18.out)
                                                  have n3_ := Aside0.mk (blk_drew BK147.out)
                                                  have n4_ := Aside0.mk (blk_drew BK148.out)
                                                  have n5_ := Aside0.mk (below_drew1 HB.out)
                                                  clear HO_13
                                                  clear HO_14
                                                  clear HO_18
                                                  clear BK147
                                                  clear BK148
                                                  clear HB
                                                  have HO_13 := n0_
                                                  have HO_14 := n1_
                                                  have HO_18 := n2_
                                                  have BK147 := n3_
                                                  have BK148 := n4_
                                                  have HB := n5_
                                                  clear n0_ n1_ n2_ n3_ n4_ n5_
                                                  have p171 : 0 ≤ (x20_6 : Int) := of_decide_eq_true (by first | (with_reducible assumption) | assumption)
                                                  have q171 : x20_6 < (t168.length : Int) := of_decide_eq_true (by first | (with_reducible assumption) | assumption)
                                                  obtain ⟨ad171, e171, hx171_0⟩ := Kd.at_int (Kd.R_reads' HO_18.out).2.2 x20_6 p171 q171
                                                  cases e171
                                                  replace p171 := eq_true p171
                                                  replace q171 := eq_true q171
                                                  have p172 : 0 ≤ (0 : Int) := (by omega)
                                                  have q172 : 0 < (t168.length : Int) := of_decide_eq_true (by first | (with_reducible assumption) | assumption)
                                                  obtain ⟨ad172, e172, hx172_0⟩ := Kd.at_int (Kd.R_reads' HO_18.out).2.2 0 p172 q172
                                                  obtain rfl : ad171 = ad172 := (by injection e172)
                                                  have qi172 : (0 < t168.length) = True := eq_true (by omega)
                                                  (try rw [show ((0 : Int)).toNat = 0 from rfl] at hx172_0)
                                                  (try rw [Addr.add_zero'] at hx172_0)
                                                  replace p172 := eq_true p172
                                                  replace q172 := eq_true q172
                                                  refine start_ (n := 12) (S := fun w' => w'.cell? (ad171.add (x20_6).toNat) = some (.int .i64 (rd t168 x20_6)) ∧ w'.cell? ad171 = some (.int .i64 (rd t168 0))) (ds := []) #[false, false, false, false, false, false, false, false, false, false, false, false] (by kernel_rfl) rfl rfl ⟨hx171_0, hx172_0⟩ (fun hHeld => ?_); refine with_tabW tidewallref08_Diagnose.tab33 tidewallref08_Diagnose.bits33 (fun HT_ HW_ => ?_)
                                                  generalize wr.drew = w86 at HO_13 HO_14 HO_18 BK147 BK148 HB hx171_0 hx172_0 hHeld ⊢
                                                  refine pure_ (i := 0) (N := some 118) (v := ?_) (a' := ?_) #[true, false, false, false, false, false, false, false, false, false, false, false] rfl rfl (any_of HT_.out (by kernel_rfl)) (fun _ _ _ h => h) (Or.inl ⟨by rfl, ?_⟩) ?_ ?_
                                                  rotate_left
                                                  · intro w'
                                                    go_simp
                                                    with_reducible rfl
                                                  rotate_left
                                                  · simp only [Act.put, List.setIfInBounds_toArray, List.set_cons_zero, List.set_cons_succ, i64_w, i32_w]
                                                    rfl
                                                  refine pure_ (i := 1) (N := some 119) (v := ?_) (a' := ?_) #[true, true, false, false, false, false, false, false, false, false, false, false] rfl rfl (any_of HT_.out (by kernel_rfl)) (fun _ _ _ h => h) (Or.inl ⟨by rfl, ?_⟩) ?_ ?_
                                                  rotate_left
                                                  · intro w'
                                                    go_simp
                                                    with_reducible rfl
                                                  rotate_left
                                                  · simp only [Act.put, List.setIfInBounds_toArray, List.set_cons_zero, List.set_cons_succ, i64_w, i32_w]
                                                    rfl
                                                  refine pure_ (i := 2) (N := some 120) (v := ?_) (a' := ?_) #[true, true, true, false, false, false, false, false, false, false, false, false] rfl rfl (any_of HT_.out (by kernel_rfl)) (fun _ _ _ h => h) (Or.inl ⟨by rfl, ?_⟩) ?_ ?_
                                                  rotate_left
                                                  · intro w'
                                                    go_simp
                                                    with_reducible rfl
                                                  rotate_left
                                                  · simp only [Act.put, List.setIfInBounds_toArray, List.set_cons_zero, List.set_cons_succ, i64_w, i32_w]
                                                    rfl
                                                  refine pure_ (i := 3) (N := some 121) (v := ?_) (a' := ?_) #[true, true, true, true, false, false, false, false, false, false, false, false] rfl rfl (any_of HT_.out (by kernel_rfl)) (fun _ _ _ h => h) (Or.inl ⟨by rfl, ?_⟩) ?_ ?_
                                                  rotate_left
                                                  · intro w'
                                                    go_simp
                                                    with_reducible rfl
                                                  rotate_left
                                                  · simp only [Act.put, List.setIfInBounds_toArray, List.set_cons_zero, List.set_cons_succ, i64_w, i32_w]
                                                    rfl
                                                  refine pure_ (i := 4) (N := some 122) (v := ?_) (a' := ?_) #[true, true, true, true, true, false, false, false, false, false, false, false] rfl rfl (any_of HT_.out (by kernel_rfl)) (fun _ _ _ h => h) (Or.inl ⟨by rfl, ?_⟩) ?_ ?_
                                                  rotate_left
                                                  · intro w'
                                                    go_simp
                                                    with_reducible rfl
                                                  rotate_left
                                                  · simp only [Act.put, List.setIfInBounds_toArray, List.set_cons_zero, List.set_cons_succ, i64_w, i32_w]
                                                    rfl
                                                  refine pure_ (i := 6) (N := some 124) (v := ?_) (a' := ?_) #[true, true, true, true, true, false, true, false, false, false, false, false] rfl rfl (any_of HT_.out (by kernel_rfl)) (fun _ _ _ h => h) (Or.inl ⟨by rfl, ?_⟩) ?_ ?_
                                                  rotate_left
                                                  · intro w'
                                                    go_simp
                                                    with_reducible rfl
                                                  rotate_left
                                                  · simp only [Act.put, List.setIfInBounds_toArray, List.set_cons_zero, List.set_cons_succ, i64_w, i32_w]
                                                    rfl
                                                  refine pure_ (i := 7) (N := some 125) (v := ?_) (a' := ?_) #[true, true, true, true, true, false, true, true, false, false, false, false] rfl rfl (any_of HT_.out (by kernel_rfl)) (fun _ _ _ h => h) (Or.inl ⟨by rfl, ?_⟩) ?_ ?_
                                                  rotate_left
                                                  · intro w'
                                                    go_simp
                                                    with_reducible rfl
                                                  rotate_left
                                                  · simp only [Act.put, List.setIfInBounds_toArray, List.set_cons_zero, List.set_cons_succ, i64_w, i32_w]
                                                    rfl
                                                  refine take_ (i := 5) (N := some 123) (v := ?_) (a' := ?_) #[true, true, true, true, true, true, true, true, false, false, false, false] rfl rfl (take_ofW HT_.out HW_.out (by kernel_rfl)) (fun _ _ _ h => h) (Or.inl ⟨by rfl, ?_⟩) hHeld ?_ ?_
                                                  rotate_left
                                                  · rintro w' ⟨s0, s1⟩
                                                    go_simp
                                                    with_reducible rfl
                                                  rotate_left
                                                  · simp only [Act.put, List.setIfInBounds_toArray, List.set_cons_zero, List.set_cons_succ, i64_w, i32_w]
                                                    rfl
                                                  refine take_ (i := 8) (N := some 126) (v := ?_) (a' := ?_) #[true, true, true, true, true, true, true, true, true, false, false, false] rfl rfl (take_ofW HT_.out HW_.out (by kernel_rfl)) (fun _ _ _ h => h) (Or.inl ⟨by rfl, ?_⟩) hHeld ?_ ?_
                                                  rotate_left
                                                  · rintro w' ⟨s0, s1⟩
                                                    go_simp
                                                    with_reducible rfl
                                                  rotate_left
                                                  · simp only [Act.put, List.setIfInBounds_toArray, List.set_cons_zero, List.set_cons_succ, i64_w, i32_w]
                                                    rfl
                                                  refine pure_ (i := 9) (N := some 127) (v := ?_) (a' := ?_) #[true, true, true, true, true, true, true, true, true, true, false, false] rfl rfl (any_of HT_.out (by kernel_rfl)) (fun _ _ _ h => h) (Or.inl ⟨by rfl, ?_⟩) ?_ ?_
                                                  rotate_left
                                                  · intro w'
                                                    go_simp
                                                    with_reducible rfl
                                                  rotate_left
                                                  · simp only [Act.put, List.setIfInBounds_toArray, List.set_cons_zero, List.set_cons_succ, i64_w, i32_w]
                                                    rfl
                                                  refine pure_ (i := 10) (N := some 128) (v := ?_) (a' := ?_) #[true, true, true, true, true, true, true, true, true, true, true, false] rfl rfl (any_of HT_.out (by kernel_rfl)) (fun _ _ _ h => h) (Or.inl ⟨by rfl, ?_⟩) ?_ ?_
                                                  rotate_left
                                                  · intro w'
                                                    go_simp
                                                    with_reducible rfl
                                                  rotate_left
                                                  · simp only [Act.put, List.setIfInBounds_toArray, List.set_cons_zero, List.set_cons_succ, i64_w, i32_w]
                                                    rfl
                                                  refine pure_ (i := 11) (N := some 19) (v := ?_) (a' := ?_) #[true, true, true, true, true, true, true, true, true, true, true, true] rfl rfl (any_of HT_.out (by kernel_rfl)) (fun _ _ _ h => h) (Or.inl ⟨by rfl, ?_⟩) ?_ ?_
                                                  rotate_left
                                                  · intro w'
                                                    go_simp
                                                    with_reducible rfl
                                                  rotate_left
                                                  · simp only [Act.put, List.setIfInBounds_toArray, List.set_cons_zero, List.set_cons_succ, i64_w, i32_w]
                                                    rfl
                                                  refine done_ (done_of HT_.out (by kernel_rfl)) ?_
                                                  try go_wp2
                                                  go_roundg k6
                                                  case measure => have := HJ5.out; have := HJ14.out; have := HJ16.out; have := HK4.out; have := HK5.out; have := HK6.out; omega
                                                  case rel => exact ⟨(((rd t168 x20_6) == (rd t168 0))), (wrap64 (x20_6 + 1)), (by first | rfl | (simp; done) | (simp [*]; done)), (by first | rfl | (simp; done) | (simp [*]; done)), H', ⟨by have := HJ5.out; have := HJ14.out; have := HJ16.out; have := HK4.out; have := HK5.out; have := HK6.out; omega⟩, ⟨by (with_reducible repeat (first | apply Kd.R_alloc | apply Kd.R_drewN | apply Kd.R_drew)); exact HO_13.out⟩, ⟨by (with_reducible repeat (first | apply Kd.R_alloc | apply Kd.R_drewN | apply Kd.R_drew)); exact HO_14.out⟩, ⟨by (with_reducible repeat (first | apply Kd.R_alloc | apply Kd.R_drewN | apply Kd.R_drew)); exact HO_18.out⟩, ⟨by (with_reducible repeat (first | refine blk_drewN ?_ _ | refine blk_drew ?_ | refine blk_alloc ?_ _)); exact BK147.out⟩, ⟨by (with_reducible repeat (first | refine blk_drewN ?_ _ | refine blk_drew ?_ | refine blk_alloc ?_ _)); exact BK148.out⟩, ⟨by repeat (first | (with_reducible first | exact HB.out | apply below_alloc | apply pw_below_drewN | apply below_drew1 | refine below_set ?_ GE147.out | refine below_set ?_ GE148.out) | exact HB.out)⟩⟩
                                                · rw [if_neg c85] at H
                                                  exact absurd H (by simp)
                                              · rw [if_neg c84] at H
                                                exact absurd H (by simp)
                                            · replace c83 := Bool.eq_false_iff.mpr c83
                                              subst c83
                                              have H1 : (tidewallref08_Diagnose.l2 k6 l2 x13_5 x14_4 x17_5 t168 false (wrap64 (x20_6 + 1)) a0_0 a0_1 l0_2 a1_0 a1_1 a1_2) = some (r1, r2, r3) := by rw [if_neg (show ¬ (false = true) by decide)] at H; exact H
                                              clear H
                                              have H := H1
                                              clear H1
                                              have H' := Aside0.mk H
                                              clear H
                                              try go_wp2
                                              have n0_ := Aside0.mk (Kd.R_drew HO_13.out)
                                              have n1_ := Aside0.mk (Kd.R_drew HO_14.out)
                                              have n2_ := Aside0.mk (Kd.R_drew HO_18.out)
                                              have n3_ := Aside0.mk (blk_drew BK147.out)
                                              have n4_ := Aside0.mk (blk_drew BK148.out)
                                              have n5_ := Aside0.mk (below_drew1 HB.out)
                                              clear HO_13
                                              clear HO_14
                                              clear HO_18
                                              clear BK147
                                              clear BK148
                                              clear HB
                                              have HO_13 := n0_
                                              have HO_14 := n1_
                                              have HO_18 := n2_
                                              have BK147 := n3_
                                              have BK148 := n4_
                                              have HB := n5_
                                              clear n0_ n1_ n2_ n3_ n4_ n5_
                                              refine start_ (n := 12) (S := fun w' => True) (ds := []) #[false, false, false, false, false, false, false, false, false, false, false, false] (by kernel_rfl) rfl rfl trivial (fun hHeld => ?_); refine with_tabW tidewallref08_Diagnose.tab33 tidewallref08_Diagnose.bits33 (fun HT_ HW_ => ?_)
                                              generalize wr.drew = w87 at HO_13 HO_14 HO_18 BK147 BK148 HB hHeld ⊢
                                              refine pure_ (i := 0) (N := some 118) (v := ?_) (a' := ?_) #[true, false, false, false, false, false, false, false, false, false, false, false] rfl rfl (any_of HT_.out (by kernel_rfl)) (fun _ _ _ h => h) (Or.inl ⟨by rfl, ?_⟩) ?_ ?_
                                              rotate_left
                                              · intro w'
                                                go_simp
                                                with_reducible rfl
                                              rotate_left
                                              · simp only [Act.put, List.setIfInBounds_toArray, List.set_cons_zero, List.set_cons_succ, i64_w, i32_w]
                                                rfl
                                              refine pure_ (i := 1) (N := some 119) (v := ?_) (a' := ?_) #[true, true, false, false, false, false, false, false, false, false, false, false] rfl rfl (any_of HT_.out (by kernel_rfl)) (fun _ _ _ h => h) (Or.inl ⟨by rfl, ?_⟩) ?_ ?_
                                              rotate_left
                                              · intro w'
                                                go_simp
                                                with_reducible rfl
                                              rotate_left
                                              · simp only [Act.put, List.setIfInBounds_toArray, List.set_cons_zero, List.set_cons_succ, i64_w, i32_w]
                                                rfl
                                              refine pure_ (i := 2) (N := some 120) (v := undef) (a' := ?_) #[true, true, true, false, false, false, false, false, false, false, false, false] rfl rfl (any_of HT_.out (by kernel_rfl)) (fun _ _ _ h => h) (Or.inr ⟨by rfl, rfl⟩) ?_ ?_
                                              rotate_left
                                              · simp only [Act.put, List.setIfInBounds_toArray, List.set_cons_zero, List.set_cons_succ, i64_w, i32_w]
                                                rfl
                                              refine pure_ (i := 3) (N := some 121) (v := undef) (a' := ?_) #[true, true, true, true, false, false, false, false, false, false, false, false] rfl rfl (any_of HT_.out (by kernel_rfl)) (fun _ _ _ h => h) (Or.inr ⟨by rfl, rfl⟩) ?_ ?_
                                              rotate_left
                                              · simp only [Act.put, List.setIfInBounds_toArray, List.set_cons_zero, List.set_cons_succ, i64_w, i32_w]
                                                rfl
                                              refine pure_ (i := 4) (N := some 122) (v := undef) (a' := ?_) #[true, true, true, true, true, false, false, false, false, false, false, false] rfl rfl (any_of HT_.out (by kernel_rfl)) (fun _ _ _ h => h) (Or.inr ⟨by rfl, rfl⟩) ?_ ?_
                                              rotate_left
                                              · simp only [Act.put, List.setIfInBounds_toArray, List.set_cons_zero, List.set_cons_succ, i64_w, i32_w]
                                                rfl
                                              refine pure_ (i := 5) (N := some 123) (v := undef) (a' := ?_) #[true, true, true, true, true, true, false, false, false, false, false, false] rfl rfl (any_of HT_.out (by kernel_rfl)) (fun _ _ _ h => h) (Or.inr ⟨by rfl, rfl⟩) ?_ ?_
                                              rotate_left
                                              · simp only [Act.put, List.setIfInBounds_toArray, List.set_cons_zero, List.set_cons_succ, i64_w, i32_w]
                                                rfl
                                              refine pure_ (i := 6) (N := some 124) (v := undef) (a' := ?_) #[true, true, true, true, true, true, true, false, false, false, false, false] rfl rfl (any_of HT_.out (by kernel_rfl)) (fun _ _ _ h => h) (Or.inr ⟨by rfl, rfl⟩) ?_ ?_
                                              rotate_left
                                              · simp only [Act.put, List.setIfInBounds_toArray, List.set_cons_zero, List.set_cons_succ, i64_w, i32_w]
                                                rfl
                                              refine pure_ (i := 7) (N := some 125) (v := undef) (a' := ?_) #[true, true, true, true, true, true, true, true, false, false, false, false] rfl rfl (any_of HT_.out (by kernel_rfl)) (fun _ _ _ h => h) (Or.inr ⟨by rfl, rfl⟩) ?_ ?_
                                              rotate_left
                                              · simp only [Act.put, List.setIfInBounds_toArray, List.set_cons_zero, List.set_cons_succ, i64_w, i32_w]
                                                rfl
                                              refine pure_ (i := 8) (N := some 126) (v := undef) (a' := ?_) #[true, true, true, true, true, true, true, true, true, false, false, false] rfl rfl (any_of HT_.out (by kernel_rfl)) (fun _ _ _ h => h) (Or.inr ⟨by rfl, rfl⟩) ?_ ?_
                                              rotate_left
                                              · simp only [Act.put, List.setIfInBounds_toArray, List.set_cons_zero, List.set_cons_succ, i64_w, i32_w]
                                                rfl
                                              refine pure_ (i := 9) (N := some 127) (v := undef) (a' := ?_) #[true, true, true, true, true, true, true, true, true, true, false, false] rfl rfl (any_of HT_.out (by kernel_rfl)) (fun _ _ _ h => h) (Or.inr ⟨by rfl, rfl⟩) ?_ ?_
                                              rotate_left
                                              · simp only [Act.put, List.setIfInBounds_toArray, List.set_cons_zero, List.set_cons_succ, i64_w, i32_w]
                                                rfl
                                              refine pure_ (i := 10) (N := some 128) (v := ?_) (a' := ?_) #[true, true, true, true, true, true, true, true, true, true, true, false] rfl rfl (any_of HT_.out (by kernel_rfl)) (fun _ _ _ h => h) (Or.inl ⟨by rfl, ?_⟩) ?_ ?_
                                              rotate_left
                                              · intro w'
                                                go_simp
                                                with_reducible rfl
                                              rotate_left
                                              · simp only [Act.put, List.setIfInBounds_toArray, List.set_cons_zero, List.set_cons_succ, i64_w, i32_w]
                                                rfl
                                              refine pure_ (i := 11) (N := some 19) (v := ?_) (a' := ?_) #[true, true, true, true, true, true, true, true, true, true, true, true] rfl rfl (any_of HT_.out (by kernel_rfl)) (fun _ _ _ h => h) (Or.inl ⟨by rfl, ?_⟩) ?_ ?_
                                              rotate_left
                                              · intro w'
                                                go_simp
                                                with_reducible rfl
                                              rotate_left
                                              · simp only [Act.put, List.setIfInBounds_toArray, List.set_cons_zero, List.set_cons_succ, i64_w, i32_w]
                                                rfl
                                              refine done_ (done_of HT_.out (by kernel_rfl)) ?_
                                              try go_wp2
                                              go_roundg k6
                                              case measure => have := HJ5.out; have := HJ14.out; have := HJ16.out; have := HK4.out; have := HK5.out; have := HK6.out; omega
                                              case rel => exact ⟨(false), (wrap64 (x20_6 + 1)), (by first | rfl | (simp; done) | (simp [*]; done)), (by first | rfl | (simp; done) | (simp [*]; done)), H', ⟨by have := HJ5.out; have := HJ14.out; have := HJ16.out; have := HK4.out; have := HK5.out; have := HK6.out; omega⟩, ⟨by (with_reducible repeat (first | apply Kd.R_alloc | apply Kd.R_drewN | apply Kd.R_drew)); exact HO_13.out⟩, ⟨by (with_reducible repeat (first | apply Kd.R_alloc | apply Kd.R_drewN | apply Kd.R_drew)); exact HO_14.out⟩, ⟨by (with_reducible repeat (first | apply Kd.R_alloc | apply Kd.R_drewN | apply Kd.R_drew)); exact HO_18.out⟩, ⟨by (with_reducible repeat (first | refine blk_drewN ?_ _ | refine blk_drew ?_ | refine blk_alloc ?_ _)); exact BK147.out⟩, ⟨by (with_reducible repeat (first | refine blk_drewN ?_ _ | refine blk_drew ?_ | refine blk_alloc ?_ _)); exact BK148.out⟩, ⟨by repeat (first | (with_reducible first | exact HB.out | apply below_alloc | apply pw_below_drewN | apply below_drew1 | refine below_set ?_ GE147.out | refine below_set ?_ GE148.out) | exact HB.out)⟩⟩
                                          · rw [if_neg c82] at H
                                            have c82b0 : decide (x20_6 < (t168.length : Int)) = false := decide_eq_false c82
                                            clear c82
                                            by_cases c88 : x19_6 = true
                                            · subst c88
                                              have H1 : (if 0 < (t168.length : Int) then (if (rd t168 0) ≥ 0 then (if x13_5.length < 17592186044416 then (tidewallref08_Diagnose.l1 k6 l2 (x13_5 ++ [rd t168 0]) x14_4 (wrap64 (x17_5 + 1)) a0_0 a0_1 l0_2 a1_0 a1_1 a1_2) else (none)) else (tidewallref08_Diagnose.l1 k6 l2 x13_5 x14_4 (wrap64 (x17_5 + 1)) a0_0 a0_1 l0_2 a1_0 a1_1 a1_2)) else (none)) = some (r1, r2, r3) := by rw [if_pos rfl] at H; exact H
                                              clear H
                                              have H := H1
                                              clear H1
                                              by_cases c89 : 0 < (t168.length : Int)
                                              · rw [if_pos c89] at H
                                                have c89b0 : decide (0 < (t168.length : Int)) = true := decide_eq_true c89
                                                have c89b1 : decide (0 < t168.length) = true := decide_eq_true (by omega)
                                                clear c89
                                                by_cases c90 : (rd t168 0) ≥ 0
                                                · rw [if_pos c90] at H
                                                  have c90b0 : decide (0 ≤ (rd t168 0)) = true := decide_eq_true c90
                                                  clear c90
                                                  by_cases c91 : x13_5.length < 17592186044416
                                                  · rw [if_pos c91] at H
                                                    have LMc91 := Aside0.mk c91
                                                    clear c91
                                                    obtain ⟨y175, hy175⟩ : ∃ y_ : List Int, y_ = (x13_5 ++ [rd t168 0]) := ⟨_, rfl⟩
                                                    replace H : (tidewallref08_Diagnose.l1 k6 l2 y175 x14_4 (wrap64 (x17_5 + 1)) a0_0 a0_1 l0_2 a1_0 a1_1 a1_2) = some (r1, r2, r3) := by first | (rw [hy175]; with_reducible exact H) | (have H2_ := (Option.bind_some _ _).symm.trans H; rw [hy175]; with_reducible exact H2_) | (have H2_ := (Option.bind_some _ _).symm.trans H; with_reducible exact H2_) | with_reducible exact H | (rw [hy175]; exact H) | exact H
                                                    have Ny175 := Aside0.mk hy175
                                                    clear hy175
                                                    have H' := Aside0.mk H
                                                    clear H
                                                    have p173 : 0 ≤ (0 : Int) := (by omega)
                                                    have q173 : 0 < (t168.length : Int) := of_decide_eq_true (by first | (with_reducible assumption) | assumption)
                                                    obtain ⟨ad173, e173, hx173_0⟩ := Kd.at_int (Kd.R_reads' HO_18.out).2.2 0 p173 q173
                                                    cases e173
                                                    have qi173 : (0 < t168.length) = True := eq_true (by omega)
                                                    (try rw [show ((0 : Int)).toNat = 0 from rfl] at hx173_0)
                                                    (try rw [Addr.add_zero'] at hx173_0)
                                                    replace p173 := eq_true p173
                                                    replace q173 := eq_true q173
                                                    have p174 : 0 ≤ (0 : Int) := (by omega)
                                                    have q174 : 0 < (t168.length : Int) := of_decide_eq_true (by first | (with_reducible assumption) | assumption)
                                                    obtain ⟨ad174, e174, hx174_0⟩ := Kd.at_int (Kd.R_reads' HO_18.out).2.2 0 p174 q174
                                                    obtain rfl : ad173 = ad174 := (by injection e174)
                                                    have qi174 : (0 < t168.length) = True := eq_true (by omega)
                                                    (try rw [show ((0 : Int)).toNat = 0 from rfl] at hx174_0)
                                                    (try rw [Addr.add_zero'] at hx174_0)
                                                    replace p174 := eq_true p174
                                                    replace q174 := eq_true q174
                                                    go_wp2_with (first | ((with_reducible refine gate_builtin (b := .append) (xs := #[.tmp 136, .tmp 140]) rfl ?_); at_builtin; refine Kd.R_append (Kd.int .i64) (w0 := w) w.heap.size rfl (.tmp 136) (.tmp 140) 33 3 (.int .i64 0) 8 rfl Try.underlying33 info3 rfl (by decide) (by omega) u13 x13_5 (rd t168 0) [.int .i64 (rd t168 0)] (fun k_ => some k_ ≠ (.slice Ao79 x14_4.length co79 : Value).ownBlock ∧ some k_ ≠ (.slice (some ad173) t168.length co81 : Value).ownBlock) (fun _ => False) rfl rfl ?aP (fun _ hk => hk.elim) ?aF ?aO ?aB ?aS ?aL ?_; (case aP => exact rfl); (case aB => exact (by repeat (first | (with_reducible first | exact HB.out | apply below_alloc | apply pw_below_drewN | apply below_drew1 | refine below_set ?_ GE147.out | refine below_set ?_ GE148.out) | exact HB.out))); (case aF => exact (fun k_ hk => ⟨Kd.fresh' (Kd.R_lt (by (with_reducible repeat (first | apply Kd.R_alloc | apply Kd.R_drewN | apply Kd.R_drew)); exact HO_14.out)) k_ hk, Kd.fresh' (Kd.R_lt (by (with_reducible repeat (first | apply Kd.R_alloc | apply Kd.R_drewN | apply Kd.R_drew)); exact HO_18.out)) k_ hk⟩)); (case aO => exact (by (with_reducible repeat (first | apply Kd.R_alloc | apply Kd.R_drewN | apply Kd.R_drew)); exact HO_13.out)); (case aS => exact (below_size (by repeat (first | (with_reducible first | exact HB.out | apply below_alloc | apply pw_below_drewN | apply below_drew1 | refine below_set ?_ GE147.out | refine below_set ?_ GE148.out) | exact HB.out)))); (case aL => have := LMc91.out; omega); intro v176 w92 ho hb hg hat; rw [← Ny175.out] at ho; have n0_ := Aside0.mk (Kd.R_after (ok := (fun k_ => some k_ ≠ (.slice (some ad173) t168.length co81 : Value).ownBlock)) (by (with_reducible repeat (first | apply Kd.R_alloc | apply Kd.R_drewN | apply Kd.R_drew)); exact Kd.R_mono HO_14.out (fun _ hk => ⟨hk.2, hk.1⟩)) hg hat); have n1_ := Aside0.mk (Kd.R_after (ok := (fun k_ => some k_ ≠ (.slice Ao79 x14_4.length co79 : Value).ownBlock)) (by (with_reducible repeat (first | apply Kd.R_alloc | apply Kd.R_drewN | apply Kd.R_drew)); exact Kd.R_mono HO_18.out (fun _ hk => ⟨hk.2, hk.1⟩)) hg hat); have n2_ := Aside0.mk (blk_grown (g := gb147) (o := .cells #[.int .i64 a0_0, .int .i64 a0_1, .slice A0_2 l0_2.length c0_2] 77 (0, 0)) (by (with_reducible repeat (first | refine blk_drewN ?_ _ | refine blk_drew ?_ | refine blk_alloc ?_ _)); exact BK147.out) hg (Kd.R_ne HO_13.out BK147.out (by decide))); have n3_ := Aside0.mk (blk_grown (g := gb148) (o := .cells #[.int .i64 a1_0, .int .i64 a1_1, .int .i64 a1_2] 79 (0, 0)) (by (with_reducible repeat (first | refine blk_drewN ?_ _ | refine blk_drew ?_ | refine blk_alloc ?_ _)); exact BK148.out) hg (Kd.R_ne HO_13.out BK148.out (by decide))); have n4_ := Aside0.mk (hb); have n5_ := Aside0.mk (ho); clear HO_14; clear HO_18; clear BK147; clear BK148; clear HB; clear HO_13; have HO_14 := n0_; have HO_18 := n1_; have BK147 := n2_; have BK148 := n3_; have HB := n4_; have HO177 := n5_; clear n0_ n1_ n2_ n3_ n4_ n5_; clear ho hb hg hat))
                                                    go_roundg k6
                                                    case measure => have := HJ5.out; have := HJ14.out; have := HJ16.out; have := HK4.out; have := HK5.out; have := HK6.out; omega
                                                    case rel => exact ⟨(y175), (wrap64 (x17_5 + 1)), (by first | rfl | (simp; done) | (simp [*]; done)), H', ⟨by have := HJ5.out; have := HJ14.out; have := HJ16.out; have := HK4.out; have := HK5.out; have := HK6.out; omega⟩, ⟨by (with_reducible repeat (first | apply Kd.R_alloc | apply Kd.R_drewN | apply Kd.R_drew)); exact Kd.R_mono HO177.out (fun _ hk => hk.1)⟩, ⟨by (with_reducible repeat (first | apply Kd.R_alloc | apply Kd.R_drewN | apply Kd.R_drew)); exact Kd.R_mono HO_14.out (fun _ hk => hk.2)⟩, ⟨by (with_reducible repeat (first | refine blk_drewN ?_ _ | refine blk_drew ?_ | refine blk_alloc ?_ _)); exact BK147.out⟩, ⟨by (with_reducible repeat (first | refine blk_drewN ?_ _ | refine blk_drew ?_ | refine blk_alloc ?_ _)); exact BK148.out⟩, ⟨by repeat (first | (with_reducible first | exact HB.out | apply below_alloc | apply pw_below_drewN | apply below_drew1 | refine below_set ?_ GE147.out | refine below_set ?_ GE148.out) | exact HB.out)⟩⟩
                                                  · rw [if_neg c91] at H
                                                    exact absurd H (by simp)
                                                · rw [if_neg c90] at H
                                                  have c90b0 : decide (0 ≤ (rd t168 0)) = false := decide_eq_false c90
                                                  clear c90
                                                  have H' := Aside0.mk H
                                                  clear H
                                                  have p173 : 0 ≤ (0 : Int) := (by omega)
                                                  have q173 : 0 < (t168.length : Int) := of_decide_eq_true (by first | (with_reducible assumption) | assumption)
                                                  obtain ⟨ad173, e173, hx173_0⟩ := Kd.at_int (Kd.R_reads' HO_18.out).2.2 0 p173 q173
                                                  cases e173
                                                  have qi173 : (0 < t168.length) = True := eq_true (by omega)
                                                  (try rw [show ((0 : Int)).toNat = 0 from rfl] at hx173_0)
                                                  (try rw [Addr.add_zero'] at hx173_0)
                                                  replace p173 := eq_true p173
                                                  replace q173 := eq_true q173
                                                  go_wp2
                                                  go_roundg k6
                                                  case measure => have := HJ5.out; have := HJ14.out; have := HJ16.out; have := HK4.out; have := HK5.out; have := HK6.out; omega
                                                  case rel => exact ⟨(x13_5), (wrap64 (x17_5 + 1)), (by first | rfl | (simp; done) | (simp [*]; done)), H', ⟨by have := HJ5.out; have := HJ14.out; have := HJ16.out; have := HK4.out; have := HK5.out; have := HK6.out; omega⟩, ⟨by (with_reducible repeat (first | apply Kd.R_alloc | apply Kd.R_drewN | apply Kd.R_drew)); exact Kd.R_mono HO_13.out (fun _ hk => hk.1)⟩, ⟨by (with_reducible repeat (first | apply Kd.R_alloc | apply Kd.R_drewN | apply Kd.R_drew)); exact Kd.R_mono HO_14.out (fun _ hk => hk.1)⟩, ⟨by (with_reducible repeat (first | refine blk_drewN ?_ _ | refine blk_drew ?_ | refine blk_alloc ?_ _)); exact BK147.out⟩, ⟨by (with_reducible repeat (first | refine blk_drewN ?_ _ | refine blk_drew ?_ | refine blk_alloc ?_ _)); exact BK148.out⟩, ⟨by repeat (first | (with_reducible first | exact HB.out | apply below_alloc | apply pw_below_drewN | apply below_drew1 | refine below_set ?_ GE147.out | refine below_set ?_ GE148.out) | exact HB.out)⟩⟩
                                              · rw [if_neg c89] at H
                                                exact absurd H (by simp)
                                            · replace c88 := Bool.eq_false_iff.mpr c88
                                              subst c88
                                              have H1 : (tidewallref08_Diagnose.l1 k6 l2 x13_5 x14_4 (wrap64 (x17_5 + 1)) a0_0 a0_1 l0_2 a1_0 a1_1 a1_2) = some (r1, r2, r3) := by rw [if_neg (show ¬ (false = true) by decide)] at H; exact H
                                              clear H
                                              have H := H1
                                              clear H1
                                              have H' := Aside0.mk H
                                              clear H
                                              go_wp2
                                              go_roundg k6
                                              case measure => have := HJ5.out; have := HJ14.out; have := HJ16.out; have := HK4.out; have := HK5.out; have := HK6.out; omega
                                              case rel => exact ⟨(x13_5), (wrap64 (x17_5 + 1)), (by first | rfl | (simp; done) | (simp [*]; done)), H', ⟨by have := HJ5.out; have := HJ14.out; have := HJ16.out; have := HK4.out; have := HK5.out; have := HK6.out; omega⟩, ⟨by (with_reducible repeat (first | apply Kd.R_alloc | apply Kd.R_drewN | apply Kd.R_drew)); exact Kd.R_mono HO_13.out (fun _ hk => hk.1)⟩, ⟨by (with_reducible repeat (first | apply Kd.R_alloc | apply Kd.R_drewN | apply Kd.R_drew)); exact Kd.R_mono HO_14.out (fun _ hk => hk.1)⟩, ⟨by (with_reducible repeat (first | refine blk_drewN ?_ _ | refine blk_drew ?_ | refine blk_alloc ?_ _)); exact BK147.out⟩, ⟨by (with_reducible repeat (first | refine blk_drewN ?_ _ | refine blk_drew ?_ | refine blk_alloc ?_ _)); exact BK148.out⟩, ⟨by repeat (first | (with_reducible first | exact HB.out | apply below_alloc | apply pw_below_drewN | apply below_drew1 | refine below_set ?_ GE147.out | refine below_set ?_ GE148.out) | exact HB.out)⟩⟩
                                · rw [if_neg c67] at H
                                  exact absurd H (by simp)
                              · rw [if_neg c66] at H
                                have c66b0 : decide (x17_5 < (l2.length : Int)) = false := decide_eq_false c66
                                clear c66
                                replace H := Option.bind_eq_some_iff.mp H
                                obtain ⟨t160, A930, H⟩ := H
                                replace H : ((tidewallref08_ascending.f k5 a0_0 a0_1 l0_2 x14_4).bind fun t163 => (some (t160, t163, 0))) = some (r1, r2, r3) := H
                                have A93 := Aside0.mk A930
                                clear A930
                                replace H := Option.bind_eq_some_iff.mp H
                                obtain ⟨t163, A940, H⟩ := H
                                replace H : (some (t160, t163, 0)) = some (r1, r2, r3) := H
                                have A94 := Aside0.mk A940
                                clear A940
                                simp only [Option.some.injEq, Prod.mk.injEq] at H
                                obtain ⟨rfl, rfl, rfl⟩ := H
                                try go_wp2
                                have n0_ := Aside0.mk (Kd.R_drew HO_13.out)
                                have n1_ := Aside0.mk (Kd.R_drew HO_14.out)
                                have n2_ := Aside0.mk (blk_drew BK147.out)
                                have n3_ := Aside0.mk (blk_drew BK148.out)
                                have n4_ := Aside0.mk (below_drew1 HB.out)
                                clear HO_13
                                clear HO_14
                                clear BK147
                                clear BK148
                                clear HB
                                have HO_13 := n0_
                                have HO_14 := n1_
                                have BK147 := n2_
                                have BK148 := n3_
                                have HB := n4_
                                clear n0_ n1_ n2_ n3_ n4_
                                obtain ⟨Ao96, co96, eo96⟩ := Kd.R_slice HO_13.out
                                (first | subst eo96 | (injection eo96 with f1_ f2_ f3_; have f4_ := f1_.symm; have f5_ := f3_.symm; clear f1_ f2_ f3_; subst f4_; subst f5_))
                                refine start_ (n := 9) (S := fun w' => w'.cell? ⟨gb147, 0, none⟩ = some (.int .i64 a0_0) ∧ w'.cell? ⟨gb147, 1, none⟩ = some (.int .i64 a0_1) ∧ w'.cell? ⟨gb147, 2, none⟩ = some (.slice A0_2 l0_2.length c0_2)) (ds := []) #[false, false, false, false, false, false, false, false, false] (by kernel_rfl) rfl rfl ⟨(blk_cell BK147.out 0).trans rfl, (blk_cell BK147.out 1).trans rfl, (blk_cell BK147.out 2).trans rfl⟩ (fun hHeld => ?_); refine with_tabW tidewallref08_Diagnose.tab36 tidewallref08_Diagnose.bits36 (fun HT_ HW_ => ?_)
                                generalize wr.drew = w95 at HO_13 HO_14 BK147 BK148 HB hHeld ⊢
                                refine pure_ (i := 1) (N := some 143) (v := ?_) (a' := ?_) #[false, true, false, false, false, false, false, false, false] rfl rfl (any_of HT_.out (by kernel_rfl)) (fun _ _ _ h => h) (Or.inl ⟨by rfl, ?_⟩) ?_ ?_
                                rotate_left
                                · intro w'
                                  go_simp
                                  with_reducible rfl
                                rotate_left
                                · simp only [Act.put, List.setIfInBounds_toArray, List.set_cons_zero, List.set_cons_succ, i64_w, i32_w]
                                  rfl
                                refine pure_ (i := 4) (N := some 146) (v := ?_) (a' := ?_) #[false, true, false, false, true, false, false, false, false] rfl rfl (any_of HT_.out (by kernel_rfl)) (fun _ _ _ h => h) (Or.inl ⟨by rfl, ?_⟩) ?_ ?_
                                rotate_left
                                · intro w'
                                  go_simp
                                  with_reducible rfl
                                rotate_left
                                · simp only [Act.put, List.setIfInBounds_toArray, List.set_cons_zero, List.set_cons_succ, i64_w, i32_w]
                                  rfl
                                refine take_ (i := 0) (N := some 142) (v := ?_) (a' := ?_) #[true, true, false, false, true, false, false, false, false] rfl rfl (take_ofW HT_.out HW_.out (by kernel_rfl)) (fun _ _ _ h => h) (Or.inl ⟨by rfl, ?_⟩) hHeld ?_ ?_
                                rotate_left
                                · rintro w' ⟨s0, s1, s2⟩
                                  go_simp
                                  with_reducible rfl
                                rotate_left
                                · simp only [Act.put, List.setIfInBounds_toArray, List.set_cons_zero, List.set_cons_succ, i64_w, i32_w]
                                  rfl
                                refine take_ (i := 3) (N := some 145) (v := ?_) (a' := ?_) #[true, true, false, true, true, false, false, false, false] rfl rfl (take_ofW HT_.out HW_.out (by kernel_rfl)) (fun _ _ _ h => h) (Or.inl ⟨by rfl, ?_⟩) hHeld ?_ ?_
                                rotate_left
                                · rintro w' ⟨s0, s1, s2⟩
                                  go_simp
                                  with_reducible rfl
                                rotate_left
                                · simp only [Act.put, List.setIfInBounds_toArray, List.set_cons_zero, List.set_cons_succ, i64_w, i32_w]
                                  rfl
                                refine one_ (i := 2) (N := some 144) #[true, true, true, true, true, false, false, false, false] rfl rfl (one_of HT_.out (by kernel_rfl)) (by decide) (fun K hK => ?_)
                                refine goes_ Try.func86 (by kernel_rfl) rfl #[.agg #[.int .i64 a0_0, .int .i64 a0_1, .slice A0_2 l0_2.length c0_2], .slice Ao96 x13_5.length co96] (by rfl) rfl rfl (by (try simp only [List.map_toArray, List.map_cons, List.map_nil]); first | done | rfl | (simp only [List.length_drop, List.length_take]; rfl)) ?_
                                with_reducible refine (tidewallref08_ascending.calls k5 a0_0 a0_1 _ _ l0_2 _ _ x13_5 t160 _ ?side1 ?side2 ?side3 ?side4 A93.out).mono ?_
                                (case side1 => repeat (first | exact (Kd.C_below HR0_2.out HB.out) | (with_reducible refine Kd.C_alloc ?_ _) | (with_reducible refine Kd.C_drewN ?_ _) | (with_reducible refine Kd.C_drew ?_)))
                                (case side2 => exact HC0_2.out)
                                (case side3 => repeat (first | exact (Kd.R_reads' HO_13.out).2.2 | (with_reducible refine Kd.C_alloc ?_ _) | (with_reducible refine Kd.C_drewN ?_ _) | (with_reducible refine Kd.C_drew ?_)))
                                (case side4 => exact (Kd.R_reads' HO_13.out).2.1)
                                rintro e w97 ⟨v161, rfl, ho0, hb⟩
                                refine ⟨_, rfl, ?_⟩
                                have n0_ := Aside0.mk (Kd.R_elder' (by (with_reducible repeat (first | apply Kd.R_alloc | apply Kd.R_drewN | apply Kd.R_drew)); exact HO_13.out) (Kd.R_base ho0) hb)
                                have n1_ := Aside0.mk (Kd.R_elder' (by (with_reducible repeat (first | apply Kd.R_alloc | apply Kd.R_drewN | apply Kd.R_drew)); exact HO_14.out) (Kd.R_base ho0) hb)
                                have n2_ := Aside0.mk (Kd.R_lower (Kd.R_new' (Kd.R_new' ho0 (Kd.R_lt (by (with_reducible repeat (first | apply Kd.R_alloc | apply Kd.R_drewN | apply Kd.R_drew)); exact HO_13.out))) (Kd.R_lt (by (with_reducible repeat (first | apply Kd.R_alloc | apply Kd.R_drewN | apply Kd.R_drew)); exact HO_14.out))) (below_size (by repeat (first | (with_reducible first | exact HB.out | apply below_alloc | apply pw_below_drewN | apply below_drew1 | refine below_set ?_ GE147.out | refine below_set ?_ GE148.out) | exact HB.out))))
                                have n3_ := Aside0.mk (blk_below (g := gb147) (o := .cells #[.int .i64 a0_0, .int .i64 a0_1, .slice A0_2 l0_2.length c0_2] 77 (0, 0)) (by (with_reducible repeat (first | refine blk_drewN ?_ _ | refine blk_drew ?_ | refine blk_alloc ?_ _)); exact BK147.out) hb)
                                have n4_ := Aside0.mk (blk_below (g := gb148) (o := .cells #[.int .i64 a1_0, .int .i64 a1_1, .int .i64 a1_2] 79 (0, 0)) (by (with_reducible repeat (first | refine blk_drewN ?_ _ | refine blk_drew ?_ | refine blk_alloc ?_ _)); exact BK148.out) hb)
                                have n5_ := Aside0.mk (below_step (by repeat (first | (with_reducible first | exact HB.out | apply below_alloc | apply pw_below_drewN | apply below_drew1 | refine below_set ?_ GE147.out | refine below_set ?_ GE148.out) | exact HB.out)) hb)
                                clear HO_13
                                clear HO_14
                                clear BK147
                                clear BK148
                                clear HB
                                have HO_13 := n0_
                                have HO_14 := n1_
                                have HO162 := n2_
                                have BK147 := n3_
                                have BK148 := n4_
                                have HB := n5_
                                clear n0_ n1_ n2_ n3_ n4_ n5_
                                (try clear hb)
                                (try clear hb2)
                                (try clear hk)
                                (try clear hi)
                                (try clear ho0)
                                obtain ⟨Ao98, co98, eo98⟩ := Kd.R_slice HO_14.out
                                (first | subst eo98 | (injection eo98 with f1_ f2_ f3_; have f4_ := f1_.symm; have f5_ := f3_.symm; clear f1_ f2_ f3_; subst f4_; subst f5_))
                                refine hK.out _ _ ⟨(blk_cell BK147.out 0).trans rfl, (blk_cell BK147.out 1).trans rfl, (blk_cell BK147.out 2).trans rfl⟩ (fun hHeld => ?_)
                                clear hK K
                                refine norm_ (a' := ?_) ?_ ?_
                                rotate_left
                                · show Act.put _ (some 144) _ = _
                                  simp only [Act.put, List.setIfInBounds_toArray, List.set_cons_zero, List.set_cons_succ, i64_w, i32_w]
                                  rfl
                                refine one_ (i := 5) (N := some 147) #[true, true, true, true, true, true, false, false, false] rfl rfl (one_of HT_.out (by kernel_rfl)) (by decide) (fun K hK => ?_)
                                refine goes_ Try.func86 (by kernel_rfl) rfl #[.agg #[.int .i64 a0_0, .int .i64 a0_1, .slice A0_2 l0_2.length c0_2], .slice Ao98 x14_4.length co98] (by rfl) rfl rfl (by (try simp only [List.map_toArray, List.map_cons, List.map_nil]); first | done | rfl | (simp only [List.length_drop, List.length_take]; rfl)) ?_
                                with_reducible refine (tidewallref08_ascending.calls k5 a0_0 a0_1 _ _ l0_2 _ _ x14_4 t163 _ ?side1 ?side2 ?side3 ?side4 A94.out).mono ?_
                                (case side1 => repeat (first | exact (Kd.C_below HR0_2.out HB.out) | (with_reducible refine Kd.C_alloc ?_ _) | (with_reducible refine Kd.C_drewN ?_ _) | (with_reducible refine Kd.C_drew ?_)))
                                (case side2 => exact HC0_2.out)
                                (case side3 => repeat (first | exact (Kd.R_reads' HO_14.out).2.2 | (with_reducible refine Kd.C_alloc ?_ _) | (with_reducible refine Kd.C_drewN ?_ _) | (with_reducible refine Kd.C_drew ?_)))
                                (case side4 => exact (Kd.R_reads' HO_14.out).2.1)
                                rintro e w99 ⟨v164, rfl, ho0, hb⟩
                                refine ⟨_, rfl, ?_⟩
                                have n0_ := Aside0.mk (Kd.R_elder' (by (with_reducible repeat (first | apply Kd.R_alloc | apply Kd.R_drewN | apply Kd.R_drew)); exact HO_13.out) (Kd.R_base ho0) hb)
                                have n1_ := Aside0.mk (Kd.R_elder' (by (with_reducible repeat (first | apply Kd.R_alloc | apply Kd.R_drewN | apply Kd.R_drew)); exact HO_14.out) (Kd.R_base ho0) hb)
                                have n2_ := Aside0.mk (Kd.R_elder' (by (with_reducible repeat (first | apply Kd.R_alloc | apply Kd.R_drewN | apply Kd.R_drew)); exact HO162.out) (Kd.R_base ho0) hb)
                                have n3_ := Aside0.mk (Kd.R_lower (Kd.R_new' (Kd.R_new' (Kd.R_new' ho0 (Kd.R_lt (by (with_reducible repeat (first | apply Kd.R_alloc | apply Kd.R_drewN | apply Kd.R_drew)); exact HO_13.out))) (Kd.R_lt (by (with_reducible repeat (first | apply Kd.R_alloc | apply Kd.R_drewN | apply Kd.R_drew)); exact HO_14.out))) (Kd.R_lt (by (with_reducible repeat (first | apply Kd.R_alloc | apply Kd.R_drewN | apply Kd.R_drew)); exact HO162.out))) (below_size (by repeat (first | (with_reducible first | exact HB.out | apply below_alloc | apply pw_below_drewN | apply below_drew1 | refine below_set ?_ GE147.out | refine below_set ?_ GE148.out) | exact HB.out))))
                                have n4_ := Aside0.mk (blk_below (g := gb147) (o := .cells #[.int .i64 a0_0, .int .i64 a0_1, .slice A0_2 l0_2.length c0_2] 77 (0, 0)) (by (with_reducible repeat (first | refine blk_drewN ?_ _ | refine blk_drew ?_ | refine blk_alloc ?_ _)); exact BK147.out) hb)
                                have n5_ := Aside0.mk (blk_below (g := gb148) (o := .cells #[.int .i64 a1_0, .int .i64 a1_1, .int .i64 a1_2] 79 (0, 0)) (by (with_reducible repeat (first | refine blk_drewN ?_ _ | refine blk_drew ?_ | refine blk_alloc ?_ _)); exact BK148.out) hb)
                                have n6_ := Aside0.mk (below_step (by repeat (first | (with_reducible first | exact HB.out | apply below_alloc | apply pw_below_drewN | apply below_drew1 | refine below_set ?_ GE147.out | refine below_set ?_ GE148.out) | exact HB.out)) hb)
                                clear HO_13
                                clear HO_14
                                clear HO162
                                clear BK147
                                clear BK148
                                clear HB
                                have HO_13 := n0_
                                have HO_14 := n1_
                                have HO162 := n2_
                                have HO165 := n3_
                                have BK147 := n4_
                                have BK148 := n5_
                                have HB := n6_
                                clear n0_ n1_ n2_ n3_ n4_ n5_ n6_
                                (try clear hb)
                                (try clear hb2)
                                (try clear hk)
                                (try clear hi)
                                (try clear ho0)
                                refine hK.out _ _ ⟨(blk_cell BK147.out 0).trans rfl, (blk_cell BK147.out 1).trans rfl, (blk_cell BK147.out 2).trans rfl⟩ (fun hHeld => ?_)
                                clear hK K
                                refine norm_ (a' := ?_) ?_ ?_
                                rotate_left
                                · show Act.put _ (some 147) _ = _
                                  simp only [Act.put, List.setIfInBounds_toArray, List.set_cons_zero, List.set_cons_succ, i64_w, i32_w]
                                  rfl
                                refine pure_ (i := 6) (N := some 8) (v := ?_) (a' := ?_) #[true, true, true, true, true, true, true, false, false] rfl rfl (any_of HT_.out (by kernel_rfl)) (fun _ _ _ h => h) (Or.inl ⟨by rfl, ?_⟩) ?_ ?_
                                rotate_left
                                · intro w'
                                  go_simp
                                  with_reducible rfl
                                rotate_left
                                · simp only [Act.put, List.setIfInBounds_toArray, List.set_cons_zero, List.set_cons_succ, i64_w, i32_w]
                                  rfl
                                refine pure_ (i := 7) (N := some 9) (v := ?_) (a' := ?_) #[true, true, true, true, true, true, true, true, false] rfl rfl (any_of HT_.out (by kernel_rfl)) (fun _ _ _ h => h) (Or.inl ⟨by rfl, ?_⟩) ?_ ?_
                                rotate_left
                                · intro w'
                                  go_simp
                                  with_reducible rfl
                                rotate_left
                                · simp only [Act.put, List.setIfInBounds_toArray, List.set_cons_zero, List.set_cons_succ, i64_w, i32_w]
                                  rfl
                                refine pure_ (i := 8) (N := some 10) (v := ?_) (a' := ?_) #[true, true, true, true, true, true, true, true, true] rfl rfl (any_of HT_.out (by kernel_rfl)) (fun _ _ _ h => h) (Or.inl ⟨by rfl, ?_⟩) ?_ ?_
                                rotate_left
                                · intro w'
                                  go_simp
                                  with_reducible rfl
                                rotate_left
                                · simp only [Act.put, List.setIfInBounds_toArray, List.set_cons_zero, List.set_cons_succ, i64_w, i32_w]
                                  rfl
                                refine done_ (done_of HT_.out (by kernel_rfl)) ?_
                                try go_wp2
                                go_ret3
                                exact ⟨_, _, by first | rfl | (simp [errW_none, errW_some] <;> rfl) | (simp [*, errW_none, errW_some] <;> rfl), by (with_reducible repeat (first | apply Kd.R_alloc | apply Kd.R_drewN | apply Kd.R_drew)); exact Kd.R_mono HO162.out (fun _ hk => hk.2), by (with_reducible repeat (first | apply Kd.R_alloc | apply Kd.R_drewN | apply Kd.R_drew)); exact Kd.R_mono HO165.out (fun _ hk => hk.2), by repeat (first | (with_reducible first | exact HB.out | apply below_alloc | apply pw_below_drewN | apply below_drew1 | refine below_set ?_ GE147.out | refine below_set ?_ GE148.out) | exact HB.out)⟩
                  · replace c29 := Bool.eq_false_iff.mpr c29
                    subst c29
                    have H1 : (some (([] : List Int), ([] : List Int), 14)) = some (r1, r2, r3) := by rw [if_neg (show ¬ (false = true) by decide)] at H; exact H
                    clear H
                    have H := H1
                    clear H1
                    simp only [Option.some.injEq, Prod.mk.injEq] at H
                    obtain ⟨rfl, rfl, rfl⟩ := H
                    have hnb100 := NB148_147.out
                    have hnc100 := NB147_148.out
                    have hcz101_0 : wc.cell? ⟨gb148, 0, none⟩ = some (.int .i64 a1_0) := (blk_cell BK148.out 0).trans rfl
                    have hcz101_1 : wc.cell? ⟨gb148, 1, none⟩ = some (.int .i64 a1_1) := (blk_cell BK148.out 1).trans rfl
                    have hcz101_2 : wc.cell? ⟨gb148, 2, none⟩ = some (.int .i64 a1_2) := (blk_cell BK148.out 2).trans rfl
                    have hfz101_0 := blk_frozen BK148.out 0
                    have hfz101_1 := blk_frozen BK148.out 1
                    have hfz101_2 := blk_frozen BK148.out 2
                    go_wp2_with (first | ((with_reducible refine gate_callee (f := 83) rfl ?_); refine goesL_ (some 43) rfl rfl Try.func83 (by kernel_rfl) rfl #[.slice A2 l2.length c2, .int .i64 a1_0] rfl (by (try simp only [List.map_toArray, List.map_cons, List.map_nil]); first | done | rfl | (simp only [List.length_drop, List.length_take]; rfl)) ?_; (with_reducible refine (tidewallref08_time.calls kj16 _ _ l2 a1_0 t152 _ ?side1 ?side2 A24.out).mono ?_); (case side1 => repeat (first | exact (Kd.C_below HR2.out HB.out) | (with_reducible refine Kd.C_alloc ?_ _) | (with_reducible refine Kd.C_drewN ?_ _) | (with_reducible refine Kd.C_drew ?_))); (case side2 => exact HC2.out); rintro e w' ⟨rfl, ⟨nd, rfl⟩⟩; refine ⟨_, rfl, ?_⟩) | ((with_reducible refine gate_callee (f := 81) rfl ?_); refine goesL_ (some 53) rfl rfl Try.func81 (by kernel_rfl) rfl #[.int .i64 t152, .int .i64 a1_1, .int .i64 a1_2] rfl (by (try simp only [List.map_toArray, List.map_cons, List.map_nil]); first | done | rfl | (simp only [List.length_drop, List.length_take]; rfl)) ?_; (with_reducible refine (tidewallref08_within.calls t152 a1_1 a1_2 false _ A28.out).mono ?_); rintro e w' ⟨rfl, ⟨nd, rfl⟩⟩; refine ⟨_, rfl, ?_⟩))
                    go_ret3
                    exact ⟨_, _, by first | rfl | (simp [errW_none, errW_some] <;> rfl) | (simp [*, errW_none, errW_some] <;> rfl), by first | exact Kd.R_nil _ _ _ _ _ | exact Kd.N_nil _ _ _ _ _ | exact Kd.V_nil _ _ _ _ _ | exact Kd.Q_nil _ _ _ _ _ | exact Kd.S_nil _ _ _ _ _, by first | exact Kd.R_nil _ _ _ _ _ | exact Kd.N_nil _ _ _ _ _ | exact Kd.V_nil _ _ _ _ _ | exact Kd.Q_nil _ _ _ _ _ | exact Kd.S_nil _ _ _ _ _, by repeat (first | (with_reducible first | exact HB.out | apply below_alloc | apply pw_below_drewN | apply below_drew1 | refine below_set ?_ GE147.out | refine below_set ?_ GE148.out) | exact HB.out)⟩
              · rw [if_neg c23] at H
                have c23b0 : (x11_16 == 0) = false := beq_eq_false_iff_ne.mpr c23
                have c23b1 : (x11_16 != 0) = true := bne_iff_ne.mpr c23
                simp only [Option.some.injEq, Prod.mk.injEq] at H
                obtain ⟨rfl, rfl, rfl⟩ := H
                go_wp2
                go_ret3
                exact ⟨_, _, by first | rfl | (simp [errW_none, errW_some] <;> rfl) | (simp [*, errW_none, errW_some] <;> rfl), by first | exact Kd.R_nil _ _ _ _ _ | exact Kd.N_nil _ _ _ _ _ | exact Kd.V_nil _ _ _ _ _ | exact Kd.Q_nil _ _ _ _ _ | exact Kd.S_nil _ _ _ _ _, by first | exact Kd.R_nil _ _ _ _ _ | exact Kd.N_nil _ _ _ _ _ | exact Kd.V_nil _ _ _ _ _ | exact Kd.Q_nil _ _ _ _ _ | exact Kd.S_nil _ _ _ _ _, by repeat (first | (with_reducible first | exact HB.out | apply below_alloc | apply pw_below_drewN | apply below_drew1 | refine below_set ?_ GE147.out | refine below_set ?_ GE148.out) | exact HB.out)⟩
end Go.Proofs.Ytgmglpnoppcnkaa.PR
end
section
namespace Go.Proofs.Ytgmglpnoppcnkaa
open Go.RowKit Go.Proofs.YtgmglpnoppcnkaaW.PrintWords Go.Proofs.YtgmglpnoppcnkaaW.PrintLast Go.Proofs.YtgmglpnoppcnkaaW.PrintMore
set_option linter.unusedVariables false
set_option linter.unusedSimpArgs false
def cvL (l : Lk) : PR.S175 := ⟨l.f0, l.f1, ⟨l.f2.f0, l.f2.f1⟩, l.f3, l.f4⟩
def cvR (x : Du) : PR.S70 := ⟨x.f0, x.f1⟩
theorem rd175 (ls : List Lk) (i : Nat) (h : i < ls.length) : PR.rd_T175 (ls.map cvL) (i : Int) = cvL ls[i] := by simp [PR.rd_T175, h]
theorem rd70 (l : List Du) (i : Nat) (h : i < l.length) : PR.rd_T70 (l.map cvR) (i : Int) = cvR l[i] := by simp [PR.rd_T70, h]
theorem rwithin (a lo hi : Int) : PR.tidewallref08_within.f a lo hi = some (decide (lo ≤ a ∧ a ≤ hi)) := by
  unfold PR.tidewallref08_within.f
  by_cases h : lo ≤ a
  · rw [if_pos h]; simp [h]
  · rw [if_neg h]; simp [h]
theorem rspan (lo hi : Int) : PR.tidewallref08_span.f lo hi = some (decide (timedP lo hi)) := by
  unfold PR.tidewallref08_span.f timedP
  by_cases h2 : lo ≤ hi
  · rw [if_pos h2]
    by_cases h : 0 ≤ lo
    · rw [if_pos h]; simp [h, h2]
    · rw [if_neg h]; simp [h]
  · rw [if_neg h2]; simp [h2]
theorem Ev.eq {α : Type} {g : Nat → Option α} {r q : α} (h : Ev g r) (e : r = q) : Ev g q := e ▸ h
theorem rcheck_loop (nn uu : Int) (ls : List Lk) (h1 : 1 ≤ nn ∧ nn ≤ 64) (h2 : 0 ≤ uu ∧ uu ≤ 20) (hl : ls.length ≤ 256) :
    ∀ (d i : Nat), i + d = ls.length → ∃ k, PR.tidewallref08_Check.l0 k (i : Int) nn uu (ls.map cvL) = some (linksErr nn uu (ls.drop i)) := by
  intro d
  induction d with
  | zero =>
    intro i hi
    refine ⟨1, ?_⟩
    rw [PR.tidewallref08_Check.l0, if_neg (by rw [List.length_map]; omega), List.drop_of_length_le (by omega)]
    rfl
  | succ d ih =>
    intro i hi
    obtain ⟨k, hk⟩ := ih (i + 1) (by omega)
    have hlt : i < ls.length := by omega
    obtain ⟨l, hl'⟩ : ∃ l, l = ls[i] := ⟨_, rfl⟩
    have hrd : PR.rd_T175 (ls.map cvL) (i : Int) = cvL l := by rw [rd175 ls i hlt, hl']
    have hdrop : ls.drop i = l :: ls.drop (i + 1) := by rw [hl']; exact List.drop_eq_getElem_cons hlt
    have hj : ∀ b : Bool, PR.tidewallref08_Check.j2 (k + 1) (i : Int) b nn uu (ls.map cvL) l.f0 l.f1 l.f2.f0 l.f2.f1 l.f3 l.f4 =
        if b = true then some 4 else if l.f0 = l.f1 then some 2 else if timedP l.f2.f0 l.f2.f1 then some (linksErr nn uu (ls.drop (i + 1))) else some 3 := by
      intro b
      rw [PR.tidewallref08_Check.j2, rspan]
      have e : wrap64 ((i : Int) + 1) = ((i + 1 : Nat) : Int) := by rw [wrap_succ (by omega) (by omega)]; omega
      rw [e, hk]
      simp only [Option.bind_some, decide_eq_true_eq]
    refine ⟨k + 2, ?_⟩
    rw [PR.tidewallref08_Check.l0, if_pos (by rw [List.length_map]; omega), if_pos (by omega), hrd]
    simp only [rwithin, wrap_pred (show 0 ≤ nn by omega) (by omega), wrap_pred (show 0 ≤ uu by omega) (by omega), Option.bind_some, cvL, hj, decide_eq_true_eq]
    rw [hdrop, linksErr]
    by_cases c1 : 0 ≤ l.f0 ∧ l.f0 ≤ nn - 1
    · by_cases c2 : 0 ≤ l.f1 ∧ l.f1 ≤ nn - 1
      · by_cases c3 : -1 ≤ l.f3 ∧ l.f3 ≤ uu - 1
        · have c3' : (!decide (-1 ≤ l.f3 ∧ l.f3 ≤ uu - 1)) = false := by rw [decide_eq_true c3]; rfl
          have hb : ¬ linkBad nn uu l := by unfold linkBad; omega
          rw [if_pos c1, if_pos c2, c3', if_neg (by decide)]
          by_cases c4 : l.f0 = l.f1
          · have : linkErr nn uu l = 2 := by unfold linkErr; rw [if_neg hb, if_pos c4]
            rw [if_pos c4, this]; simp
          · rw [if_neg c4]
            by_cases c5 : timedP l.f2.f0 l.f2.f1
            · have : linkErr nn uu l = 0 := by unfold linkErr; rw [if_neg hb, if_neg c4, if_pos c5]
              rw [if_pos c5, this]; simp
            · have : linkErr nn uu l = 3 := by unfold linkErr; rw [if_neg hb, if_neg c4, if_neg c5]
              rw [if_neg c5, this]; simp
        · have c3' : (!decide (-1 ≤ l.f3 ∧ l.f3 ≤ uu - 1)) = true := by rw [decide_eq_false c3]; rfl
          have : linkErr nn uu l = 4 := by unfold linkErr; rw [if_pos (by unfold linkBad; exact .inr (.inr c3))]
          rw [if_pos c1, if_pos c2, c3', if_pos rfl, this]; simp
      · have : linkErr nn uu l = 4 := by unfold linkErr; rw [if_pos (by unfold linkBad; exact .inr (.inl c2))]
        rw [if_pos c1, if_neg c2, if_pos trivial, this]; simp
    · have : linkErr nn uu l = 4 := by unfold linkErr; rw [if_pos (by unfold linkBad; exact .inl c1)]
      rw [if_neg c1, if_pos trivial, this]; simp
theorem rcheck_eq (nn uu : Int) (ls : List Lk) : ∃ k, PR.tidewallref08_Check.f k nn uu (ls.map cvL) = some (checkE nn uu ls) := by
  unfold PR.tidewallref08_Check.f checkE
  simp only [rwithin, Option.bind_some, decide_eq_true_eq]
  by_cases h1 : 1 ≤ nn ∧ nn ≤ 64
  · by_cases h2 : 0 ≤ uu ∧ uu ≤ 20
    · rw [if_pos ⟨h1, h2⟩]
      by_cases h3 : 256 < ls.length
      · refine ⟨1, ?_⟩
        rw [if_pos h1, decide_eq_true h2, PR.tidewallref08_Check.j0, if_neg (by decide), if_pos (by rw [List.length_map]; omega), if_pos h3]
      · obtain ⟨k, hk⟩ := rcheck_loop nn uu ls h1 h2 (by omega) ls.length 0 (by omega)
        refine ⟨k + 1, ?_⟩
        rw [if_pos h1, decide_eq_true h2, PR.tidewallref08_Check.j0, if_neg (by decide), if_neg (by rw [List.length_map]; omega), if_neg h3]
        simpa using hk
    · refine ⟨1, ?_⟩
      rw [if_pos h1, decide_eq_false h2, PR.tidewallref08_Check.j0, if_pos (show (!false) = true from rfl), if_neg (fun h => h2 h.2)]
  · refine ⟨1, ?_⟩
    rw [if_neg h1, PR.tidewallref08_Check.j0, if_pos (show true = true from rfl), if_neg (fun h => h1 h.1)]
theorem rcheck_ev (nn uu : Int) (ls : List Lk) : Ev (fun k => PR.tidewallref08_Check.f k nn uu (ls.map cvL)) (checkE nn uu ls) := by
  obtain ⟨k, hk⟩ := rcheck_eq nn uu ls
  exact Ev.of (PR.tidewallref08_Check.mono _ _ _) hk
theorem rstart_ev (nn uu : Int) (ls : List Lk) (sn lo hi : Int) : Ev (fun k => PR.tidewallref08_start.f k nn uu (ls.map cvL) sn lo hi) (startE nn uu ls sn lo hi) := by
  unfold PR.tidewallref08_start.f
  refine Ev.bind (rcheck_ev nn uu ls) ?_
  by_cases h : checkE nn uu ls = 0
  · have hn := checkE_ok h
    have h1 := hn.n1
    have h2 := hn.n2
    have e : startE nn uu ls sn lo hi = if 0 ≤ sn ∧ sn ≤ nn - 1 then (if timedP lo hi then 0 else 3) else 4 := by unfold startE; rw [if_pos h]
    refine Ev.eq (Ev.congr (f := fun _ => some (if 0 ≤ sn ∧ sn ≤ nn - 1 then (if timedP lo hi then 0 else 3) else 4)) (fun k => ?_) (Ev.now _)) e.symm
    simp only [rwithin, rspan, Option.bind_some, decide_eq_true_eq, wrap_pred (show 0 ≤ nn by omega) (by omega)]
    rw [if_pos h]
    split
    · split <;> rfl
    · rfl
  · have e : startE nn uu ls sn lo hi = checkE nn uu ls := by unfold startE; rw [if_neg h]
    refine Ev.eq (Ev.congr (f := fun _ => some (checkE nn uu ls)) (fun k => if_neg h) (Ev.now _)) e.symm
theorem tmOf_cons (x : Du) (l : List Du) (a : Int) : tmOf (x :: l) a = if x.f0 = a then some x.f1 else tmOf l a := by
  unfold tmOf
  rw [List.find?_cons]
  by_cases h : x.f0 = a
  · simp [h]
  · simp [h]
theorem time_loop (l : List Du) (hl : l.length ≤ 1000000) (a : Int) : ∀ (d i : Nat), i + d = l.length → Ev (fun k => PR.tidewallref08_time.l0 k (l.map cvR) a (i : Int)) ((tmOf (l.drop i) a).getD (-1)) := by
  intro d
  induction d with
  | zero =>
    intro i hi
    rw [List.drop_of_length_le (by omega)]
    exact Ev.step (f := fun _ => some (-1)) (fun k => by rw [PR.tidewallref08_time.l0, if_neg (by rw [List.length_map]; omega)]) (Ev.now _)
  | succ d ih =>
    intro i hi
    have hlt : i < l.length := by omega
    rw [List.drop_eq_getElem_cons hlt, tmOf_cons]
    by_cases h : l[i].f0 = a
    · rw [if_pos h]
      exact Ev.step (f := fun _ => some l[i].f1) (fun k => by rw [PR.tidewallref08_time.l0, if_pos (by rw [List.length_map]; omega), if_pos (by omega), rd70 l i hlt, if_pos (show (cvR l[i]).f0 = a from h)]; rfl) (Ev.now _)
    · rw [if_neg h]
      refine Ev.step (fun k => ?_) (ih (i + 1) (by omega))
      rw [PR.tidewallref08_time.l0, if_pos (by rw [List.length_map]; omega), if_pos (by omega), rd70 l i hlt, if_neg (show ¬ (cvR l[i]).f0 = a from h), wrap_succ (by omega) (by omega)]
      rfl
theorem time_ev (l : List Du) (hl : l.length ≤ 1000000) (a : Int) : Ev (fun k => PR.tidewallref08_time.f k (l.map cvR) a) ((tmOf l a).getD (-1)) := by
  unfold PR.tidewallref08_time.f
  exact time_loop l hl a l.length 0 (by omega)
theorem has_loop (l : List Int) (hl : l.length ≤ 1000000) (a : Int) : ∀ (d i : Nat), i + d = l.length → Ev (fun k => PR.tidewallref08_has.l0 k l a (i : Int)) (decide (a ∈ l.drop i)) := by
  intro d
  induction d with
  | zero =>
    intro i hi
    rw [List.drop_of_length_le (by omega)]
    refine Ev.eq (Ev.step (f := fun _ => some false) (fun k => by rw [PR.tidewallref08_has.l0, if_neg (by omega)]) (Ev.now _)) ?_
    simp
  | succ d ih =>
    intro i hi
    have hlt : i < l.length := by omega
    have hrd : rd l (i : Int) = l[i] := by simp [rd, hlt]
    rw [List.drop_eq_getElem_cons hlt]
    by_cases h : l[i] = a
    · refine Ev.eq (Ev.step (f := fun _ => some true) (fun k => by rw [PR.tidewallref08_has.l0, if_pos (by omega), if_pos (by omega), hrd, if_pos h]) (Ev.now _)) ?_
      simp [h]
    · refine Ev.eq (Ev.step (fun k => ?_) (ih (i + 1) (by omega))) ?_
      · rw [PR.tidewallref08_has.l0, if_pos (by omega), if_pos (by omega), hrd, if_neg h, wrap_succ (by omega) (by omega)]
        rfl
      · have : ¬ a = l[i] := fun e => h e.symm
        exact decide_eq_decide.2 ⟨fun hm => List.mem_cons_of_mem _ hm, fun hm => (List.mem_cons.1 hm).resolve_left this⟩
theorem has_ev (l : List Int) (hl : l.length ≤ 1000000) (a : Int) : Ev (fun k => PR.tidewallref08_has.f k l a) (decide (a ∈ l)) := by
  unfold PR.tidewallref08_has.f
  exact has_loop l hl a l.length 0 (by omega)
theorem rsilent_ev (l : List Du) (hl : l.length ≤ 1000000) (x : Lk) (u : Int) (hb : ∀ k t, tmOf l k = some t → 0 ≤ t ∧ t ≤ 1000000000) (hd : 0 ≤ x.f2.f1 ∧ x.f2.f1 ≤ 1000000000) :
    Ev (fun k => PR.tidewallref08_silent.f k x.f0 x.f1 x.f2.f0 x.f2.f1 x.f3 x.f4 (l.map cvR) u) (silentB (tmOf l) x u) := by
  unfold PR.tidewallref08_silent.f
  refine Ev.bind (time_ev l hl x.f0) (Ev.bind (time_ev l hl x.f1) ?_)
  refine Ev.congr (f := fun _ => some (silentB (tmOf l) x u)) (fun k => ?_) (Ev.now _)
  unfold silentB
  cases h0 : tmOf l x.f0 with
  | none =>
    cases h4 : x.f4 <;> simp
  | some t =>
    have ht := hb _ _ h0
    have hw : wrap64 (t + x.f2.f1) = t + x.f2.f1 := by unfold wrap64; omega
    cases h4 : x.f4
    · simp
    · simp only [Option.getD_some, hw, if_true, Bool.true_and]
      rw [if_neg (by omega)]
      by_cases h5 : t + x.f2.f1 > u
      · rw [if_pos h5]
        have : decide (t + x.f2.f1 ≤ u) = false := by simpa using h5
        rw [this]; rfl
      · rw [if_neg h5]
        have : decide (t + x.f2.f1 ≤ u) = true := by simpa using h5
        rw [this]
        cases h1 : tmOf l x.f1 with
        | none => simp
        | some s =>
          have hs := hb _ _ h1
          simp only [Option.getD_some, Bool.true_and]
          rw [if_neg (by omega)]
def ascL (l : List Int) (n : Nat) : List Int := (List.range n).filterMap (fun (j : Nat) => if (j : Int) ∈ l then some (j : Int) else none)
theorem ascL_succ (l : List Int) (n : Nat) : ascL l (n + 1) = if (n : Int) ∈ l then ascL l n ++ [(n : Int)] else ascL l n := by
  unfold ascL
  rw [List.range_succ, List.filterMap_append]
  by_cases h : (n : Int) ∈ l <;> simp [h]
theorem ascL_len (l : List Int) (n : Nat) : (ascL l n).length ≤ n := by
  unfold ascL
  exact Nat.le_trans (List.length_filterMap_le ..) (by simp)
theorem asc_loop (l : List Int) (hl : l.length ≤ 1000000) (nn : Int) (uu : Nat) (hu : uu ≤ 20) (ls : List PR.S175) : ∀ (d i : Nat), i + d = uu → Ev (fun k => PR.tidewallref08_ascending.l0 k l (ascL l i) (i : Int) nn (uu : Int) ls) (ascL l uu) := by
  intro d
  induction d with
  | zero =>
    intro i hi
    obtain rfl : i = uu := by omega
    exact Ev.step (f := fun _ => some (ascL l i)) (fun k => by rw [PR.tidewallref08_ascending.l0, if_neg (by omega)]) (Ev.now _)
  | succ d ih =>
    intro i hi
    have hlen := ascL_len l i
    have h := ih (i + 1) (by omega)
    refine Ev.step (fun k => by rw [PR.tidewallref08_ascending.l0, if_pos (by omega)]) (Ev.bind (has_ev l hl i) ?_)
    rw [ascL_succ] at h
    by_cases hm : (i : Int) ∈ l
    · rw [if_pos hm] at h
      refine Ev.congr (fun k => ?_) h
      rw [if_pos (by simpa using hm), if_pos (by omega), wrap_succ (by omega) (by omega)]
      rfl
    · rw [if_neg hm] at h
      refine Ev.congr (fun k => ?_) h
      rw [if_neg (by simpa using hm), wrap_succ (by omega) (by omega)]
      rfl
theorem asc_ev (l : List Int) (hl : l.length ≤ 1000000) (nn : Int) (uu : Nat) (hu : uu ≤ 20) (ls : List PR.S175) : Ev (fun k => PR.tidewallref08_ascending.f k nn (uu : Int) ls l) (ascL l uu) := by
  unfold PR.tidewallref08_ascending.f
  have := asc_loop l hl nn uu hu ls uu 0 (by omega)
  exact this
/-- A set's list, by its members. -/
theorem trueFrom_asc (l : List Int) (s : List Bool) : ∀ (i : Nat), (∀ j, j < s.length → s.getD j false = decide (((i + j : Nat) : Int) ∈ l)) → trueFrom i s = (List.range s.length).filterMap (fun j => if ((i + j : Nat) : Int) ∈ l then some ((i + j : Nat) : Int) else none) := by
  induction s with
  | nil => intro i _; rfl
  | cons b r ih =>
    intro i h
    have h0 := h 0 (by simp)
    simp only [List.getD_cons_zero, Nat.add_zero] at h0
    have hr := ih (i + 1) (fun j hj => by
      have := h (j + 1) (by simp; omega)
      rw [List.getD_cons_succ] at this
      rw [this, show i + (j + 1) = i + 1 + j by omega])
    rw [List.length_cons, List.range_succ_eq_map, List.filterMap_cons, List.filterMap_map]
    simp only [trueFrom, Nat.add_zero]
    rw [hr]
    have e : (fun j => if ((i + 1 + j : Nat) : Int) ∈ l then some ((i + 1 + j : Nat) : Int) else none) = ((fun j => if ((i + j : Nat) : Int) ∈ l then some ((i + j : Nat) : Int) else none) ∘ Nat.succ) := by
      funext j
      simp only [Function.comp, show i + j.succ = i + 1 + j by omega]
    rw [e]
    by_cases hm : (i : Int) ∈ l
    · simp [h0, hm]
    · simp [h0, hm]
theorem listB_asc (l : List Int) (uu : Nat) (hu : uu ≤ 20) (hl : ∀ u ∈ l, 0 ≤ u ∧ u < uu) : listB (setUs noB l) = ascL l uu := by
  have hs : (setUs noB l).length = 20 := by rw [setUs_len]; rfl
  unfold listB
  rw [trueFrom_asc l (setUs noB l) 0 (fun j hj => by
    rw [hs] at hj
    rw [setUs_get l (fun u h => (hl u h).1) noB j (by simpa [noB] using hj)]
    have : noB.getD j false = false := by
      unfold noB
      rw [List.getD_eq_getElem?_getD, List.getElem?_replicate]
      split <;> rfl
    rw [this, Bool.false_or, Nat.zero_add])]
  rw [hs]
  simp only [Nat.zero_add]
  show ascL l 20 = ascL l uu
  have H : ∀ d, ascL l (uu + d) = ascL l uu := by
    intro d
    induction d with
    | zero => rfl
    | succ d ih =>
      rw [show uu + (d + 1) = (uu + d) + 1 by omega, ascL_succ, if_neg (fun h => by have := (hl _ h).2; omega), ih]
  have := H (20 - uu)
  rw [show uu + (20 - uu) = 20 by omega] at this
  exact this
end Go.Proofs.Ytgmglpnoppcnkaa
end
section
namespace Go.Proofs.Ytgmglpnoppcnkaa
open Go.RowKit Go.Proofs.YtgmglpnoppcnkaaW.PrintWords Go.Proofs.YtgmglpnoppcnkaaW.PrintLast Go.Proofs.YtgmglpnoppcnkaaW.PrintMore
set_option linter.unusedVariables false
set_option linter.unusedSimpArgs false
theorem wrapS (i : Nat) (h : i ≤ 1000000) : wrap64 ((i : Int) + 1) = ((i + 1 : Nat) : Int) := by unfold wrap64; omega
section
variable (l : List Du) (hl : l.length ≤ 1000000) (nn uu u : Int) (hn1 : 1 ≤ nn) (hn2 : nn ≤ 64) (L : List PR.S175)
include hl in
theorem rc_inner (i : Nat) (hi : i < l.length) (Rn : Int) (hnext : 0 ≤ l[i].f1 ∧ l[i].f1 ≤ u → Ev (fun k => PR.tidewallref08_receipts.l0 k (l.map cvR) u ((i + 1 : Nat) : Int) nn uu L) Rn) : ∀ (d j : Nat), j + d = i →
    Ev (fun k => PR.tidewallref08_receipts.l1 k (l.map cvR) u (i : Int) (j : Int) nn uu L) (if (tmOf ((l.take i).drop j) l[i].f0).isSome then 5 else if 0 ≤ l[i].f1 ∧ l[i].f1 ≤ u then Rn else 3) := by
  intro d
  induction d with
  | zero =>
    intro j hj
    obtain rfl : j = i := by omega
    have e0 : (l.take j).drop j = [] := List.drop_of_length_le (by rw [List.length_take]; omega)
    rw [e0, show tmOf [] l[j].f0 = none from rfl, if_neg (by simp)]
    by_cases h : 0 ≤ l[j].f1 ∧ l[j].f1 ≤ u
    · rw [if_pos h]
      refine Ev.step (fun k => ?_) (hnext h)
      rw [PR.tidewallref08_receipts.l1, if_neg (by omega), if_pos (by omega), if_pos (by rw [List.length_map]; omega), rd70 l j hi, rwithin, Option.bind_some, if_pos (show decide (0 ≤ (cvR l[j]).f1 ∧ (cvR l[j]).f1 ≤ u) = true from decide_eq_true h), wrapS j (by omega)]
    · rw [if_neg h]
      refine Ev.step (f := fun _ => some 3) (fun k => ?_) (Ev.now _)
      rw [PR.tidewallref08_receipts.l1, if_neg (by omega), if_pos (by omega), if_pos (by rw [List.length_map]; omega), rd70 l j hi, rwithin, Option.bind_some, if_neg (by rw [decide_eq_true_eq]; exact h)]
  | succ d ih =>
    intro j hj
    have hjl : j < l.length := by omega
    have hdrop : (l.take i).drop j = l[j] :: (l.take i).drop (j + 1) := by
      rw [List.drop_eq_getElem_cons (by rw [List.length_take]; omega)]
      congr 1
      exact List.getElem_take
    rw [hdrop, tmOf_cons]
    by_cases h : l[j].f0 = l[i].f0
    · rw [if_pos h, if_pos (by simp)]
      refine Ev.step (f := fun _ => some 5) (fun k => ?_) (Ev.now _)
      rw [PR.tidewallref08_receipts.l1, if_pos (by omega), if_pos (by omega), if_pos (by rw [List.length_map]; omega), if_pos (by omega), if_pos (by rw [List.length_map]; omega), rd70 l j hjl, rd70 l i hi, if_pos (show (cvR l[j]).f0 = (cvR l[i]).f0 from h)]
    · rw [if_neg h]
      refine Ev.step (fun k => ?_) (ih (j + 1) (by omega))
      rw [PR.tidewallref08_receipts.l1, if_pos (by omega), if_pos (by omega), if_pos (by rw [List.length_map]; omega), if_pos (by omega), if_pos (by rw [List.length_map]; omega), rd70 l j hjl, rd70 l i hi, if_neg (show ¬ (cvR l[j]).f0 = (cvR l[i]).f0 from h), wrapS j (by omega)]
include hl hn1 hn2 in
theorem rc_loop : ∀ (d i : Nat), i + d = l.length → Ev (fun k => PR.tidewallref08_receipts.l0 k (l.map cvR) u (i : Int) nn uu L) (rcErr nn u (l.take i) (l.drop i)) := by
  intro d
  induction d with
  | zero =>
    intro i hi
    rw [List.drop_of_length_le (by omega)]
    refine Ev.eq (Ev.step (f := fun _ => some 0) (fun k => ?_) (Ev.now _)) (by cases (l.take i) <;> rfl)
    rw [PR.tidewallref08_receipts.l0, if_neg (by rw [List.length_map]; omega)]
  | succ d ih =>
    intro i hi
    have hil : i < l.length := by omega
    by_cases h1 : 0 ≤ l[i].f0 ∧ l[i].f0 ≤ nn - 1
    · refine Ev.eq (Ev.step (fun k => ?_) (rc_inner l hl nn uu u L i hil (rcErr nn u (l.take (i + 1)) (l.drop (i + 1))) (fun _ => ih (i + 1) (by omega)) i 0 (by omega))) ?_
      · rw [PR.tidewallref08_receipts.l0, if_pos (by rw [List.length_map]; omega), if_pos (by omega), rd70 l i hil, rwithin, wrap_pred (show 0 ≤ nn by omega) (by omega), Option.bind_some, if_pos (show decide (0 ≤ (cvR l[i]).f0 ∧ (cvR l[i]).f0 ≤ nn - 1) = true from decide_eq_true h1)]
        rfl
      · rw [List.drop_zero]
        by_cases h2 : (tmOf (l.take i) l[i].f0).isSome = true
        · rw [if_pos h2, rcErr_twice hil h1 h2]
        · rw [if_neg h2]
          have h2' : tmOf (l.take i) l[i].f0 = none := by simpa using h2
          by_cases h3 : 0 ≤ l[i].f1 ∧ l[i].f1 ≤ u
          · rw [if_pos h3, rcErr_step hil h1 h2' h3]
          · rw [if_neg h3, rcErr_time hil h1 h2' h3]
    · refine Ev.eq (Ev.step (f := fun _ => some 4) (fun k => ?_) (Ev.now _)) (rcErr_none hil h1).symm
      rw [PR.tidewallref08_receipts.l0, if_pos (by rw [List.length_map]; omega), if_pos (by omega), rd70 l i hil, rwithin, wrap_pred (show 0 ≤ nn by omega) (by omega), Option.bind_some, if_neg (by rw [decide_eq_true_eq]; exact h1)]
include hl hn1 hn2 in
theorem rc_ev : Ev (fun k => PR.tidewallref08_receipts.f k nn uu L (l.map cvR) u) (rcErr nn u [] l) := by
  unfold PR.tidewallref08_receipts.f
  exact rc_loop l hl nn uu u hn1 hn2 L l.length 0 (by omega)
end
theorem hasB_fail (us : List Int) (hus : ∀ v ∈ us, 0 ≤ v) (v : Int) (h0 : 0 ≤ v) (h20 : v < 20) : hasB (failB us) v = decide (v ∈ us) := by
  unfold hasB failB
  rw [decide_eq_true h0, Bool.true_and, setUs_get us hus noB v.toNat (by show v.toNat < 20; omega)]
  have e0 : noB.getD v.toNat false = false := by
    unfold noB
    rw [List.getD_eq_getElem?_getD, List.getElem?_replicate]
    split <;> rfl
  rw [e0, Bool.false_or, Int.toNat_of_nonneg h0]
section
variable (l : List Du) (hl : l.length ≤ 1000000) (ls : List Lk) (hls : ls.length ≤ 1000000) (nn uu : Int) (us : List Int) (husl : us.length ≤ 1000000) (hus : ∀ v ∈ us, 0 ≤ v)
variable (hb : ∀ k t, tmOf l k = some t → 0 ≤ t ∧ t ≤ 1000000000) (hd : ∀ x ∈ ls, timedP x.f2.f0 x.f2.f1 ∧ -1 ≤ x.f3 ∧ x.f3 < 20)
include hl hls husl hus hb hd in
theorem br_loop (node tk : Int) (hk : tmOf l node = some tk) : ∀ (d i : Nat), i + d = ls.length → Ev (fun k => PR.tidewallref08_brought.l0 k (l.map cvR) us (brU (tmOf l) (failB us) node (ls.take i)) (i : Int) nn uu (ls.map cvL) node tk) (brU (tmOf l) (failB us) node ls) := by
  intro d
  induction d with
  | zero =>
    intro i hi
    rw [List.take_of_length_le (by omega)]
    refine Ev.step (f := fun _ => some (brU (tmOf l) (failB us) node ls)) (fun k => ?_) (Ev.now _)
    rw [PR.tidewallref08_brought.l0, if_neg (by rw [List.length_map]; omega)]
  | succ d ih =>
    intro i hi
    have hil : i < ls.length := by omega
    have hx := hd ls[i] (List.getElem_mem hil)
    have hsn := brU_snoc (tmOf l) (failB us) node (ls.take i) ls[i]
    rw [← take_snoc ls i hil] at hsn
    have h := ih (i + 1) (by omega)
    have hlen : (brU (tmOf l) (failB us) node (ls.take i)).length ≤ 1000000 := by
      have := brU_len (tmOf l) (failB us) node (ls.take i)
      rw [List.length_take] at this
      omega
    refine Ev.step (fun k => by rw [PR.tidewallref08_brought.l0, if_pos (by rw [List.length_map]; omega), if_pos (by omega), rd175 ls i hil]; rfl) (Ev.bind (time_ev l hl ls[i].f0) ?_)
    obtain ⟨x, hxe⟩ : ∃ x, x = ls[i] := ⟨_, rfl⟩
    rw [← hxe] at hx hsn ⊢
    obtain ⟨⟨p1, p2, p3⟩, p4, p5⟩ := hx
    by_cases c1 : x.f1 = node
    · by_cases c2 : (tmOf l x.f0).isSome = true
      · obtain ⟨t, ht⟩ := Option.isSome_iff_exists.1 c2
        have htb := hb _ _ ht
        have w0 : wrap64 (t + x.f2.f0) = t + x.f2.f0 := by unfold wrap64; omega
        have w1 : wrap64 (t + x.f2.f1) = t + x.f2.f1 := by unfold wrap64; omega
        have hbr : broughtB (tmOf l) (failB us) x = (decide (t + x.f2.f0 ≤ tk ∧ tk ≤ t + x.f2.f1) && !hasB (failB us) x.f3) := by
          unfold broughtB
          rw [ht, c1, hk]
          rfl
        by_cases c3 : t + x.f2.f0 ≤ tk ∧ tk ≤ t + x.f2.f1
        · by_cases c4 : x.f3 < 0
          · have hB : broughtB (tmOf l) (failB us) x = true := by
              rw [hbr, decide_eq_true c3]
              unfold hasB
              rw [decide_eq_false (by omega)]
              rfl
            rw [if_pos ⟨c1, hB⟩] at hsn
            rw [hsn] at h
            refine Ev.congr (fun k => ?_) h
            rw [if_pos (show (cvL x).f1 = node from c1), ht, if_pos (show (some t).getD (-1) ≥ 0 from htb.1), rwithin, Option.bind_some, if_pos (by rw [decide_eq_true_eq]; show wrap64 (t + x.f2.f0) ≤ tk ∧ tk ≤ wrap64 (t + x.f2.f1); rw [w0, w1]; exact c3), if_pos (show (cvL x).f3 < 0 from c4), if_pos (by omega), wrapS i (by omega)]
            rfl
          · by_cases c5 : x.f3 ∈ us
            · have hB : ¬ broughtB (tmOf l) (failB us) x = true := by
                rw [hbr, hasB_fail us hus x.f3 (by omega) p5, decide_eq_true c5]
                simp
              rw [if_neg (fun h => hB h.2)] at hsn
              rw [hsn] at h
              refine Ev.congr (f := fun n => (PR.tidewallref08_has.f n us x.f3).bind fun b => if b = true then PR.tidewallref08_brought.l0 n (l.map cvR) us (brU (tmOf l) (failB us) node (ls.take i)) ((i + 1 : Nat) : Int) nn uu (ls.map cvL) node tk else if (brU (tmOf l) (failB us) node (ls.take i)).length < 17592186044416 then PR.tidewallref08_brought.l0 n (l.map cvR) us (brU (tmOf l) (failB us) node (ls.take i) ++ [x.f3]) ((i + 1 : Nat) : Int) nn uu (ls.map cvL) node tk else none) (fun k => ?_) (Ev.bind (has_ev us husl x.f3) (Ev.congr (fun k => if_pos (decide_eq_true c5)) h))
              rw [if_pos (show (cvL x).f1 = node from c1), ht, if_pos (show (some t).getD (-1) ≥ 0 from htb.1), rwithin, Option.bind_some, if_pos (by rw [decide_eq_true_eq]; show wrap64 (t + x.f2.f0) ≤ tk ∧ tk ≤ wrap64 (t + x.f2.f1); rw [w0, w1]; exact c3), if_neg (show ¬ (cvL x).f3 < 0 from c4), wrapS i (by omega)]
              rfl
            · have hB : broughtB (tmOf l) (failB us) x = true := by
                rw [hbr, hasB_fail us hus x.f3 (by omega) p5, decide_eq_false c5, decide_eq_true c3]
                rfl
              rw [if_pos ⟨c1, hB⟩] at hsn
              rw [hsn] at h
              refine Ev.congr (f := fun n => (PR.tidewallref08_has.f n us x.f3).bind fun b => if b = true then PR.tidewallref08_brought.l0 n (l.map cvR) us (brU (tmOf l) (failB us) node (ls.take i)) ((i + 1 : Nat) : Int) nn uu (ls.map cvL) node tk else if (brU (tmOf l) (failB us) node (ls.take i)).length < 17592186044416 then PR.tidewallref08_brought.l0 n (l.map cvR) us (brU (tmOf l) (failB us) node (ls.take i) ++ [x.f3]) ((i + 1 : Nat) : Int) nn uu (ls.map cvL) node tk else none) (fun k => ?_) (Ev.bind (has_ev us husl x.f3) (Ev.congr (fun k => (if_neg (by rw [decide_eq_true_eq]; exact c5)).trans (if_pos (by omega))) h))
              rw [if_pos (show (cvL x).f1 = node from c1), ht, if_pos (show (some t).getD (-1) ≥ 0 from htb.1), rwithin, Option.bind_some, if_pos (by rw [decide_eq_true_eq]; show wrap64 (t + x.f2.f0) ≤ tk ∧ tk ≤ wrap64 (t + x.f2.f1); rw [w0, w1]; exact c3), if_neg (show ¬ (cvL x).f3 < 0 from c4), wrapS i (by omega)]
              rfl
        · have hB : ¬ broughtB (tmOf l) (failB us) x = true := by
            rw [hbr, decide_eq_false c3]
            simp
          rw [if_neg (fun h => hB h.2)] at hsn
          rw [hsn] at h
          refine Ev.congr (fun k => ?_) h
          rw [if_pos (show (cvL x).f1 = node from c1), ht, if_pos (show (some t).getD (-1) ≥ 0 from htb.1), rwithin, Option.bind_some, if_neg (by rw [decide_eq_true_eq]; show ¬ (wrap64 (t + x.f2.f0) ≤ tk ∧ tk ≤ wrap64 (t + x.f2.f1)); rw [w0, w1]; exact c3), wrapS i (by omega)]
      · have ht : tmOf l x.f0 = none := by simpa using c2
        have hB : ¬ broughtB (tmOf l) (failB us) x = true := by
          unfold broughtB
          rw [ht]
          simp
        rw [if_neg (fun h => hB h.2)] at hsn
        rw [hsn] at h
        refine Ev.congr (fun k => ?_) h
        rw [if_pos (show (cvL x).f1 = node from c1), ht, if_neg (show ¬ ((none : Option Int).getD (-1) ≥ 0) by decide), wrapS i (by omega)]
    · rw [if_neg (fun h => c1 h.1)] at hsn
      rw [hsn] at h
      refine Ev.congr (fun k => ?_) h
      rw [if_neg (show ¬ (cvL x).f1 = node from c1), wrapS i (by omega)]
include hl hls husl hus hb hd in
theorem br_ev (node tk : Int) (hk : tmOf l node = some tk) : Ev (fun k => PR.tidewallref08_brought.f k nn uu (ls.map cvL) (l.map cvR) node tk us) (brU (tmOf l) (failB us) node ls) := by
  unfold PR.tidewallref08_brought.f
  exact br_loop l hl ls hls nn uu us husl hus hb hd node tk hk ls.length 0 (by omega)
end
end Go.Proofs.Ytgmglpnoppcnkaa
end
