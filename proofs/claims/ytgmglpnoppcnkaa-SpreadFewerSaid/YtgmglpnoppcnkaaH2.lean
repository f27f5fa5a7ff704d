/- Contracts of small functions of package spread: a set's has, and the closures of first, last and least. -/
import Derived.Test.YtgmglpnoppcnkaaH1
import Derived.Deep.RegionHeld3
import Derived.Deep.RegionWith
import Derived.BigQuiet
namespace Go.Proofs.Ytgmglpnoppcnkaa
open Go.RowKit Go.Proofs.YtgmglpnoppcnkaaW.PrintWords Go.Proofs.YtgmglpnoppcnkaaW.PrintLast Go.Proofs.YtgmglpnoppcnkaaW.PrintMore
set_option linter.unusedVariables false
set_option linter.unusedSimpArgs false

/-- A set of units: twenty truth values. -/
def setCs (s : List Bool) : List Value := s.map Value.bool
theorem setCs_length (s : List Bool) : (setCs s).length = s.length := by simp [setCs]
/-- has: -1 is in none. -/
def hasB (s : List Bool) (u : Int) : Bool := decide (0 ≤ u) && s.getD u.toNat false

theorem info144 : (Try.prog.info? 144).map (·.size) = some 20 := by kernel_rfl

set_option maxRecDepth 100000
set_option maxHeartbeats 1000000 in
theorem has_calls (s : List Bool) (u : Int) (w : World) (hs : s.length = 20) (h0 : -1 ≤ u) (h1 : u < 20) :
    Calls Try.prog 106 #[.agg (setCs s).toArray, .int .i64 u] w fun e w' => e = .returned (.bool (hasB s u)) ∧ Below w.heap.size w w' := by
  by_cases hu : 0 ≤ u
  · obtain ⟨n, rfl⟩ := Int.eq_ofNat_of_zero_le hu
    have hd : decide (0 ≤ (n : Int)) = true := by simp
    have hn : n < s.length := by omega
    go_enter Try.func106, Try.ntmps106
    go_wp2_with ((with_reducible refine gate_dst (N := 2) rfl ?_); refine hold ?_)
    refine box_event rfl (N := 2) rfl (cs := (setCs s).toArray) (t := 144) (by go_simp) ?_
    intro g hg w1 hb hB
    have HB := Aside0.mk hB
    have hcell : w1.cell? ⟨g, n, none⟩ = some (.bool (hasB s n)) := by
      rw [blk_cell hb n]
      simp [setCs, hasB, List.getElem?_eq_getElem hn]
    clear hB hb hg hn hs
    go_wp2
    go_ret
    exact ⟨rfl, HB.out⟩
  · have hd : decide (0 ≤ u) = false := by simpa using hu
    have hr : hasB s u = false := by simp [hasB, hu]
    have HR := Aside0.mk hr
    clear hr
    go_enter Try.func106, Try.ntmps106
    go_wp2_with ((with_reducible refine gate_dst (N := 2) rfl ?_); refine hold ?_)
    refine box_event rfl (N := 2) rfl (cs := (setCs s).toArray) (t := 144) (by go_simp) ?_
    intro g hg w1 hb hB
    have HB := Aside0.mk hB
    clear hB hb hg hs
    go_wp2
    go_ret
    exact ⟨by rw [HR.out]; rfl, HB.out⟩

/-- least's order: by the time. -/
theorem less_calls (n1 t1 n2 t2 : Int) (w : World) :
    Calls Try.prog 119 #[.agg #[.int .i64 n1, .int .i64 t1], .agg #[.int .i64 n2, .int .i64 t2]] w fun e w' => e = .returned (.bool (decide (t1 < t2))) ∧ Below w.heap.size w w' := by
  go_enter Try.func119, Try.ntmps119
  go_wp2
  go_ret
  exact ⟨rfl, below_alloc (below_alloc (Below.refl _ _) _) _⟩

/-- A link's cells. -/
def linkCs (l : PB.S88) : Array Value := #[.int .i64 l.f0, .int .i64 l.f1, .int .i64 l.f2.f0, .int .i64 l.f2.f1, .int .i64 l.f3, .bool l.f4]

theorem range_below {w W : World} {b o : Nat} {cs : List Value} (h : w.rangeAt b o cs) (hB : Below w.heap.size w W) : W.rangeAt b o cs := fun j v hj => (hB.cell (World.block_lt_of_cell? w _ (h j v hj))).trans (h j v hj)
/-- What a region's loads ask stays true behind a call that leaves old memory alone. -/
theorem keepC {w1 W W' : World} {X : World → Prop} (hX : ∀ W, Below w1.heap.size w1 W → X W) (h : Below w1.heap.size w1 W ∧ X W) (h' : Below W.heap.size W W') : Below w1.heap.size w1 W' ∧ X W' :=
  ⟨below_step h.1 h', hX _ (below_step h.1 h')⟩
theorem keepC0 {w1 : World} {X : World → Prop} (hX : ∀ W, Below w1.heap.size w1 W → X W) : Below w1.heap.size w1 w1.drew ∧ X w1.drew :=
  ⟨below_drew1 (Below.refl _ _), hX _ (below_drew1 (Below.refl _ _))⟩
theorem keep_range {w1 W W' : World} {b o : Nat} {cs : List Value} (hr : w1.rangeAt b o cs) (h : Below w1.heap.size w1 W) (h' : Below W.heap.size W W') : Below w1.heap.size w1 W' ∧ W'.rangeAt b o cs :=
  ⟨below_step h h', range_below hr (below_step h h')⟩

/-- first's closure: the least delay; whether its unit has not failed. -/
theorem first1_calls (s : List Bool) (l : PB.S88) (b : Nat) (w : World) (hs : s.length = 20) (h0 : -1 ≤ l.f3) (h1 : l.f3 < 20) (hb : w.rangeAt b 0 (setCs s)) (hlt : b < w.heap.size) :
    Calls Try.prog 105 #[.agg (linkCs l), .pointer (some ⟨b, 0, none⟩)] w fun e w' => e = .returned (.tuple #[.int .i64 l.f2.f0, .bool (!hasB s l.f3)]) ∧ Below w.heap.size w w' := by
  unfold linkCs
  go_enter Try.func105, Try.ntmps105
  go_wp2_with ((with_reducible refine gate_dst (N := 2) rfl ?_); refine hold ?_)
  refine box_event rfl (N := 2) rfl (cs := linkCs l) (t := 88) (by unfold linkCs; go_simp) ?_
  intro g hg w1 hb1 hB
  have HB := Aside0.mk hB
  have c2 : ∀ W, Below w1.heap.size w1 W → W.cell? ⟨g, 2, none⟩ = some (.int .i64 l.f2.f0) := fun W h => blk_cell (blk_below hb1 h) 2
  have c4 : ∀ W, Below w1.heap.size w1 W → W.cell? ⟨g, 4, none⟩ = some (.int .i64 l.f3) := fun W h => blk_cell (blk_below hb1 h) 4
  have hr1 := range_below hb hB
  have hu144 := Try.underlying144
  have hi144 : (Try.prog.info? 144).map (·.size) = some (setCs s).length := by rw [setCs_length, hs]; exact info144
  have HR := Aside0.mk hr1
  have HS := Aside0.mk hs
  clear hB hb1 hg hb hlt hr1 hs
  go_wp2
  go_region_held3 (fun W => Below w1.heap.size w1 W ∧ W.rangeAt b 0 (setCs s)) (first | exact keepC0 (fun W h => range_below HR.out h) | exact keepC (fun W h => range_below HR.out h) (by assumption) (by assumption)) (first | (go_at_call 106; refine (has_calls s l.f3 _ HS.out h0 h1).mono ?_; rintro e w' ⟨rfl, hbh⟩))
  rename_i hh
  have HH := Aside0.mk hh.1
  clear hh hbh c2 c4 hu144 hi144
  go_wp2
  go_ret2
  exact ⟨rfl, below_step HB.out HH.out⟩

/-- last's closure: the greatest delay; whether the link is sure and its unit is none of those. -/
theorem last1_calls (s : List Bool) (l : PB.S88) (b : Nat) (w : World) (hs : s.length = 20) (h0 : -1 ≤ l.f3) (h1 : l.f3 < 20) (hb : w.rangeAt b 0 (setCs s)) (hlt : b < w.heap.size) :
    Calls Try.prog 116 #[.agg (linkCs l), .pointer (some ⟨b, 0, none⟩)] w fun e w' => e = .returned (.tuple #[.int .i64 l.f2.f1, .bool (l.f4 && !hasB s l.f3)]) ∧ Below w.heap.size w w' := by
  obtain ⟨fr, tu, ⟨lo, hi⟩, un, sure⟩ := l
  simp only at h0 h1 ⊢
  cases sure
  · unfold linkCs
    go_enter Try.func116, Try.ntmps116
    go_wp2_with ((with_reducible refine gate_dst (N := 2) rfl ?_); refine hold ?_)
    refine box_event rfl (N := 2) rfl (cs := #[.int .i64 fr, .int .i64 tu, .int .i64 lo, .int .i64 hi, .int .i64 un, .bool false]) (t := 88) (by go_simp) ?_
    intro g hg w1 hb1 hB
    have HB := Aside0.mk hB
    have c3 : w1.cell? ⟨g, 3, none⟩ = some (.int .i64 hi) := blk_cell hb1 3
    have c5 : w1.cell? ⟨g, 5, none⟩ = some (.bool false) := blk_cell hb1 5
    clear hB hb1 hg hb hlt
    go_wp2
    go_quiet (fail)
    go_wp2
    go_ret2
    exact ⟨rfl, by repeat (first | exact HB.out | apply pw_below_drewN | apply below_drew1)⟩
  · unfold linkCs
    go_enter Try.func116, Try.ntmps116
    go_wp2_with ((with_reducible refine gate_dst (N := 2) rfl ?_); refine hold ?_)
    refine box_event rfl (N := 2) rfl (cs := #[.int .i64 fr, .int .i64 tu, .int .i64 lo, .int .i64 hi, .int .i64 un, .bool true]) (t := 88) (by go_simp) ?_
    intro g hg w1 hb1 hB
    have HB := Aside0.mk hB
    have c3 : ∀ W, Below w1.heap.size w1 W → W.cell? ⟨g, 3, none⟩ = some (.int .i64 hi) := fun W h => blk_cell (blk_below hb1 h) 3
    have c4 : ∀ W, Below w1.heap.size w1 W → W.cell? ⟨g, 4, none⟩ = some (.int .i64 un) := fun W h => blk_cell (blk_below hb1 h) 4
    have c5 : ∀ W, Below w1.heap.size w1 W → W.cell? ⟨g, 5, none⟩ = some (.bool true) := fun W h => blk_cell (blk_below hb1 h) 5
    have hr1 := range_below hb hB
    have hu144 := Try.underlying144
    have hi144 : (Try.prog.info? 144).map (·.size) = some (setCs s).length := by rw [setCs_length, hs]; exact info144
    have HR := Aside0.mk hr1
    have HS := Aside0.mk hs
    clear hB hb1 hg hb hlt hr1 hs
    go_wp2
    go_region_held3 (fun W => Below w1.heap.size w1 W ∧ W.rangeAt b 0 (setCs s)) (first | exact keepC0 (fun W h => range_below HR.out h) | exact keepC (fun W h => range_below HR.out h) (by assumption) (by assumption)) (first | (go_at_call 106; refine (has_calls s un _ HS.out h0 h1).mono ?_; rintro e w' ⟨rfl, hbh⟩))
    rename_i hh
    have HH := Aside0.mk hh.1
    clear hh hbh c3 c4 c5 hu144 hi144
    go_wp2
    go_ret2
    exact ⟨rfl, below_step HB.out HH.out⟩
end Go.Proofs.Ytgmglpnoppcnkaa
